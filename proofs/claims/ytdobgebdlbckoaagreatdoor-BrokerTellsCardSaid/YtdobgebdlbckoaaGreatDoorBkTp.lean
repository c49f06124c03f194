/-
  The plain law of what a broker tells: a delivery is heard as what was published; what is no delivery is one fault. No program is named here.
-/
import Derived.Test.YtdobgebdlbckoaaGreatDoorBkLp
namespace Go.Proofs.YtdobgebdlbckoaaGreatDoor.BkTp
open Go Go.Proofs.YtdobgebdlbckoaaGreatDoor.WdP Go.Proofs.YtdobgebdlbckoaaGreatDoor.TpP Go.Proofs.YtdobgebdlbckoaaGreatDoor.Mp Go.Proofs.YtdobgebdlbckoaaGreatDoor.BkP Go.Proofs.YtdobgebdlbckoaaGreatDoor.BkLp
/-- How often each member published, kept beside the broker. -/
def Lst (L : Pub) (b : BS) : Prop := ∀ k, isM b k = true → getM k L = getM k b.1
theorem Lst.join {L : Pub} {b : BS} (h : Lst L b) {id : Int} (h0 : (joinB b id).1 = 0) : Lst (putM id 0 L) (joinB b id).2 := by
  unfold joinB at h0 ⊢
  split at h0
  · cases h0
  · split at h0
    · cases h0
    · rename_i h1 h2
      rw [if_neg h1, if_neg h2]
      intro k hk
      simp only
      rw [getM_put, getM_put]
      split
      · rfl
      · rename_i hne
        refine h k ?_
        unfold isM at hk ⊢
        simp only at hk
        rwa [getM_put, if_neg hne] at hk
theorem Lst.join_not {L : Pub} {b : BS} (h : Lst L b) {id : Int} (h0 : (joinB b id).1 ≠ 0) : Lst L (joinB b id).2 := by
  unfold joinB at h0 ⊢
  split at h0
  · rename_i h1; rw [if_pos h1]; exact h
  · split at h0
    · rename_i h1 h2; rw [if_neg h1, if_pos h2]; exact h
    · exact absurd rfl h0
theorem Lst.leave {L : Pub} {b : BS} (h : Lst L b) (id : Int) : Lst L (leaveB b id).2 := by
  unfold leaveB
  split
  · intro k hk
    unfold isM at hk
    simp only at hk ⊢
    rw [getM_del] at hk ⊢
    split
    · rename_i e; rw [if_pos e] at hk; cases hk
    · rename_i e; rw [if_neg e] at hk; exact h k hk
  · exact h
/-- What is no delivery: nothing told, or one fault; the members as they were. -/
theorem do_else {L : Pub} {b : BS} (h : Lst L b) {id op : Int} {s : Tx} (hm : isM b id = true) (hs : parseW s = none ∨ ∃ c, parseW s = some c ∧ c.1 ≠ 3) :
    Lst L (doB b id op s).2 ∧ (((doB b id op s).1 = [] ∧ parseW s ≠ none) ∨ ∃ n : Nat, 1 ≤ n ∧ n ≤ 3 ∧ (doB b id op s).1 = [(id, 1, errT n)]) := by
  unfold doB
  rw [if_pos hm]
  rcases hs with hs | ⟨c, hs, hc⟩
  · rw [hs]
    exact ⟨h, .inr ⟨1, by omega, by omega, rfl⟩⟩
  · have hk := (BkD.parse_le hs).2.2.2
    rw [hs]
    simp only
    by_cases h1 : c.1 = 1
    · rw [if_pos h1]
      unfold subB
      split
      · exact ⟨h, .inr ⟨2, by omega, by omega, rfl⟩⟩
      · exact ⟨h, .inl ⟨rfl, by simp⟩⟩
    · rw [if_neg h1]
      have h2 : c.1 = 2 := by omega
      rw [if_pos h2]
      unfold unsubB
      split
      · exact ⟨h, .inl ⟨rfl, by simp⟩⟩
      · exact ⟨h, .inr ⟨3, by omega, by omega, rfl⟩⟩
theorem faulted_err {n : Nat} (h : n ≤ 4611686018427387904) : faultedW (errT n) = some n := by
  have hm : may (n : Int) = true := by unfold may; simp; omega
  have hf : faultW n = some (errT n) := by unfold errT faultW; rw [if_pos hm]; rfl
  obtain ⟨m, e, h1, -⟩ := faulted_fault hf
  have : m = n := by omega
  rw [h1, this]
theorem errT_len (n : Nat) (h : n < 10 ^ 20) : (errT n).length ≤ 30 := by
  unfold errT faultW
  split
  · have := dec_len 20 n (by omega) h
    simp [wERR]
    omega
  · simp
theorem do_pub3 {b : BS} {id op : Int} {s t d : Tx} (hm : isM b id = true) (hs : parseW s = some (3, t, d)) : doB b id op s = pubB b id op t d := by
  unfold doB
  rw [if_pos hm, hs]
  simp only
  rw [if_neg (by decide), if_neg (by decide)]
/-- A delivery is heard as what was published. -/
theorem tell_hear {b : BS} {m : Nat} (hI : Inv b m) {id : Int} {s t d : Tx} (hm : isM b id = true) (hs : parseW s = some (3, t, d)) (hl : s.length ≤ 100) (n : Nat) (hn : n ≤ 1000001) :
    ∃ k : Nat, id = k ∧ hearW (tellT t id n d) = some (t, k, n, d) ∧ (tellT t id n d).length ≤ 1000 := by
  obtain ⟨v, -, hv⟩ := isM_mem hm
  obtain ⟨h0, h1, -⟩ := hI.ok.ids _ hv
  simp only at h0 h1
  obtain ⟨hl1, hl2, ht, -⟩ := BkD.parse_le hs
  simp only at hl1 hl2 ht
  have hi : may id = true := by unfold may; simp; omega
  have hj : may (n : Int) = true := by unfold may; simp; omega
  have htl : toldW t id n d = some (tellT t id n d) := by unfold tellT toldW; rw [if_pos (by simp [ht, hi, hj])]; rfl
  obtain ⟨k, n', e1, e2, hh⟩ := hear_told htl
  have : n' = n := by omega
  subst this
  refine ⟨k, e1, hh, ?_⟩
  have hx : tellT t id n' d = wMSG ++ 32 :: (t ++ 32 :: (Lib.decDigits id.toNat ++ 32 :: (Lib.decDigits ((n' : Nat) : Int).toNat ++ 32 :: d))) := by
    have h2 := htl
    unfold toldW at h2
    rw [if_pos (by simp [ht, hi, hj])] at h2
    exact (Option.some.inj h2).symm
  rw [hx]
  have d1 := dec_len 20 id.toNat (by omega) (by omega)
  have d2 := dec_len 20 ((n' : Nat) : Int).toNat (by omega) (by omega)
  simp only [List.length_append, List.length_cons, wMSG, List.length_nil]
  omega
theorem Lst.pub {L : Pub} {b : BS} (h : Lst L b) {id : Int} (hm : isM b id = true) (op : Int) (t d : Tx) {n : Nat} (hn : (getM id b.1).getD 0 + 1 = n) : Lst (putM id n L) (pubB b id op t d).2 := by
  intro k hk
  rw [pub_isM hm] at hk
  unfold pubB
  simp only
  rw [hn, getM_put, getM_put]
  split
  · rfl
  · exact h k hk
theorem Lst.get {L : Pub} {b : BS} (h : Lst L b) {id : Int} (hm : isM b id = true) : (getM id L).getD 0 = (getM id b.1).getD 0 := by rw [h id hm]
end Go.Proofs.YtdobgebdlbckoaaGreatDoor.BkTp
