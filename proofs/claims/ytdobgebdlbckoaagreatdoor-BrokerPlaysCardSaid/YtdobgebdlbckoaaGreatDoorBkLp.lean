/-
  The plain law of a broker under acts: who hears is a member, what is heard is a topic; what comes of leaving. No program is named here.
-/
import Derived.Test.YtdobgebdlbckoaaGreatDoorBkD
namespace Go.Proofs.YtdobgebdlbckoaaGreatDoor.BkLp
open Go Go.Proofs.YtdobgebdlbckoaaGreatDoor.WdP Go.Proofs.YtdobgebdlbckoaaGreatDoor.TpP Go.Proofs.YtdobgebdlbckoaaGreatDoor.Mp Go.Proofs.YtdobgebdlbckoaaGreatDoor.BkP
structure Inv (b : BS) (m : Nat) : Prop where
  ok : Okb b m
  nd : b.2.Nodup
  tp : ∀ x ∈ b.2, topic x.1 = true ∧ isM b x.2 = true
theorem Inv.nil : Inv ([], []) 0 := ⟨Okb.nil, List.nodup_nil, by simp⟩
theorem Inv.mono {b : BS} {m n : Nat} (h : Inv b m) (hn : m ≤ n) : Inv b n := ⟨h.ok.mono hn, h.nd, h.tp⟩
theorem isM_put {b : BS} {l : List Pr} {id k : Int} {n : Nat} (h : isM b k = true) : isM (putM id n b.1, l) k = true := by
  unfold isM at *
  simp only
  rw [getM_put]
  split
  · rfl
  · exact h
theorem Inv.join {b : BS} {m : Nat} (h : Inv b m) (id : Int) : Inv (joinB b id).2 (m + 1) := by
  refine ⟨h.ok.join id, ?_, ?_⟩ <;> unfold joinB
  · split
    · exact h.nd
    · split
      · exact h.nd
      · exact h.nd
  · split
    · exact h.tp
    · split
      · exact h.tp
      · exact fun x hx => ⟨(h.tp x hx).1, isM_put (h.tp x hx).2⟩
theorem Inv.leave {b : BS} {m : Nat} (h : Inv b m) (id : Int) : Inv (leaveB b id).2 (m + 1) := by
  refine ⟨h.ok.leave id, ?_, ?_⟩ <;> unfold leaveB
  · split
    · exact h.nd.sublist List.filter_sublist
    · exact h.nd
  · split
    · intro x hx
      have hx2 := List.mem_filter.1 hx
      refine ⟨(h.tp x hx2.1).1, ?_⟩
      have h1 := (h.tp x hx2.1).2
      have h2 : x.2 ≠ id := by simpa using hx2.2
      unfold isM at *
      simp only
      rw [getM_del, if_neg h2]
      exact h1
    · exact h.tp
theorem Inv.do_ {b : BS} {m : Nat} (h : Inv b m) (id op : Int) (s : Tx) : Inv (doB b id op s).2 (m + 1) := by
  refine ⟨h.ok.do_ id op s, ?_, ?_⟩
  · unfold doB
    split
    · split
      · exact h.nd
      · split
        · unfold subB
          split
          · exact h.nd
          · simp only
            unfold addQ
            split
            · exact h.nd
            · rename_i hq
              exact List.nodup_append.2 ⟨h.nd, by simp, by intro a ha c hc; simp at hc; subst hc; rintro rfl; exact hq ha⟩
        · split
          · unfold unsubB
            split
            · exact h.nd.sublist List.filter_sublist
            · exact h.nd
          · exact h.nd
    · exact h.nd
  · unfold doB
    split
    · rename_i hm
      split
      · exact h.tp
      · rename_i c hc
        have ht := (BkD.parse_le hc).2.2.1
        split
        · unfold subB
          split
          · exact h.tp
          · simp only
            unfold addQ
            split
            · exact h.tp
            · intro x hx
              rcases List.mem_append.1 hx with hx | hx
              · exact h.tp x hx
              · simp at hx; subst hx; exact ⟨ht, hm⟩
        · split
          · unfold unsubB
            split
            · exact fun x hx => h.tp x (List.mem_filter.1 hx).1
            · exact h.tp
          · exact fun x hx => ⟨(h.tp x hx).1, isM_put (h.tp x hx).2⟩
    · exact h.tp
/-- Who has left: no member, hears nothing; the others as they were. -/
theorem gone {b : BS} {m : Nat} (h : Inv b m) (id : Int) : isM (leaveB b id).2 id = false ∧ byP (leaveB b id).2.2 id = [] ∧ (∀ k, k ≠ id → byP (leaveB b id).2.2 k = byP b.2 k ∧ isM (leaveB b id).2 k = isM b k) ∧ (∀ t, id ∉ ofP (leaveB b id).2.2 t) ∧ ((leaveB b id).1 = if isM b id = true then 0 else 4) := by
  unfold leaveB
  by_cases hm : isM b id = true
  · rw [if_pos hm, if_pos hm]
    refine ⟨?_, ?_, fun k hk => ⟨?_, ?_⟩, fun t ht => ?_, rfl⟩
    · unfold isM; simp only; rw [getM_del, if_pos rfl]; rfl
    · simp only; rw [byP_dropAll, if_pos rfl]
    · simp only; rw [byP_dropAll, if_neg hk]
    · unfold isM; simp only; rw [getM_del, if_neg hk]
    · simp only [ofP_dropAll] at ht
      have := (List.mem_filter.1 ht).2
      simp at this
  · rw [if_neg hm, if_neg hm]
    refine ⟨by simpa using hm, ?_, fun k _ => ⟨rfl, rfl⟩, fun t ht => ?_, rfl⟩
    · refine List.eq_nil_iff_forall_not_mem.2 fun t ht => hm (h.tp _ (mem_byP.1 ht)).2
    · exact hm (h.tp _ (mem_ofP.1 ht)).2
/-- A delivery by one who hears the topic. -/
def pubX (t : Tx) : Tx := wPUB ++ 32 :: (t ++ 32 :: [120])
theorem do_pub {b : BS} {k : Int} {t : Tx} (hm : isM b k = true) (ht : topic t = true) (op : Int) : doB b k op (pubX t) = pubB b k op t [120] := by
  have hp : parseW (pubX t) = some (3, t, [120]) := by
    obtain ⟨n, hn, hp, _⟩ := parse_bytes (k := 3) (t := t) (d := [120]) (s := pubX t) (by simp [bytesW, ht, pubX])
    obtain rfl : n = 3 := by omega
    exact hp
  unfold doB
  rw [if_pos hm, hp]
  simp only
  rw [if_neg (by decide), if_neg (by decide)]
theorem pub_outs {b : BS} {k id : Int} {t : Tx} (hk : t ∈ byP b.2 k) (hid : id ∉ ofP b.2 t) (op : Int) (d : Tx) : 1 ≤ (pubB b k op t d).1.length ∧ (∀ o ∈ (pubB b k op t d).1, o.1 ≠ id) ∧ (pubB b k op t d).2.2 = b.2 ∧ (∀ j, isM b j = true → isM (pubB b k op t d).2 j = true) := by
  unfold pubB
  refine ⟨?_, ?_, rfl, fun j hj => isM_put hj⟩
  · have h1 : k ∈ ofP b.2 t := mem_ofP.2 (mem_byP.1 hk)
    have := List.length_pos_of_mem h1
    simp only [List.length_map]
    omega
  · intro o ho
    simp only [List.mem_map] at ho
    obtain ⟨j, hj, rfl⟩ := ho
    rintro rfl
    exact hid hj
theorem pub_isM {b : BS} {k : Int} (hm : isM b k = true) (op : Int) (t d : Tx) (j : Int) : isM (pubB b k op t d).2 j = isM b j := by
  unfold pubB
  by_cases hj : j = k
  · subst hj; rw [hm]; exact isM_put hm
  · unfold isM
    simp only
    rw [getM_put, if_neg hj]
def oth (b : BS) (id : Int) (l : List Int) : List (Int × List Tx) := l.foldl (fun m k => if k = id then m else putM k (byP b.2 k) m) []
theorem oth_snoc (b : BS) (id : Int) (l : List Int) (k : Int) : oth b id (l ++ [k]) = if k = id then oth b id l else putM k (byP b.2 k) (oth b id l) := by
  unfold oth; rw [List.foldl_append]; rfl
theorem oth_get0 (b : BS) (id : Int) {k : Int} (hk : k ≠ id) : ∀ (l : List Int) (m : List (Int × List Tx)), (k ∈ l ∨ getM k m = some (byP b.2 k)) → getM k (l.foldl (fun m k => if k = id then m else putM k (byP b.2 k) m) m) = some (byP b.2 k)
  | [], m, h => by rcases h with h | h; cases h; exact h
  | x :: l, m, h => by
    rw [List.foldl_cons]
    refine oth_get0 b id hk l _ ?_
    rcases h with h | h
    · rcases List.mem_cons.1 h with rfl | h
      · right; rw [if_neg hk, getM_put, if_pos rfl]
      · exact .inl h
    · right
      split
      · exact h
      · rw [getM_put]
        split
        · rename_i e; rw [e]
        · exact h
theorem oth_get (b : BS) (id : Int) {l : List Int} {k : Int} (h : k ∈ l) (hk : k ≠ id) : getM k (oth b id l) = some (byP b.2 k) := oth_get0 b id hk l [] (.inl h)
end Go.Proofs.YtdobgebdlbckoaaGreatDoor.BkLp
