import Derived.Test.YtedkkcbdhbbegaaTmI6
import Derived.Test.YtedkkcbdhbbegaaFork
import Derived.WalkLawsBesides
import Derived.WalkSpells
import Derived.Test.YtedkkcbdhbbegaaRng
import Derived.OwnWalkIn
import Derived.TacticsInMore
import Derived.LoopNIn
import Derived.LoopIn
namespace Go.Proofs.Ytedkkcbdhbbegaa.TmI7
open Go Go.RowKit Go.Proofs Go.Proofs.Ytedkkcbdhbbegaa.Sep Go.Proofs.Ytedkkcbdhbbegaa.Reg Go.Proofs.Ytedkkcbdhbbegaa.Frame Go.Proofs.Ytedkkcbdhbbegaa.Slc Go.Proofs.Ytedkkcbdhbbegaa.Fork Go.Proofs.Ytedkkcbdhbbegaa.TmP Go.Proofs.Ytedkkcbdhbbegaa.TmQ Go.Proofs.Ytedkkcbdhbbegaa.Rng Go.Proofs.Ytedkkcbdhbbegaa.TmI Go.Proofs.Ytedkkcbdhbbegaa.TmI2 Go.Proofs.Ytedkkcbdhbbegaa.TmI3 Go.Proofs.Ytedkkcbdhbbegaa.TmI4 Go.Proofs.Ytedkkcbdhbbegaa.TmI5 Go.Proofs.Ytedkkcbdhbbegaa.TmI6

/-- What a range over all does: yield, timer by timer; each word 'no more' ends it. -/
def APost (W : World) (I : Asn) (J : Code → Asn) (e : Ending) (w' : World) : Prop := (∃ v, e = .returned v) ∧ (St W w' I ∨ ∃ c, St W w' (J c))
set_option maxRecDepth 100000 in
set_option maxHeartbeats 8000000 in
theorem All1_any (p b y m : Nat) (v : Value) (l : List (κ × Int)) (hl : l.length ≤ 1000000) (I : List (κ × Int) → Asn) (J : Code → Asn) {W w : World}
    (hY : ∀ pre x post, l = pre ++ x :: post → ∀ C w, St W w (star C (I pre)) → YieldAt Fence.wide m Try.prog y #[kv x.1, .int .i64 x.2] w fun e w' => (e = .returned (.bool true) ∧ St W w' (star C (I (pre ++ [x])))) ∨ (e = .returned (.bool false) ∧ ∃ c, St W w' (star C (J c))))
    (h : St W w (I [])) (hb : w.cell? ⟨b, 0, none⟩ = some (.pointer (some ⟨p, 0, none⟩))) (hp : w.cell? ⟨p, 0, none⟩ = some v) (hsl : Sl w 2 v l.length (tsV l)) :
    CallsIn Fence.wide (m + 1) Try.prog 42 #[.func (.yield y) #[] #[], .pointer (some ⟨b, 0, none⟩)] w (APost W (I l) J) := by
  have HC := Lib.hid (Clone_any v l l.length rfl hl h hsl)
  obtain ⟨_, va, vc, rfl, _⟩ := id hsl
  refine callsIn_of_wp Try.func42 rfl trivial ?_ rfl
  simp only [Try.ntmps42, List.size_toArray, List.length_cons, List.length_nil, Nat.reduceAdd, Nat.reduceSub, Array.replicate_succ, Array.replicate_zero, List.push_toArray, List.append_toArray, List.nil_append, List.cons_append]
  gi_wp2_with fail
  refine ⟨trivial, callsIn_wide.2 (HC.out.mono ?_)⟩
  rintro e w1 ⟨v', rfl, h1⟩
  obtain ⟨_, ca, cc, rfl, hlc, hcm, _⟩ := id h1.rowSl
  have hcm2 : cc ≤ 9223372036854775807 := by simpa [maxLen] using hcm
  clear HC hsl hp hb h
  gi_wp2_with fail
  have HY := Lib.hid hY
  clear hY
  gi_loopw [13] (fun iv wr => ∃ i : Nat, i ≤ l.length ∧ iv = .int .i64 i ∧ St W wr (star (Row 61 2 (.slice ca l.length cc) l.length (tsV l)) (I (l.take i)))) (fun iv _ => l.length - (intOf iv).toNat)
  case atStart => exact ⟨0, Nat.zero_le _, rfl, by simpa using h1⟩
  case round =>
    obtain ⟨i, hi, rfl, hS⟩ := hrel
    by_cases hin : i < l.length
    · obtain ⟨x, hx⟩ : ∃ x, l[i]? = some x := ⟨_, List.getElem?_eq_getElem hin⟩
      obtain ⟨ab, ao, rfl, hel⟩ := el_at hS.rowSl hx
      have HX : Hid (l = l.take i ++ x :: l.drop (i + 1)) := Lib.hid (by
        have e := List.drop_eq_getElem_cons hin
        rw [List.getElem?_eq_getElem hin] at hx
        cases hx
        rw [← e, List.take_append_drop])
      have HT : Hid (l.take (i + 1) = l.take i ++ [x]) := Lib.hid (by rw [List.take_add_one, hx]; rfl)
      obtain ⟨k, d⟩ := x
      obtain ⟨he0, he1⟩ := hel _ _ ((St.start wr))
      have h2 := hS.alloc (.cells #[.int .i64 k, .int .i64 d] 61)
      have hin2 : (i : Int) < l.length := by omega
      have hz := HY.out (l.take i) (k, d) _ HX.out _ _ (h2.eq (star_assoc _ _ _).symm)
      obtain ⟨fn, tmps, assign, body, hy, hR⟩ := hz
      have hy' : (Instr.yield y #[.int .i64 k, .int .i64 d]).run Try.prog (wr.alloc (.cells #[.int .i64 k, .int .i64 d] 61)) = .ok (.round y fn tmps assign body) (wr.alloc (.cells #[.int .i64 k, .int .i64 d] 61)) := hy
      clear hel hx hy
      gi_wp2_with fail
      refine hR.mono ?_
      rintro e w3 (⟨rfl, h3⟩ | ⟨rfl, c, h3⟩)
      · have h4 := (h3.eq (star_assoc _ _ _)).right
        rw [← HT.out] at h4
        gi_wp2_with fail
        exact ⟨⟨i + 1, hin, by go_num, h4⟩, by simp [intOf]; omega⟩
      · gi_wp2_with fail
        refine bodyPost_ret (results_none rfl _ _ _) rfl ?_
        exact ⟨⟨_, rfl⟩, .inr ⟨c, h3.right⟩⟩
    · obtain rfl : i = l.length := by omega
      rw [List.take_length] at hS
      gi_wp2_with fail
      refine bodyPost_ret (results_none rfl _ _ _) rfl ?_
      exact ⟨⟨_, rfl⟩, .inl hS.right⟩

end Go.Proofs.Ytedkkcbdhbbegaa.TmI7
