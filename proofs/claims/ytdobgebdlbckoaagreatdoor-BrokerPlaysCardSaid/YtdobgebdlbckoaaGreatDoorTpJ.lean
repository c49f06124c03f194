import Derived.Test.YtdobgebdlbckoaaGreatDoorTpI
import Derived.Test.YtdobgebdlbckoaaGreatDoorRngB
import Derived.Test.YtdobgebdlbckoaaGreatDoorFork
import Derived.WalkLawsBesides
import Derived.WalkSpells
namespace Go.Proofs.YtdobgebdlbckoaaGreatDoor.TpJ
open Go Go.RowKit Go.Proofs Go.Proofs.YtdobgebdlbckoaaGreatDoor.Sep Go.Proofs.YtdobgebdlbckoaaGreatDoor.Reg Go.Proofs.YtdobgebdlbckoaaGreatDoor.Frame Go.Proofs.YtdobgebdlbckoaaGreatDoor.Slc Go.Proofs.YtdobgebdlbckoaaGreatDoor.Mp Go.Proofs.YtdobgebdlbckoaaGreatDoor.Ms Go.Proofs.YtdobgebdlbckoaaGreatDoor.Held Go.Proofs.YtdobgebdlbckoaaGreatDoor.Rng Go.Proofs.YtdobgebdlbckoaaGreatDoor.RngA Go.Proofs.YtdobgebdlbckoaaGreatDoor.RngB Go.Proofs.YtdobgebdlbckoaaGreatDoor.TpP Go.Proofs.YtdobgebdlbckoaaGreatDoor.TpA Go.Proofs.YtdobgebdlbckoaaGreatDoor.TpB Go.Proofs.YtdobgebdlbckoaaGreatDoor.TpI

/-- What a range over those who hear does: yield, one by one; each word 'no more' ends it. -/
def APost (W : World) (I : Asn) (J : Code → Asn) (e : Ending) (w' : World) : Prop := (∃ v, e = .returned v) ∧ (St W w' I ∨ ∃ c, St W w' (J c))
/-- What is read of a registry for one topic, in a world. -/
def Reads (w : World) (p : Nat) (L : List Int) (t : Tx) : Prop := ∃ bw v, w.cell? ⟨p, 0, none⟩ = some (.map (some bw)) ∧ (Instr.lookup 99 (.map (some bw)) (kS t) false).run Tryz.prog w.drew = .ok v w.drew ∧ Sl w 1 v L.length (L.map kI)
theorem reads_of {W w : World} {p : Nat} {l : List Pr} {R : Asn} (h : St W w (star (IsR p l) R)) (t : Tx) : Reads w p (ofP l t) t := by
  obtain ⟨bw, bh, who, what, hr, h1⟩ := St.isR h
  obtain ⟨es, hk, hnd, h2⟩ := St.msTake (h1.eq (B := star (MS kS kI 3 bw who) (star (pt p (.cells #[.map (some bw), .map (some bh)] 101 (0, 0))) (star (MS kI kS 9 bh what) R))) (by ac_rfl)) t
  have hlk := run_lookup (P := Tryz.prog) (t := 99) cS Tryz.underlying99 Tryz.underlying9 (Tryz.zeroValue33 w.drew) h2.drew t false
  have hwk : (getM t who).getD [] = ofP l t := by rw [hr.who, nz_getD]
  rw [hwk] at h2
  exact ⟨bw, _, h1.cell 0 rfl, hlk, h2.right.rowSl⟩
set_option maxRecDepth 100000 in
theorem Of_any (p : Nat) (t : Tx) {W w : World} {A : Asn} (h : St W w A) :
    Calls Tryz.prog 45 #[.pointer (some ⟨p, 0, none⟩), kS t] w fun e w' => ∃ b1 b2, e = .returned (.func (.func 67) #[] #[.pointer (some ⟨b1, 0, none⟩), .pointer (some ⟨b2, 0, none⟩)]) ∧
      St W w' (star (pt b1 (.cells #[.pointer (some ⟨p, 0, none⟩)] 69 (0, 0))) (star (pt b2 (.cells #[kS t] 9 (0, 0))) A)) := by
  have h1 := (h.alloc (.cells #[.pointer (some ⟨p, 0, none⟩)] 69)).alloc (.cells #[kS t] 9)
  rw [World.size_alloc] at h1
  go_enter Tryz.func45, Tryz.ntmps45
  go_wp2
  go_ret
  exact ⟨_, _, rfl, h1.swap⟩
set_option maxRecDepth 100000 in
set_option maxHeartbeats 8000000 in
theorem Of1_any (p b1 b2 y m : Nat) (t : Tx) (L : List Int) (hl : L.length ≤ 1000000) (I : List Int → Asn) (J : Code → Asn) {W w : World}
    (hY : ∀ pre x post, L = pre ++ x :: post → ∀ C w, St W w (star C (I pre)) → YieldAt Fence.wide m Tryz.prog y #[.int .i64 pre.length, .int .i64 x] w fun e w' => (e = .returned (.bool true) ∧ St W w' (star C (I (pre ++ [x])))) ∨ (e = .returned (.bool false) ∧ ∃ c, St W w' (star C (J c))))
    (h : St W w (I [])) (hb1 : w.cell? ⟨b1, 0, none⟩ = some (.pointer (some ⟨p, 0, none⟩))) (hb2 : w.cell? ⟨b2, 0, none⟩ = some (kS t)) (hr : Reads w p L t) :
    CallsIn Fence.wide (m + 1) Tryz.prog 67 #[.func (.yield y) #[] #[], .pointer (some ⟨b1, 0, none⟩), .pointer (some ⟨b2, 0, none⟩)] w (APost W (I L) J) := by
  obtain ⟨bw, v, hp, hlk, hsl⟩ := hr
  have HN := Lib.hid (none_any p bw w hp)
  have HY := Lib.hid hY
  clear hY
  refine callsIn_of_wp Tryz.func67 rfl trivial ?_ rfl
  simp only [Tryz.ntmps67, List.size_toArray, List.length_cons, List.length_nil, Nat.reduceAdd, Nat.reduceSub, Array.replicate_succ, Array.replicate_zero, List.push_toArray, List.append_toArray, List.nil_append, List.cons_append]
  gi_wp2_with fail
  refine ⟨trivial, callsIn_wide.2 (HN.out.mono ?_)⟩
  rintro e w1 ⟨rfl, rfl⟩
  clear HN
  gi_wp2_with fail
  refine wpIn_wide.2 (wp_region_canon [0, 1, 2, 3, 4, 8, 5, 6, 7] (by kernel_rfl) (by kernel_rfl) ?_)
  simp only [pickOps, nthOp]
  have HC := Lib.hid (CloneI_any v L _ rfl hl (w := w1.drew) h.drew hsl)
  go_wp2_with fail
  refine HC.out.mono ?_
  rintro e w2 ⟨v2, rfl, h2⟩
  obtain ⟨_, ca, cc, rfl, hlc, hcm, _⟩ := id h2.rowSl
  have hcm2 : cc ≤ 9223372036854775807 := by simpa [maxLen] using hcm
  clear HC hlk hsl h hp hb1 hb2
  go_wp2_with fail
  simp only [Only]
  gi_wp2_with fail
  gi_loopw [16] (fun iv wr => ∃ i : Nat, i ≤ L.length ∧ iv = .int .i64 i ∧ St W wr (star (Row 3 1 (.slice ca L.length cc) L.length (L.map kI)) (I (L.take i)))) (fun iv _ => L.length - (intOf iv).toNat)
  case atStart => exact ⟨0, Nat.zero_le _, rfl, by simpa using h2⟩
  case round =>
    obtain ⟨i, hi, rfl, hS⟩ := hrel
    by_cases hin : i < L.length
    · obtain ⟨x, hx⟩ : ∃ x, L[i]? = some x := ⟨_, List.getElem?_eq_getElem hin⟩
      obtain ⟨ab, ao, rfl, hel⟩ := elI hS.rowSl hx
      have he := hel _ _ (St.start wr)
      have HX : Hid (L = L.take i ++ x :: L.drop (i + 1)) := Lib.hid (by
        have e := List.drop_eq_getElem_cons hin
        rw [List.getElem?_eq_getElem hin] at hx
        cases hx
        rw [← e, List.take_append_drop])
      have HT : Hid (L.take (i + 1) = L.take i ++ [x]) := Lib.hid (by rw [List.take_add_one, hx]; rfl)
      have hin2 : (i : Int) < L.length := by omega
      have hlt : (L.take i).length = i := by simp; omega
      have hz := HY.out (L.take i) x _ HX.out _ _ hS
      rw [hlt] at hz
      obtain ⟨fn, tmps, assign, body, hy, hR⟩ := hz
      have hy' : (Instr.yield y #[.int .i64 i, .int .i64 x]).run Tryz.prog wr = .ok (.round y fn tmps assign body) wr := hy
      clear hel hx hy hlt h2
      gi_wp2_with fail
      refine hR.mono ?_
      rintro e w3 (⟨rfl, h3⟩ | ⟨rfl, c, h3⟩)
      · rw [← HT.out] at h3
        gi_wp2_with fail
        exact ⟨⟨i + 1, hin, by go_num, h3⟩, by simp [intOf]; omega⟩
      · gi_wp2_with fail
        refine bodyPost_ret (results_none rfl _ _ _) rfl ?_
        exact ⟨⟨_, rfl⟩, .inr ⟨c, h3.right⟩⟩
    · obtain rfl : i = L.length := by omega
      rw [List.take_length] at hS
      gi_wp2_with fail
      refine bodyPost_ret (results_none rfl _ _ _) rfl ?_
      exact ⟨⟨_, rfl⟩, .inl hS.right⟩
end Go.Proofs.YtdobgebdlbckoaaGreatDoor.TpJ
