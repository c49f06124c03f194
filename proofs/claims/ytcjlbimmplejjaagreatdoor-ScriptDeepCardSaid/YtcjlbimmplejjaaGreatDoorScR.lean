import Derived.Test.YtcjlbimmplejjaaGreatDoorScW
import Derived.Test.YtcjlbimmplejjaaGreatDoorBld
namespace Go.Proofs.YtcjlbimmplejjaaGreatDoor.ScR
open Go Go.RowKit Go.Proofs Go.Proofs.YtcjlbimmplejjaaGreatDoor.Sep Go.Proofs.YtcjlbimmplejjaaGreatDoor.Reg Go.Proofs.YtcjlbimmplejjaaGreatDoor.Frame Go.Proofs.YtcjlbimmplejjaaGreatDoor.Mp Go.Proofs.YtcjlbimmplejjaaGreatDoor.WdP Go.Proofs.YtcjlbimmplejjaaGreatDoor.WdT Go.Proofs.YtcjlbimmplejjaaGreatDoor.WdN Go.Proofs.YtcjlbimmplejjaaGreatDoor.ScP Go.Proofs.YtcjlbimmplejjaaGreatDoor.ScQ Go.Proofs.YtcjlbimmplejjaaGreatDoor.ScT Go.Proofs.YtcjlbimmplejjaaGreatDoor.ScB Go.Proofs.YtcjlbimmplejjaaGreatDoor.ScA Go.Proofs.YtcjlbimmplejjaaGreatDoor.ScM Go.Proofs.YtcjlbimmplejjaaGreatDoor.ScS Go.Proofs.YtcjlbimmplejjaaGreatDoor.ScJ Go.Proofs.YtcjlbimmplejjaaGreatDoor.ScW

theorem sl_past {w w' : World} {A : Asn} {size : Nat} {v : Value} {n : Nat} {xs : List Value} (h : Sl w size v n xs) (hS : St w w' A) : Sl w' size v n xs := by
  obtain ⟨hl, a, c, hv, h1, h2, h3, h4⟩ := h
  exact ⟨hl, a, c, hv, h1, h2, h3, fun ad hd i u hu => (hS.old (World.block_lt_of_cell? w _ (h4 ad hd i u hu))).trans (h4 ad hd i u hu)⟩
/-- Where the first act lies of which p holds. -/
def IdxR (p : Ac → Bool) (l : List Ac) (v : Int) : Prop := (∃ (i : Nat) (x : Ac), l[i]? = some x ∧ p x = true ∧ (∀ j, j < i → ∀ z, l[j]? = some z → p z = false) ∧ v = i) ∨ ((∀ z ∈ l, p z = false) ∧ v = -1)
def IQ (W : World) (C : Asn) (p : Ac → Bool) (l : List Ac) (i : Nat) (w : World) : Prop := (∀ j, j < i → ∀ z, l[j]? = some z → p z = false) ∧ St W w C
def IPst (W : World) (C : Asn) (p : Ac → Bool) (l : List Ac) (e : Ending) (w' : World) : Prop := ∃ v : Int, e = .returned (.int .i64 v) ∧ IdxR p l v ∧ St W w' C
def CPst (W : World) (C : Asn) (p : Ac → Bool) (l : List Ac) (e : Ending) (w' : World) : Prop := e = .returned (.bool (l.any p)) ∧ St W w' C
theorem idx_any {p : Ac → Bool} {l : List Ac} {v : Int} (h : IdxR p l v) : decide (0 ≤ v) = l.any p := by
  rcases h with ⟨i, x, h1, h2, -, rfl⟩ | ⟨h1, rfl⟩
  · rw [decide_eq_true (by omega)]
    exact (List.any_eq_true.2 ⟨x, List.mem_of_getElem? h1, h2⟩).symm
  · rw [decide_eq_false (by omega)]
    exact (List.any_eq_false.2 fun x hx => by rw [h1 x hx]; simp).symm

set_option maxRecDepth 100000 in
set_option maxHeartbeats 4000000 in
theorem Index_run {W w : World} {C : Asn} (p : Ac → Bool) (b4 : Nat) (a : Option Addr) (n c : Nat) (l : List Ac) (hln : l.length = n) (hsl : Sl W 4 (.slice a n c) n (actsV l)) (h : St W w C)
    (HF : ∀ x ∈ l, ∀ w', St W w' C → Calls Tryz.prog 57 #[.agg #[.int .u8 (x.k : Nat), .int .i64 x.c, .int .i64 x.n, .string ⟨x.s.toArray⟩], .pointer (some ⟨b4, 0, none⟩)] w' fun e w'' => e = .returned (.bool (p x)) ∧ St W w'' C) :
    Calls Tryz.prog 56 #[.slice a n c, .func (.func 57) #[] #[.pointer (some ⟨b4, 0, none⟩)]] w (IPst W C p l) := by
  have HN := Lib.hid hln
  have HSL := Lib.hid hsl
  have hcap : n ≤ c ∧ c ≤ 9223372036854775807 := by obtain ⟨_, _, _, hv, h1, h2, _⟩ := hsl; cases hv; exact ⟨h1, by simpa [maxLen] using h2⟩
  have HFF := Lib.hid HF
  clear hln hsl HF
  go_enter Tryz.func56, Tryz.ntmps56
  go_wp2_with fail
  go_loopw [8] (fun iv wr => ∃ i : Nat, i ≤ n ∧ iv = .int .i64 i ∧ IQ W C p l i wr) (fun iv _ => n - (intOf iv).toNat)
  case atStart => exact ⟨0, Nat.zero_le _, rfl, fun j hj => by omega, h⟩
  case round =>
    obtain ⟨i, hi, rfl, hB, hS⟩ := hrel
    have HB := Lib.hid hB
    clear h hB
    by_cases hin : i < n
    · have hinI : (i : Int) < n := by omega
      obtain ⟨x, hx⟩ : ∃ x, l[i]? = some x := ⟨_, List.getElem?_eq_getElem (by rw [HN.out]; exact hin)⟩
      obtain ⟨ab, ao, rfl, ⟨a0, a1, a2, a3⟩, -⟩ := act_at (sl_past HSL.out hS) hx
      have HC := Lib.hid (HFF.out x (List.mem_of_getElem? hx) wr hS)
      have HX := Lib.hid hx
      clear hx hS
      cases hp : p x with
      | true =>
        rw [hp] at HC
        have HP := Lib.hid hp
        clear hp
        go_wp2_with fail
        refine HC.out.mono ?_
        rintro e w6 ⟨rfl, h6⟩
        have H6 := Lib.hid h6
        clear h6 HC a0 a1 a2 a3
        go_wp2
        go_ret
        exact ⟨i, rfl, .inl ⟨i, x, HX.out, HP.out, HB.out, rfl⟩, H6.out⟩
      | false =>
        rw [hp] at HC
        have HB2 : Hid (∀ j, j < i + 1 → ∀ z, l[j]? = some z → p z = false) := Lib.hid fun j hj z hz => by
          by_cases hji : j < i
          · exact HB.out j hji z hz
          · obtain rfl : j = i := by omega
            rw [HX.out] at hz
            cases hz; exact hp
        clear hp
        go_wp2_with fail
        refine HC.out.mono ?_
        rintro e w6 ⟨rfl, h6⟩
        have HQ : Hid (IQ W C p l (i + 1) w6) := Lib.hid ⟨HB2.out, h6⟩
        clear HC a0 a1 a2 a3 h6 HB2 HB HX
        go_wp2_with fail
        exact ⟨⟨i + 1, hin, by go_num, HQ.out⟩, by simp [intOf]; omega⟩
    · obtain rfl : n = i := by omega
      have HS := Lib.hid hS
      clear hS
      go_wp2
      go_ret
      refine ⟨-1, rfl, .inr ⟨fun z hz => ?_, rfl⟩, HS.out⟩
      obtain ⟨j, hj, e⟩ := List.mem_iff_getElem.1 hz
      exact HB.out j (by rw [← HN.out]; exact hj) z (by rw [List.getElem?_eq_getElem hj, e])

set_option maxRecDepth 100000 in
set_option maxHeartbeats 4000000 in
theorem Index_print {W w : World} {C : Asn} (p : Ac → Bool) (b4 : Nat) (a : Option Addr) (n c : Nat) (l : List Ac) (hln : l.length = n) (hsl : Sl W 4 (.slice a n c) n (actsV l)) (h : St W w C)
    (HF : ∀ x ∈ l, ∀ w', St W w' C → Calls Tryz.prog 33 #[.agg #[.int .u8 (x.k : Nat), .int .i64 x.c, .int .i64 x.n, .string ⟨x.s.toArray⟩], .pointer (some ⟨b4, 0, none⟩)] w' fun e w'' => e = .returned (.bool (p x)) ∧ St W w'' C) :
    Calls Tryz.prog 56 #[.slice a n c, .func (.func 33) #[] #[.pointer (some ⟨b4, 0, none⟩)]] w (IPst W C p l) := by
  have HN := Lib.hid hln
  have HSL := Lib.hid hsl
  have hcap : n ≤ c ∧ c ≤ 9223372036854775807 := by obtain ⟨_, _, _, hv, h1, h2, _⟩ := hsl; cases hv; exact ⟨h1, by simpa [maxLen] using h2⟩
  have HFF := Lib.hid HF
  clear hln hsl HF
  go_enter Tryz.func56, Tryz.ntmps56
  go_wp2_with fail
  go_loopw [8] (fun iv wr => ∃ i : Nat, i ≤ n ∧ iv = .int .i64 i ∧ IQ W C p l i wr) (fun iv _ => n - (intOf iv).toNat)
  case atStart => exact ⟨0, Nat.zero_le _, rfl, fun j hj => by omega, h⟩
  case round =>
    obtain ⟨i, hi, rfl, hB, hS⟩ := hrel
    have HB := Lib.hid hB
    clear h hB
    by_cases hin : i < n
    · have hinI : (i : Int) < n := by omega
      obtain ⟨x, hx⟩ : ∃ x, l[i]? = some x := ⟨_, List.getElem?_eq_getElem (by rw [HN.out]; exact hin)⟩
      obtain ⟨ab, ao, rfl, ⟨a0, a1, a2, a3⟩, -⟩ := act_at (sl_past HSL.out hS) hx
      have HC := Lib.hid (HFF.out x (List.mem_of_getElem? hx) wr hS)
      have HX := Lib.hid hx
      clear hx hS
      cases hp : p x with
      | true =>
        rw [hp] at HC
        have HP := Lib.hid hp
        clear hp
        go_wp2_with fail
        refine HC.out.mono ?_
        rintro e w6 ⟨rfl, h6⟩
        have H6 := Lib.hid h6
        clear h6 HC a0 a1 a2 a3
        go_wp2
        go_ret
        exact ⟨i, rfl, .inl ⟨i, x, HX.out, HP.out, HB.out, rfl⟩, H6.out⟩
      | false =>
        rw [hp] at HC
        have HB2 : Hid (∀ j, j < i + 1 → ∀ z, l[j]? = some z → p z = false) := Lib.hid fun j hj z hz => by
          by_cases hji : j < i
          · exact HB.out j hji z hz
          · obtain rfl : j = i := by omega
            rw [HX.out] at hz
            cases hz; exact hp
        clear hp
        go_wp2_with fail
        refine HC.out.mono ?_
        rintro e w6 ⟨rfl, h6⟩
        have HQ : Hid (IQ W C p l (i + 1) w6) := Lib.hid ⟨HB2.out, h6⟩
        clear HC a0 a1 a2 a3 h6 HB2 HB HX
        go_wp2_with fail
        exact ⟨⟨i + 1, hin, by go_num, HQ.out⟩, by simp [intOf]; omega⟩
    · obtain rfl : n = i := by omega
      have HS := Lib.hid hS
      clear hS
      go_wp2
      go_ret
      refine ⟨-1, rfl, .inr ⟨fun z hz => ?_, rfl⟩, HS.out⟩
      obtain ⟨j, hj, e⟩ := List.mem_iff_getElem.1 hz
      exact HB.out j (by rw [← HN.out]; exact hj) z (by rw [List.getElem?_eq_getElem hj, e])

set_option maxRecDepth 100000 in
theorem Contains_print {W w : World} {C : Asn} (p : Ac → Bool) (b4 : Nat) (a : Option Addr) (n c : Nat) (l : List Ac) (hln : l.length = n) (hsl : Sl W 4 (.slice a n c) n (actsV l)) (h : St W w C)
    (HF : ∀ x ∈ l, ∀ w', St W w' C → Calls Tryz.prog 33 #[.agg #[.int .u8 (x.k : Nat), .int .i64 x.c, .int .i64 x.n, .string ⟨x.s.toArray⟩], .pointer (some ⟨b4, 0, none⟩)] w' fun e w'' => e = .returned (.bool (p x)) ∧ St W w'' C) :
    Calls Tryz.prog 32 #[.slice a n c, .func (.func 33) #[] #[.pointer (some ⟨b4, 0, none⟩)]] w (CPst W C p l) := by
  have HI := Lib.hid (Index_print p b4 a n c l hln hsl h HF)
  clear hln hsl h HF
  go_enter Tryz.func32, Tryz.ntmps32
  go_wp2_with fail
  refine HI.out.mono ?_
  rintro e w1 ⟨v, rfl, hv, h1⟩
  have HV := Lib.hid (idx_any hv)
  have H1 := Lib.hid h1
  clear hv h1 HI
  go_wp2
  go_ret
  exact ⟨by rw [← HV.out]; rfl, H1.out⟩
set_option maxRecDepth 100000 in
theorem run1_any {W w : World} {R : Asn} (x y : Ac) (b4 ab ao n c : Nat) (hn : 0 < n) (h : St W w (star (pt b4 (.cells #[.slice (some ⟨ab, ao, none⟩) n c] 23 (0, 0))) R)) (ha : ActAt ab ao y w) :
    Calls Tryz.prog 57 #[.agg #[.int .u8 (x.k : Nat), .int .i64 x.c, .int .i64 x.n, .string ⟨x.s.toArray⟩], .pointer (some ⟨b4, 0, none⟩)] w fun e w' => e = .returned (.bool (!decide (x = y))) ∧ St W w' (star (pt b4 (.cells #[.slice (some ⟨ab, ao, none⟩) n c] 23 (0, 0))) R) := by
  have h1 := h.alloc (.cells #[.int .u8 (x.k : Nat), .int .i64 x.c, .int .i64 x.n, .string ⟨x.s.toArray⟩] 34 (0, 0))
  have ha2 : ActAt ab ao y (w.alloc (.cells #[.int .u8 (x.k : Nat), .int .i64 x.c, .int .i64 x.n, .string ⟨x.s.toArray⟩] 34 (0, 0))) := by
    have key : ∀ o v, w.cell? ⟨ab, o, none⟩ = some v → (w.alloc (.cells #[.int .u8 (x.k : Nat), .int .i64 x.c, .int .i64 x.n, .string ⟨x.s.toArray⟩] 34 (0, 0))).cell? ⟨ab, o, none⟩ = some v := fun o v hv => ((St.start w).alloc (.cells #[.int .u8 (x.k : Nat), .int .i64 x.c, .int .i64 x.n, .string ⟨x.s.toArray⟩] 34 (0, 0))).old (World.block_lt_of_cell? w _ hv) |>.trans hv
    exact ⟨key _ _ ha.1, key _ _ ha.2.1, key _ _ ha.2.2.1, key _ _ ha.2.2.2⟩
  obtain ⟨xb, hxb⟩ : ∃ z, w.heap.size = z := ⟨_, rfl⟩
  rw [hxb] at h1
  have heq := eqA x y
  obtain ⟨bb, hbb⟩ : ∃ b, decide (x = y) = b := ⟨_, rfl⟩
  rw [hbb] at heq ⊢
  clear h ha hbb
  have hnI : (0 : Int) < n := by omega
  go_enter Tryz.func57, Tryz.ntmps57
  go_upto_region 1 with fail
  clear hxb
  generalize w.alloc (.cells #[.int .u8 (x.k : Nat), .int .i64 x.c, .int .i64 x.n, .string ⟨x.s.toArray⟩] 34 (0, 0)) = w1 at *
  have c0 := h1.cell 0 (v := .int .u8 (x.k : Nat)) rfl
  have c1 := h1.cell 1 (v := .int .i64 x.c) rfl
  have c2 := h1.cell 2 (v := .int .i64 x.n) rfl
  have c3 := h1.cell 3 (v := .string ⟨x.s.toArray⟩) rfl
  have d0 := h1.right.cell 0 (v := .slice (some ⟨ab, ao, none⟩) n c) rfl
  obtain ⟨a0, a1, a2, a3⟩ := ha2
  have HE := Lib.hid (h1.right.drew)
  clear h1
  go_big_region
  go_wp2
  go_ret
  exact ⟨rfl, HE.out⟩
end Go.Proofs.YtcjlbimmplejjaaGreatDoor.ScR
