import Derived.Test.YtedkkcbdhbbegaaTmS
import Derived.Test.YtedkkcbdhbbegaaFork
import Derived.WalkLawsBesides
import Derived.WalkSpells
import Derived.Test.YtedkkcbdhbbegaaRng
import Derived.OwnWalkIn
import Derived.TacticsInMore
import Derived.LoopNIn
import Derived.LoopIn
namespace Go.Proofs.Ytedkkcbdhbbegaa.TmS2
open Go Go.RowKit Go.Proofs Go.Proofs.Ytedkkcbdhbbegaa.Sep Go.Proofs.Ytedkkcbdhbbegaa.Reg Go.Proofs.Ytedkkcbdhbbegaa.Frame Go.Proofs.Ytedkkcbdhbbegaa.Slc Go.Proofs.Ytedkkcbdhbbegaa.Fork Go.Proofs.Ytedkkcbdhbbegaa.TmP Go.Proofs.Ytedkkcbdhbbegaa.TmQ Go.Proofs.Ytedkkcbdhbbegaa.Rng Go.Proofs.Ytedkkcbdhbbegaa.TmS


/-! ### How two stand -/
def ltK (a b : List UInt8) : Bool := decide (a < b)
theorem ordK : Ordr ltK := ⟨fun a => by simp [ltK, List.lt_irrefl], fun a b c h1 h2 => by simp only [ltK, decide_eq_true_eq] at *; exact List.lt_trans h1 h2, fun a b => by
  simp only [ltK, decide_eq_true_eq]
  by_cases h : a < b
  · exact .inl h
  · rcases List.le_iff_lt_or_eq.1 (List.not_lt.1 h) with h2 | h2
    · exact .inr (.inr h2)
    · exact .inr (.inl h2.symm)⟩
def Same (w : World) (v : Value) (e : Ending) (w' : World) : Prop := e = .returned v ∧ w' = w
def cmpZ (a b : Int) : Int := if a < b then -1 else if b < a then 1 else 0
set_option maxRecDepth 100000 in
theorem CompareI_any (a b : Int) (w : World) : Calls Try.prog 39 #[.int .i64 a, .int .i64 b] w (Same w (.int .i64 (cmpZ a b))) := by
  by_cases h1 : a < b
  · have e : cmpZ a b = -1 := by unfold cmpZ; rw [if_pos h1]
    rw [e]
    clear e
    go_enter Try.func39, Try.ntmps39
    go_wp2
    go_ret
    exact ⟨rfl, rfl⟩
  · by_cases h2 : b < a
    · have e : cmpZ a b = 1 := by unfold cmpZ; rw [if_neg h1, if_pos h2]
      rw [e]
      clear e
      go_enter Try.func39, Try.ntmps39
      go_wp2
      go_ret
      exact ⟨rfl, rfl⟩
    · have e : cmpZ a b = 0 := by unfold cmpZ; rw [if_neg h1, if_neg h2]
      rw [e]
      clear e
      go_enter Try.func39, Try.ntmps39
      go_wp2
      go_ret
      exact ⟨rfl, rfl⟩
def cmpK (a b : List UInt8) : Int := if ltK a b = true then -1 else if ltK b a = true then 1 else 0
theorem cmpK_def (a b : List UInt8) : cmpK a b = if ltK a b = true then -1 else if ltK b a = true then 1 else 0 := rfl
theorem less_lt : ∀ (a b : List UInt8), Op.bytesLess a b = decide (a < b)
  | _, [] => by cases ‹List UInt8› <;> simp [Op.bytesLess]
  | [], _ :: _ => by simp [Op.bytesLess]
  | x :: a, y :: b => by
    have ih := less_lt a b
    simp only [Op.bytesLess, ih, List.cons_lt_cons_iff]
    by_cases h : x < y
    · simp [h]
    · by_cases h2 : x = y <;> simp [h, h2]
set_option maxRecDepth 100000 in
theorem nanS_any (a : List UInt8) (w : World) : Calls Try.prog 55 #[.string ⟨a.toArray⟩] w (Same w (.bool false)) := by
  have h : ((⟨a.toArray⟩ : ByteArray).toList == (⟨a.toArray⟩ : ByteArray).toList) = true := by simp
  go_enter Try.func55, Try.ntmps55
  go_wp2
  go_ret
  exact ⟨rfl, rfl⟩
set_option maxRecDepth 100000 in
theorem cmpS_arm (a b : List UInt8) (b1 b2 : Bool) (h1 : Op.bytesLess a b = b1) (h2 : (a == b) = b2) (w : World) : Calls Try.prog 46 #[.string ⟨a.toArray⟩, .string ⟨b.toArray⟩] w (Same w (.int .i64 (if b1 then -1 else if b2 then 0 else 1))) := by
  have n1 := Lib.hid (fun w => nanS_any a w)
  have n2 := Lib.hid (fun w => nanS_any b w)
  cases b2 with
  | false =>
    cases b1 <;>
    · go_enter Try.func46, Try.ntmps46
      go_wp2_with fail
      refine (n1.out _).mono ?_
      rintro e w1 ⟨rfl, rfl⟩
      go_wp2_with fail
      refine (n2.out _).mono ?_
      rintro e w1 ⟨rfl, rfl⟩
      go_wp2
      go_ret
      exact ⟨rfl, rfl⟩
  | true =>
    obtain rfl : a = b := by simpa using h2
    cases b1 <;>
    · go_enter Try.func46, Try.ntmps46
      go_wp2_with fail
      refine (n1.out _).mono ?_
      rintro e w1 ⟨rfl, rfl⟩
      go_wp2_with fail
      refine (n2.out _).mono ?_
      rintro e w1 ⟨rfl, rfl⟩
      go_wp2
      go_ret
      exact ⟨rfl, rfl⟩
theorem CompareS_any (a b : List UInt8) (w : World) : Calls Try.prog 46 #[.string ⟨a.toArray⟩, .string ⟨b.toArray⟩] w (Same w (.int .i64 (cmpK a b))) := by
  rcases ordK.tri a b with h | h | h
  · have e : cmpK a b = -1 := by unfold cmpK; rw [if_pos h]
    simp only [ltK, decide_eq_true_eq] at h
    rw [e]
    exact cmpS_arm a b true false (by rw [less_lt]; simpa using h) (by simp; rintro rfl; exact List.lt_irrefl _ h) w
  · subst h
    have e : cmpK a a = 0 := by unfold cmpK; simp [ordK.irr]
    rw [e]
    exact cmpS_arm a a false true (by rw [less_lt]; simp [List.lt_irrefl]) (by simp) w
  · have h2 : ltK a b = false := by
      cases hq : ltK a b with
      | false => rfl
      | true => have := ordK.tr _ _ _ hq h; rw [ordK.irr] at this; cases this
    have e : cmpK a b = 1 := by unfold cmpK; rw [h2, if_neg (by simp), if_pos h]
    simp only [ltK, decide_eq_true_eq, decide_eq_false_iff_not] at h h2
    rw [e]
    exact cmpS_arm a b false false (by rw [less_lt]; simpa using h2) (by simp; rintro rfl; exact List.lt_irrefl _ h) w
def ordZ (x y : κ × Int) : Int := if x.2 < y.2 then -1 else if y.2 < x.2 then 1 else cmpK x.1 y.1
theorem cmpI (a b : Int) : cmpZ a b < 0 ↔ a < b := by unfold cmpZ; split <;> (try split) <;> omega
theorem ordZ_bef (x y : κ × Int) : ordZ x y < 0 ↔ bef ltK x y = true := by
  unfold ordZ bef
  rw [cmpK_def]
  rcases Int.lt_trichotomy x.2 y.2 with h | h | h
  · simp [h]
  · have h1 : ¬ x.2 < y.2 := by omega
    have h2 : ¬ y.2 < x.2 := by omega
    rw [if_neg h1, if_neg h2]
    cases h3 : ltK x.1 y.1
    · cases h4 : ltK y.1 x.1 <;> simp [h]
    · simp [h]
  · have h1 : ¬ x.2 < y.2 := by omega
    have h2 : ¬ x.2 = y.2 := by omega
    simp [h1, h, h2]

set_option maxRecDepth 100000 in
theorem Or_any (x y : Int) (z : Int) (hz : (if x = 0 then y else x) = z) (B : Nat) (w : World) (h0 : w.cell? ⟨B, 0, none⟩ = some (.int .i64 x)) (h1 : w.cell? ⟨B, 1, none⟩ = some (.int .i64 y)) :
    Calls Try.prog 38 #[.slice (some ⟨B, 0, none⟩) 2 2] w (Same w (.int .i64 z)) := by
  have HZ := Lib.hid hz
  clear hz
  by_cases hx : x = 0
  · subst hx
    by_cases hy : y = 0
    · subst hy
      go_enter Try.func38, Try.ntmps38
      go_wp2_with fail
      refine wp_loop_rounds 3 ?_
      rw [rounds_succ]
      go_wp2_with fail
      rw [rounds_succ]
      go_wp2_with fail
      rw [rounds_succ]
      go_wp2
      go_ret
      exact ⟨by rw [← HZ.out]; rfl, rfl⟩
    · have hyb : (y != 0) = true := by simpa using hy
      have HV : Hid ((if (0 : Int) = 0 then y else 0) = y) := Lib.hid (if_pos rfl)
      clear hy
      go_enter Try.func38, Try.ntmps38
      go_wp2_with fail
      refine wp_loop_rounds 3 ?_
      rw [rounds_succ]
      go_wp2_with fail
      rw [rounds_succ]
      go_wp2
      go_ret
      exact ⟨by rw [← HZ.out, HV.out]; rfl, rfl⟩
  · have hxb : (x != 0) = true := by simpa using hx
    have HV : Hid ((if x = 0 then y else x) = x) := Lib.hid (if_neg hx)
    clear hx
    go_enter Try.func38, Try.ntmps38
    go_wp2_with fail
    refine wp_loop_rounds 3 ?_
    rw [rounds_succ]
    go_wp2
    go_ret
    exact ⟨by rw [← HZ.out, HV.out]; rfl, rfl⟩

theorem or_ord (x y : κ × Int) : (if cmpZ x.2 y.2 = 0 then cmpK x.1 y.1 else cmpZ x.2 y.2) = ordZ x y := by
  unfold cmpZ ordZ
  split <;> split <;> (try split) <;> (try split) <;> first | rfl | omega

set_option maxRecDepth 100000 in
set_option maxHeartbeats 4000000 in
theorem order_any (x1 : κ) (x2 : Int) (y1 : κ) (y2 : Int) (q : Int) (hq : ordZ (x1, x2) (y1, y2) = q) (W : World) :
    Calls Try.prog 33 #[.agg #[kv x1, .int .i64 x2], .agg #[kv y1, .int .i64 y2]] W (Makes W (.int .i64 q)) := by
  have HQ := Lib.hid ((or_ord (x1, x2) (y1, y2)).trans hq)
  clear hq
  have h1 := ((St.start W).alloc (.cells #[kv x1, .int .i64 x2] 74 (0, 0))).alloc (.cells #[kv y1, .int .i64 y2] 74 (0, 0))
  rw [World.size_alloc] at h1
  have ha0 := h1.right.cell 0 rfl
  have ha1 := h1.right.cell 1 rfl
  have hb0 := h1.cell 0 rfl
  have hb1 := h1.cell 1 rfl
  simp only [] at HQ
  go_enter Try.func33, Try.ntmps33
  go_wp2_with fail
  generalize (W.alloc (.cells #[kv x1, .int .i64 x2] 74)).alloc (.cells #[kv y1, .int .i64 y2] 74) = w0 at *
  refine wp_region_segs [(false, [0]), (true, [1, 2, 3, 4, 5, 6, 7, 8, 9]), (false, [10, 11, 12])] (by kernel_rfl) (by kernel_rfl) ?_
  simp only [wpSegs, pickOps, nthOp]
  go_wp2_with fail
  simp only [Reg.Next]
  repeat (go_big_quiet_step ((first | (go_at_call 39; exact (CompareI_any _ _ _).mono fun e w h => ⟨h.1, _, h.2⟩) | (go_at_call 46; exact (CompareS_any _ _ _).mono fun e w h => ⟨h.1, _, h.2⟩))))
  refine wpQuiet_nil ?_
  intro nq
  have h2 := (h1.drewN (1 + nq)).alloc (.cells #[.int .i64 (cmpZ x2 y2), .int .i64 (cmpK x1 y1)] 3 (0, 0))
  have HO := Lib.hid (Or_any (cmpZ x2 y2) (cmpK x1 y1) q HQ.out _ _ (h2.cell 0 rfl) (h2.cell 1 rfl))
  go_wp2_with fail
  refine HO.out.mono ?_
  rintro e w' ⟨rfl, rfl⟩
  go_wp2_with fail
  simp only [Reg.Next]
  go_wp2
  go_ret
  exact ⟨rfl, h2.below⟩

end Go.Proofs.Ytedkkcbdhbbegaa.TmS2
