import Derived.Test.YtdobgebdlbckoaaGreatDoorWdE
namespace Go.Proofs.YtdobgebdlbckoaaGreatDoor.WdF
open Go Go.RowKit Go.Proofs Go.Proofs.YtdobgebdlbckoaaGreatDoor.Sep Go.Proofs.YtdobgebdlbckoaaGreatDoor.Reg Go.Proofs.YtdobgebdlbckoaaGreatDoor.Frame Go.Proofs.YtdobgebdlbckoaaGreatDoor.Strs Go.Proofs.YtdobgebdlbckoaaGreatDoor.WdP Go.Proofs.YtdobgebdlbckoaaGreatDoor.WdT Go.Proofs.YtdobgebdlbckoaaGreatDoor.WdN Go.Proofs.YtdobgebdlbckoaaGreatDoor.WdC Go.Proofs.YtdobgebdlbckoaaGreatDoor.WdD Go.Proofs.YtdobgebdlbckoaaGreatDoor.WdE

abbrev delA (t : List UInt8) (a b : Int) (d : List UInt8) : Value := .agg #[.string ⟨t.toArray⟩, .int .i64 a, .int .i64 b, .string ⟨d.toArray⟩]
theorem told_none {t d : List UInt8} {a b : Int} (h : topic t = false ∨ may a = false ∨ may b = false) : toldW t a b d = none := by
  unfold toldW; rw [if_neg]; simp; rcases h with h | h | h <;> simp [h]
theorem told_some {t d : List UInt8} {m n : Nat} (h1 : topic t = true) (h2 : may m = true) (h3 : may n = true) : toldW t m n d = some (wMSG ++ 32 :: (t ++ 32 :: (Lib.decDigits m ++ 32 :: (Lib.decDigits n ++ 32 :: d)))) := by
  unfold toldW; rw [h1, h2, h3]; rfl

set_option maxRecDepth 100000 in
set_option maxHeartbeats 4000000 in
theorem rTold_any (t : List UInt8) (a b : Int) (d : List UInt8) (q : Value) (hq : txtV (toldW t a b d) = q) (W : World) (ht5 : t.length ≤ 1000000) (hd5 : d.length ≤ 1000000) :
    Calls Tryz.prog 44 #[.string ⟨t.toArray⟩, .int .i64 a, .int .i64 b, .string ⟨d.toArray⟩] W (Makes W q) := by
  have HQ := Lib.hid hq
  clear hq
  have HS := St.start W
  cases ht : topic t
  · have HT := Lib.hid fun w => (rTopic_any t w (by omega)).mono fun e w' h => h.eq (v := .bool false) (by rw [ht])
    have HP := Lib.hid (told_none (a := a) (b := b) (d := d) (.inl ht))
    clear ht
    go_enter Tryz.func44, Tryz.ntmps44
    go_wp2_with fail
    refine (HT.out _).mono ?_
    rintro e w' ⟨rfl, rfl⟩
    go_wp2
    go_ret2
    exact ⟨by rw [← HQ.out, HP.out]; rfl, HS.below⟩
  have HT := Lib.hid fun w => (rTopic_any t w (by omega)).mono fun e w' h => h.eq (v := .bool true) (by rw [ht])
  have HTT := Lib.hid ht
  clear ht
  cases ha : may a
  · have HA := Lib.hid fun w => rMay_any a false ha w
    have HP := Lib.hid (told_none (t := t) (b := b) (d := d) (.inr (.inl ha)))
    clear ha
    go_enter Tryz.func44, Tryz.ntmps44
    go_wp2_with fail
    refine (HT.out _).mono ?_
    rintro e w' ⟨rfl, rfl⟩
    go_wp2_with fail
    refine (HA.out _).mono ?_
    rintro e w' ⟨rfl, rfl⟩
    go_wp2
    go_ret2
    exact ⟨by rw [← HQ.out, HP.out]; rfl, HS.below⟩
  obtain ⟨m, rfl, hm2⟩ := (may_nat a).1 ha
  have HA := Lib.hid fun w => rMay_any (m : Int) true ha w
  have HAA := Lib.hid ha
  clear ha
  cases hb : may b
  · have HB := Lib.hid fun w => rMay_any b false hb w
    have HP := Lib.hid (told_none (t := t) (a := m) (d := d) (.inr (.inr hb)))
    clear hb
    go_enter Tryz.func44, Tryz.ntmps44
    go_wp2_with fail
    refine (HT.out _).mono ?_
    rintro e w' ⟨rfl, rfl⟩
    go_wp2_with fail
    refine (HA.out _).mono ?_
    rintro e w' ⟨rfl, rfl⟩
    go_wp2_with fail
    refine (HB.out _).mono ?_
    rintro e w' ⟨rfl, rfl⟩
    go_wp2
    go_ret2
    exact ⟨by rw [← HQ.out, HP.out]; rfl, HS.below⟩
  obtain ⟨n, rfl, hn2⟩ := (may_nat b).1 hb
  have HB := Lib.hid fun w => rMay_any (n : Int) true hb w
  have HP := Lib.hid (told_some (d := d) HTT.out HAA.out hb)
  clear hb
  have HDA := Lib.hid fun w => rDigits_any m (m : Int) w rfl (by omega)
  have HDB := Lib.hid fun w => rDigits_any n (n : Int) w rfl (by omega)
  have hlm := dec_len 19 m (by omega) (by omega)
  have hln := dec_len 19 n (by omega) (by omega)
  generalize Lib.decDigits m = x at *
  generalize Lib.decDigits n = y at *
  have a1 := run_str_add (P := Tryz.prog) [77, 83, 71, 32] t (by simp; omega)
  have a2 := run_str_add (P := Tryz.prog) (77 :: 83 :: 71 :: 32 :: t) [32] (by simp; omega)
  have a3 := run_str_add (P := Tryz.prog) (77 :: 83 :: 71 :: 32 :: (t ++ [32])) x (by simp; omega)
  have a4 := run_str_add (P := Tryz.prog) (77 :: 83 :: 71 :: 32 :: (t ++ 32 :: x)) [32] (by simp; omega)
  have a5 := run_str_add (P := Tryz.prog) (77 :: 83 :: 71 :: 32 :: (t ++ 32 :: (x ++ [32]))) y (by simp; omega)
  have a6 := run_str_add (P := Tryz.prog) (77 :: 83 :: 71 :: 32 :: (t ++ 32 :: (x ++ 32 :: y))) [32] (by simp; omega)
  have a7 := run_str_add (P := Tryz.prog) (77 :: 83 :: 71 :: 32 :: (t ++ 32 :: (x ++ 32 :: (y ++ [32])))) d (by simp; omega)
  simp only [List.cons_append, List.nil_append, List.append_assoc] at a1 a2 a3 a4 a5 a6 a7
  go_enter Tryz.func44, Tryz.ntmps44
  go_wp2_with fail
  refine (HT.out _).mono ?_
  rintro e w' ⟨rfl, rfl⟩
  go_wp2_with fail
  refine (HA.out _).mono ?_
  rintro e w' ⟨rfl, rfl⟩
  go_wp2_with fail
  refine (HB.out _).mono ?_
  rintro e w' ⟨rfl, rfl⟩
  go_wp2_with fail
  refine (HDA.out _).mono ?_
  rintro e w1 hq
  have h1 := HS.makes hq
  obtain ⟨rfl, -⟩ := hq
  go_wp2_with fail
  refine (HDB.out _).mono ?_
  rintro e w2 hq
  have h2 := h1.makes hq
  obtain ⟨rfl, -⟩ := hq
  go_wp2
  go_ret2
  exact ⟨by rw [← HQ.out, HP.out]; rfl, h2.below⟩

def rdelV : Option Del → Value
  | some (t, a, b, d) => .tuple #[.string ⟨t.toArray⟩, .int .i64 a, .int .i64 b, .string ⟨d.toArray⟩, .bool true]
  | none => .tuple #[.string ⟨#[]⟩, .int .i64 0, .int .i64 0, .string ⟨#[]⟩, .bool false]
def delV : Option Del → Value
  | some (t, a, b, d) => .tuple #[delA t a b d, .bool true]
  | none => .tuple #[delA [] 0 0 [], .bool false]
theorem hear_of {s a r b r2 c r3 d e : List UInt8} {k1 k2 k3 k4 : Bool} (h1 : cutB s = (a, r, k1)) (h2 : cutB r = (b, r2, k2)) (h3 : cutB r2 = (c, r3, k3)) (h4 : cutB r3 = (d, e, k4)) :
    hearW s = if a = wMSG ∧ k1 = true ∧ k2 = true ∧ k3 = true ∧ k4 = true ∧ topic b = true then (match num c, num d with | some m, some n => some (b, m, n, e) | _, _ => none) else none := by
  unfold hearW
  rw [h1]; simp only
  rw [h2]; simp only
  rw [h3]; simp only
  rw [h4]
  rfl

theorem results_tmp5 {fn : Func} {t1 t2 t3 t4 t5 : Tmp} (h : fn.results = #[.tmp t1, .tmp t2, .tmp t3, .tmp t4, .tmp t5]) (tmps : Array Value) (P : Program) (w : World) :
    (results fn tmps).run P w = .ok (.tuple #[tmps.getD t1 undef, tmps.getD t2 undef, tmps.getD t3 undef, tmps.getD t4 undef, tmps.getD t5 undef]) w := by
  simp [results, h]
theorem num_cases (u : Option Nat) : ∃ x : Int, intV u = .int .i64 x ∧ ((u = none ∧ x < 0) ∨ ∃ m : Nat, u = some m ∧ x = m) := by
  cases u with
  | none => exact ⟨-1, rfl, .inl ⟨rfl, by omega⟩⟩
  | some m => exact ⟨m, rfl, .inr ⟨m, rfl, rfl⟩⟩

end Go.Proofs.YtdobgebdlbckoaaGreatDoor.WdF
