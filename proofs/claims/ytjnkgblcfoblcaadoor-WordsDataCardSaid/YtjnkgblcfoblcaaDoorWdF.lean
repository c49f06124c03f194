import Derived.Test.YtjnkgblcfoblcaaDoorWdE
namespace Go.Proofs.YtjnkgblcfoblcaaDoor.WdF
open Go Go.RowKit Go.Proofs Go.Proofs.YtjnkgblcfoblcaaDoor.Sep Go.Proofs.YtjnkgblcfoblcaaDoor.Reg Go.Proofs.YtjnkgblcfoblcaaDoor.Frame Go.Proofs.YtjnkgblcfoblcaaDoor.Strs Go.Proofs.YtjnkgblcfoblcaaDoor.WdP Go.Proofs.YtjnkgblcfoblcaaDoor.WdT Go.Proofs.YtjnkgblcfoblcaaDoor.WdN Go.Proofs.YtjnkgblcfoblcaaDoor.WdC Go.Proofs.YtjnkgblcfoblcaaDoor.WdD Go.Proofs.YtjnkgblcfoblcaaDoor.WdE

abbrev delA (t : List UInt8) (a b : Int) (d : List UInt8) : Value := .agg #[.string ⟨t.toArray⟩, .int .i64 a, .int .i64 b, .string ⟨d.toArray⟩]
theorem told_none {t d : List UInt8} {a b : Int} (h : topic t = false ∨ may a = false ∨ may b = false) : toldW t a b d = none := by
  unfold toldW; rw [if_neg]; simp; rcases h with h | h | h <;> simp [h]
theorem told_some {t d : List UInt8} {m n : Nat} (h1 : topic t = true) (h2 : may m = true) (h3 : may n = true) : toldW t m n d = some (wMSG ++ 32 :: (t ++ 32 :: (Lib.decDigits m ++ 32 :: (Lib.decDigits n ++ 32 :: d)))) := by
  unfold toldW; rw [h1, h2, h3]; rfl

set_option maxRecDepth 100000 in
set_option maxHeartbeats 4000000 in
theorem rTold_any (t : List UInt8) (a b : Int) (d : List UInt8) (q : Value) (hq : txtV (toldW t a b d) = q) (W : World) (ht5 : t.length ≤ 1000000) (hd5 : d.length ≤ 1000000) :
    Calls Tryd.prog 14 #[.string ⟨t.toArray⟩, .int .i64 a, .int .i64 b, .string ⟨d.toArray⟩] W (Makes W q) := by
  have HQ := Lib.hid hq
  clear hq
  have HS := St.start W
  cases ht : topic t
  · have HT := Lib.hid fun w => (rTopic_any t w (by omega)).mono fun e w' h => h.eq (v := .bool false) (by rw [ht])
    have HP := Lib.hid (told_none (a := a) (b := b) (d := d) (.inl ht))
    clear ht
    go_enter Tryd.func14, Tryd.ntmps14
    go_wp2_with fail
    refine (HT.out _).mono ?_
    rintro e w' ⟨rfl, rfl⟩
    go_wp2
    go_ret2
    exact ⟨by rw [← HQ.out, HP.out]; rfl, HS.below⟩
  have HT := Lib.hid fun w => (rTopic_any t w (by omega)).mono fun e w' h => h.eq (v := .bool true) (by rw [ht])
  have HTT := Lib.hid ht
  clear ht
  cases ha : may a
  · have HA := Lib.hid fun w => rMay_any a false ha w
    have HP := Lib.hid (told_none (t := t) (b := b) (d := d) (.inr (.inl ha)))
    clear ha
    go_enter Tryd.func14, Tryd.ntmps14
    go_wp2_with fail
    refine (HT.out _).mono ?_
    rintro e w' ⟨rfl, rfl⟩
    go_wp2_with fail
    refine (HA.out _).mono ?_
    rintro e w' ⟨rfl, rfl⟩
    go_wp2
    go_ret2
    exact ⟨by rw [← HQ.out, HP.out]; rfl, HS.below⟩
  obtain ⟨m, rfl, hm2⟩ := (may_nat a).1 ha
  have HA := Lib.hid fun w => rMay_any (m : Int) true ha w
  have HAA := Lib.hid ha
  clear ha
  cases hb : may b
  · have HB := Lib.hid fun w => rMay_any b false hb w
    have HP := Lib.hid (told_none (t := t) (a := m) (d := d) (.inr (.inr hb)))
    clear hb
    go_enter Tryd.func14, Tryd.ntmps14
    go_wp2_with fail
    refine (HT.out _).mono ?_
    rintro e w' ⟨rfl, rfl⟩
    go_wp2_with fail
    refine (HA.out _).mono ?_
    rintro e w' ⟨rfl, rfl⟩
    go_wp2_with fail
    refine (HB.out _).mono ?_
    rintro e w' ⟨rfl, rfl⟩
    go_wp2
    go_ret2
    exact ⟨by rw [← HQ.out, HP.out]; rfl, HS.below⟩
  obtain ⟨n, rfl, hn2⟩ := (may_nat b).1 hb
  have HB := Lib.hid fun w => rMay_any (n : Int) true hb w
  have HP := Lib.hid (told_some (d := d) HTT.out HAA.out hb)
  clear hb
  have HDA := Lib.hid fun w => rDigits_any m (m : Int) w rfl (by omega)
  have HDB := Lib.hid fun w => rDigits_any n (n : Int) w rfl (by omega)
  have hlm := dec_len 19 m (by omega) (by omega)
  have hln := dec_len 19 n (by omega) (by omega)
  generalize Lib.decDigits m = x at *
  generalize Lib.decDigits n = y at *
  have a1 := run_str_add (P := Tryd.prog) [77, 83, 71, 32] t (by simp; omega)
  have a2 := run_str_add (P := Tryd.prog) (77 :: 83 :: 71 :: 32 :: t) [32] (by simp; omega)
  have a3 := run_str_add (P := Tryd.prog) (77 :: 83 :: 71 :: 32 :: (t ++ [32])) x (by simp; omega)
  have a4 := run_str_add (P := Tryd.prog) (77 :: 83 :: 71 :: 32 :: (t ++ 32 :: x)) [32] (by simp; omega)
  have a5 := run_str_add (P := Tryd.prog) (77 :: 83 :: 71 :: 32 :: (t ++ 32 :: (x ++ [32]))) y (by simp; omega)
  have a6 := run_str_add (P := Tryd.prog) (77 :: 83 :: 71 :: 32 :: (t ++ 32 :: (x ++ 32 :: y))) [32] (by simp; omega)
  have a7 := run_str_add (P := Tryd.prog) (77 :: 83 :: 71 :: 32 :: (t ++ 32 :: (x ++ 32 :: (y ++ [32])))) d (by simp; omega)
  simp only [List.cons_append, List.nil_append, List.append_assoc] at a1 a2 a3 a4 a5 a6 a7
  go_enter Tryd.func14, Tryd.ntmps14
  go_wp2_with fail
  refine (HT.out _).mono ?_
  rintro e w' ⟨rfl, rfl⟩
  go_wp2_with fail
  refine (HA.out _).mono ?_
  rintro e w' ⟨rfl, rfl⟩
  go_wp2_with fail
  refine (HB.out _).mono ?_
  rintro e w' ⟨rfl, rfl⟩
  go_wp2_with fail
  refine (HDA.out _).mono ?_
  rintro e w1 hq
  have h1 := HS.makes hq
  obtain ⟨rfl, -⟩ := hq
  go_wp2_with fail
  refine (HDB.out _).mono ?_
  rintro e w2 hq
  have h2 := h1.makes hq
  obtain ⟨rfl, -⟩ := hq
  go_wp2
  go_ret2
  exact ⟨by rw [← HQ.out, HP.out]; rfl, h2.below⟩

def rdelV : Option Del → Value
  | some (t, a, b, d) => .tuple #[.string ⟨t.toArray⟩, .int .i64 a, .int .i64 b, .string ⟨d.toArray⟩, .bool true]
  | none => .tuple #[.string ⟨#[]⟩, .int .i64 0, .int .i64 0, .string ⟨#[]⟩, .bool false]
def delV : Option Del → Value
  | some (t, a, b, d) => .tuple #[delA t a b d, .bool true]
  | none => .tuple #[delA [] 0 0 [], .bool false]
theorem hear_of {s a r b r2 c r3 d e : List UInt8} {k1 k2 k3 k4 : Bool} (h1 : cutB s = (a, r, k1)) (h2 : cutB r = (b, r2, k2)) (h3 : cutB r2 = (c, r3, k3)) (h4 : cutB r3 = (d, e, k4)) :
    hearW s = if a = wMSG ∧ k1 = true ∧ k2 = true ∧ k3 = true ∧ k4 = true ∧ topic b = true then (match num c, num d with | some m, some n => some (b, m, n, e) | _, _ => none) else none := by
  unfold hearW
  rw [h1]; simp only
  rw [h2]; simp only
  rw [h3]; simp only
  rw [h4]
  rfl

theorem results_tmp5 {fn : Func} {t1 t2 t3 t4 t5 : Tmp} (h : fn.results = #[.tmp t1, .tmp t2, .tmp t3, .tmp t4, .tmp t5]) (tmps : Array Value) (P : Program) (w : World) :
    (results fn tmps).run P w = .ok (.tuple #[tmps.getD t1 undef, tmps.getD t2 undef, tmps.getD t3 undef, tmps.getD t4 undef, tmps.getD t5 undef]) w := by
  simp [results, h]
theorem num_cases (u : Option Nat) : ∃ x : Int, intV u = .int .i64 x ∧ ((u = none ∧ x < 0) ∨ ∃ m : Nat, u = some m ∧ x = m) := by
  cases u with
  | none => exact ⟨-1, rfl, .inl ⟨rfl, by omega⟩⟩
  | some m => exact ⟨m, rfl, .inr ⟨m, rfl, rfl⟩⟩

set_option maxRecDepth 100000 in
set_option maxHeartbeats 8000000 in
theorem rHear_any (s : List UInt8) (q : Value) (hq : rdelV (hearW s) = q) (w : World) (hs : s.length ≤ 1000000) : Calls Tryd.prog 19 #[.string ⟨s.toArray⟩] w (Quiet w q) := by
  have HQ := Lib.hid hq
  clear hq
  rcases hx : cutB s with ⟨a, r, k1⟩
  have hl1 : r.length ≤ s.length := by have := (cutB_len s).2.1; rwa [hx] at this
  rcases hy : cutB r with ⟨b, r2, k2⟩
  have hl2 : r2.length ≤ r.length := by have := (cutB_len r).2.1; rwa [hy] at this
  have hlb : b.length ≤ r.length := by have := (cutB_len r).1; rwa [hy] at this
  rcases hz : cutB r2 with ⟨c, r3, k3⟩
  have hl3 : r3.length ≤ r2.length := by have := (cutB_len r2).2.1; rwa [hz] at this
  have hlc : c.length ≤ r2.length := by have := (cutB_len r2).1; rwa [hz] at this
  rcases hv : cutB r3 with ⟨d, f, k4⟩
  have hld : d.length ≤ r3.length := by have := (cutB_len r3).1; rwa [hv] at this
  have HH := Lib.hid (hear_of hx hy hz hv)
  have C1 := Lib.hid (rcut_any hx w hs)
  have C2 := Lib.hid fun w => rcut_any hy w (by omega)
  have C3 := Lib.hid fun w => rcut_any hz w (by omega)
  have C4 := Lib.hid fun w => rcut_any hv w (by omega)
  obtain ⟨x, hxc, hu⟩ := num_cases (num c)
  obtain ⟨y, hyc, hv2⟩ := num_cases (num d)
  obtain ⟨z, hz2⟩ : ∃ z, topic b = z := ⟨_, rfl⟩
  have N1 := Lib.hid fun w => rNumber_any c _ hxc w (by omega)
  have N2 := Lib.hid fun w => rNumber_any d _ hyc w (by omega)
  have HT := Lib.hid fun w => (rTopic_any b w (by omega)).mono fun e w' h => h.eq (v := .bool z) (by rw [hz2])
  rw [hz2] at HH
  clear hx hy hz hv hxc hyc hz2
  generalize num c = u at *
  generalize num d = v at *
  by_cases ha : a = [77, 83, 71]
  · subst ha
    cases k1
    · have HP : Hid (hearW s = none) := Lib.hid (by rw [HH.out]; simp)
      go_enter Tryd.func19, Tryd.ntmps19
      go_wp2_with fail
      refine C1.out.mono ?_
      rintro e w' ⟨rfl, n1, rfl⟩
      go_wp2_with fail
      refine (C2.out _).mono ?_
      rintro e w' ⟨rfl, n2, rfl⟩
      go_wp2_with fail
      refine (C3.out _).mono ?_
      rintro e w' ⟨rfl, n3, rfl⟩
      go_wp2_with fail
      refine (C4.out _).mono ?_
      rintro e w' ⟨rfl, n4, rfl⟩
      go_wp2_with fail
      refine (N1.out _).mono ?_
      rintro e w' ⟨rfl, rfl⟩
      go_wp2_with fail
      refine (N2.out _).mono ?_
      rintro e w' ⟨rfl, rfl⟩
      go_wp2
      refine bodyPost_ret (results_tmp5 rfl _ _ _) rfl ?_
      exact ⟨by rw [← HQ.out, HP.out]; rfl, _, rfl⟩
    cases k2
    · have HP : Hid (hearW s = none) := Lib.hid (by rw [HH.out]; simp)
      go_enter Tryd.func19, Tryd.ntmps19
      go_wp2_with fail
      refine C1.out.mono ?_
      rintro e w' ⟨rfl, n1, rfl⟩
      go_wp2_with fail
      refine (C2.out _).mono ?_
      rintro e w' ⟨rfl, n2, rfl⟩
      go_wp2_with fail
      refine (C3.out _).mono ?_
      rintro e w' ⟨rfl, n3, rfl⟩
      go_wp2_with fail
      refine (C4.out _).mono ?_
      rintro e w' ⟨rfl, n4, rfl⟩
      go_wp2_with fail
      refine (N1.out _).mono ?_
      rintro e w' ⟨rfl, rfl⟩
      go_wp2_with fail
      refine (N2.out _).mono ?_
      rintro e w' ⟨rfl, rfl⟩
      go_wp2
      refine bodyPost_ret (results_tmp5 rfl _ _ _) rfl ?_
      exact ⟨by rw [← HQ.out, HP.out]; rfl, _, rfl⟩
    cases k3
    · have HP : Hid (hearW s = none) := Lib.hid (by rw [HH.out]; simp)
      go_enter Tryd.func19, Tryd.ntmps19
      go_wp2_with fail
      refine C1.out.mono ?_
      rintro e w' ⟨rfl, n1, rfl⟩
      go_wp2_with fail
      refine (C2.out _).mono ?_
      rintro e w' ⟨rfl, n2, rfl⟩
      go_wp2_with fail
      refine (C3.out _).mono ?_
      rintro e w' ⟨rfl, n3, rfl⟩
      go_wp2_with fail
      refine (C4.out _).mono ?_
      rintro e w' ⟨rfl, n4, rfl⟩
      go_wp2_with fail
      refine (N1.out _).mono ?_
      rintro e w' ⟨rfl, rfl⟩
      go_wp2_with fail
      refine (N2.out _).mono ?_
      rintro e w' ⟨rfl, rfl⟩
      go_wp2
      refine bodyPost_ret (results_tmp5 rfl _ _ _) rfl ?_
      exact ⟨by rw [← HQ.out, HP.out]; rfl, _, rfl⟩
    cases k4
    · have HP : Hid (hearW s = none) := Lib.hid (by rw [HH.out]; simp)
      go_enter Tryd.func19, Tryd.ntmps19
      go_wp2_with fail
      refine C1.out.mono ?_
      rintro e w' ⟨rfl, n1, rfl⟩
      go_wp2_with fail
      refine (C2.out _).mono ?_
      rintro e w' ⟨rfl, n2, rfl⟩
      go_wp2_with fail
      refine (C3.out _).mono ?_
      rintro e w' ⟨rfl, n3, rfl⟩
      go_wp2_with fail
      refine (C4.out _).mono ?_
      rintro e w' ⟨rfl, n4, rfl⟩
      go_wp2_with fail
      refine (N1.out _).mono ?_
      rintro e w' ⟨rfl, rfl⟩
      go_wp2_with fail
      refine (N2.out _).mono ?_
      rintro e w' ⟨rfl, rfl⟩
      go_wp2
      refine bodyPost_ret (results_tmp5 rfl _ _ _) rfl ?_
      exact ⟨by rw [← HQ.out, HP.out]; rfl, _, rfl⟩
    cases z
    · have HP : Hid (hearW s = none) := Lib.hid (by rw [HH.out]; simp)
      go_enter Tryd.func19, Tryd.ntmps19
      go_wp2_with fail
      refine C1.out.mono ?_
      rintro e w' ⟨rfl, n1, rfl⟩
      go_wp2_with fail
      refine (C2.out _).mono ?_
      rintro e w' ⟨rfl, n2, rfl⟩
      go_wp2_with fail
      refine (C3.out _).mono ?_
      rintro e w' ⟨rfl, n3, rfl⟩
      go_wp2_with fail
      refine (C4.out _).mono ?_
      rintro e w' ⟨rfl, n4, rfl⟩
      go_wp2_with fail
      refine (N1.out _).mono ?_
      rintro e w' ⟨rfl, rfl⟩
      go_wp2_with fail
      refine (N2.out _).mono ?_
      rintro e w' ⟨rfl, rfl⟩
      go_wp2_with fail
      refine (HT.out _).mono ?_
      rintro e w' ⟨rfl, rfl⟩
      go_wp2
      refine bodyPost_ret (results_tmp5 rfl _ _ _) rfl ?_
      exact ⟨by rw [← HQ.out, HP.out]; rfl, _, rfl⟩
    rcases hu with ⟨rfl, hx0⟩ | ⟨m, rfl, rfl⟩
    · have HP : Hid (hearW s = none) := Lib.hid (by rw [HH.out]; simp)
      go_enter Tryd.func19, Tryd.ntmps19
      go_wp2_with fail
      refine C1.out.mono ?_
      rintro e w' ⟨rfl, n1, rfl⟩
      go_wp2_with fail
      refine (C2.out _).mono ?_
      rintro e w' ⟨rfl, n2, rfl⟩
      go_wp2_with fail
      refine (C3.out _).mono ?_
      rintro e w' ⟨rfl, n3, rfl⟩
      go_wp2_with fail
      refine (C4.out _).mono ?_
      rintro e w' ⟨rfl, n4, rfl⟩
      go_wp2_with fail
      refine (N1.out _).mono ?_
      rintro e w' ⟨rfl, rfl⟩
      go_wp2_with fail
      refine (N2.out _).mono ?_
      rintro e w' ⟨rfl, rfl⟩
      go_wp2_with fail
      refine (HT.out _).mono ?_
      rintro e w' ⟨rfl, rfl⟩
      go_wp2
      refine bodyPost_ret (results_tmp5 rfl _ _ _) rfl ?_
      exact ⟨by rw [← HQ.out, HP.out]; rfl, _, rfl⟩
    rcases hv2 with ⟨rfl, hx1⟩ | ⟨n, rfl, rfl⟩
    · have HP : Hid (hearW s = none) := Lib.hid (by rw [HH.out]; simp)
      go_enter Tryd.func19, Tryd.ntmps19
      go_wp2_with fail
      refine C1.out.mono ?_
      rintro e w' ⟨rfl, n1, rfl⟩
      go_wp2_with fail
      refine (C2.out _).mono ?_
      rintro e w' ⟨rfl, n2, rfl⟩
      go_wp2_with fail
      refine (C3.out _).mono ?_
      rintro e w' ⟨rfl, n3, rfl⟩
      go_wp2_with fail
      refine (C4.out _).mono ?_
      rintro e w' ⟨rfl, n4, rfl⟩
      go_wp2_with fail
      refine (N1.out _).mono ?_
      rintro e w' ⟨rfl, rfl⟩
      go_wp2_with fail
      refine (N2.out _).mono ?_
      rintro e w' ⟨rfl, rfl⟩
      go_wp2_with fail
      refine (HT.out _).mono ?_
      rintro e w' ⟨rfl, rfl⟩
      go_wp2
      refine bodyPost_ret (results_tmp5 rfl _ _ _) rfl ?_
      exact ⟨by rw [← HQ.out, HP.out]; rfl, _, rfl⟩
    have HP : Hid (hearW s = some (b, m, n, f)) := Lib.hid (by rw [HH.out]; rfl)
    go_enter Tryd.func19, Tryd.ntmps19
    go_wp2_with fail
    refine C1.out.mono ?_
    rintro e w' ⟨rfl, n1, rfl⟩
    go_wp2_with fail
    refine (C2.out _).mono ?_
    rintro e w' ⟨rfl, n2, rfl⟩
    go_wp2_with fail
    refine (C3.out _).mono ?_
    rintro e w' ⟨rfl, n3, rfl⟩
    go_wp2_with fail
    refine (C4.out _).mono ?_
    rintro e w' ⟨rfl, n4, rfl⟩
    go_wp2_with fail
    refine (N1.out _).mono ?_
    rintro e w' ⟨rfl, rfl⟩
    go_wp2_with fail
    refine (N2.out _).mono ?_
    rintro e w' ⟨rfl, rfl⟩
    go_wp2_with fail
    refine (HT.out _).mono ?_
    rintro e w' ⟨rfl, rfl⟩
    go_wp2
    refine bodyPost_ret (results_tmp5 rfl _ _ _) rfl ?_
    exact ⟨by rw [← HQ.out, HP.out]; rfl, _, rfl⟩
  have HP : Hid (hearW s = none) := Lib.hid (by rw [HH.out]; rw [if_neg (fun h => ha h.1)])
  have hab : (a == [77, 83, 71]) = false := by simpa using ha
  clear ha
  go_enter Tryd.func19, Tryd.ntmps19
  go_wp2_with fail
  refine C1.out.mono ?_
  rintro e w' ⟨rfl, n1, rfl⟩
  go_wp2_with fail
  refine (C2.out _).mono ?_
  rintro e w' ⟨rfl, n2, rfl⟩
  go_wp2_with fail
  refine (C3.out _).mono ?_
  rintro e w' ⟨rfl, n3, rfl⟩
  go_wp2_with fail
  refine (C4.out _).mono ?_
  rintro e w' ⟨rfl, n4, rfl⟩
  go_wp2_with fail
  refine (N1.out _).mono ?_
  rintro e w' ⟨rfl, rfl⟩
  go_wp2_with fail
  refine (N2.out _).mono ?_
  rintro e w' ⟨rfl, rfl⟩
  go_wp2
  refine bodyPost_ret (results_tmp5 rfl _ _ _) rfl ?_
  exact ⟨by rw [← HQ.out, HP.out]; rfl, _, rfl⟩

end Go.Proofs.YtjnkgblcfoblcaaDoor.WdF
