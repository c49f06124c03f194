import Derived.Test.YtjnkgblcfoblcaaDoorWdC
import Derived.Deep.RegionHeld3
namespace Go.Proofs.YtjnkgblcfoblcaaDoor.WdD
open Go Go.RowKit Go.Proofs Go.Proofs.YtjnkgblcfoblcaaDoor.Sep Go.Proofs.YtjnkgblcfoblcaaDoor.Reg Go.Proofs.YtjnkgblcfoblcaaDoor.Frame Go.Proofs.YtjnkgblcfoblcaaDoor.WdP Go.Proofs.YtjnkgblcfoblcaaDoor.WdT Go.Proofs.YtjnkgblcfoblcaaDoor.WdN Go.Proofs.YtjnkgblcfoblcaaDoor.WdC

/-- A text, or none. -/
def txtV : Option (List UInt8) → Value
  | some s => .tuple #[.string ⟨s.toArray⟩, .bool true]
  | none => .tuple #[.string ⟨#[]⟩, .bool false]

set_option maxRecDepth 100000 in
set_option maxHeartbeats 4000000 in
theorem Bytes_any (k : Int) (t d : List UInt8) (q : Value) (hq : txtV (bytesW k t d) = q) (W : World) (ht5 : t.length ≤ 1000000) (hd5 : d.length ≤ 1000000) :
    Calls Tryd.prog 11 #[cmdA k t d] W (Makes W q) := by
  have HQ := Lib.hid hq
  clear hq
  have h1 := (St.start W).alloc (.cells #[.int .i64 k, .string ⟨t.toArray⟩, .string ⟨d.toArray⟩] 23 (0, 0))
  have hc0 := h1.cell 0 rfl
  have hc1 := h1.cell 1 rfl
  have hc2 := h1.cell 2 rfl
  have hb := h1.below
  cases ht : topic t
  · have HT := Lib.hid fun w => (Topic_any t w (by omega)).mono fun e w' h => h.eq (v := .bool false) (by rw [ht])
    have HP : Hid (bytesW k t d = none) := Lib.hid (by unfold bytesW; rw [if_pos ht])
    clear ht
    go_enter Tryd.func11, Tryd.ntmps11
    go_wp2_with fail
    refine (HT.out _).mono ?_
    rintro e w' ⟨rfl, rfl⟩
    go_wp2
    go_ret2
    exact ⟨by rw [← HQ.out, HP.out]; rfl, hb⟩
  have HT := Lib.hid fun w => (Topic_any t w (by omega)).mono fun e w' h => h.eq (v := .bool true) (by rw [ht])
  have HP0 : Hid (bytesW k t d = if k = 1 then (if d = [] then some (wSUB ++ 32 :: t) else none)
    else if k = 2 then (if d = [] then some (wUNSUB ++ 32 :: t) else none)
    else if k = 3 then some (wPUB ++ 32 :: (t ++ 32 :: d)) else none) := Lib.hid (by unfold bytesW; rw [if_neg (by rw [ht]; simp)])
  clear ht
  by_cases h3 : k = 3
  · subst h3
    have HP : Hid (bytesW 3 t d = some (wPUB ++ 32 :: (t ++ 32 :: d))) := Lib.hid (by rw [HP0.out, if_neg (by decide), if_neg (by decide), if_pos rfl])
    have ha1 := run_str_add (P := Tryd.prog) [80, 85, 66, 32] t (by simp; omega)
    have ha2 := run_str_add (P := Tryd.prog) (80 :: 85 :: 66 :: 32 :: t) [32] (by simp; omega)
    have ha3 := run_str_add (P := Tryd.prog) (80 :: 85 :: 66 :: 32 :: (t ++ [32])) d (by simp; omega)
    simp only [List.cons_append, List.nil_append, List.append_assoc] at ha1 ha2 ha3
    go_enter Tryd.func11, Tryd.ntmps11
    go_wp2_with fail
    refine (HT.out _).mono ?_
    rintro e w' ⟨rfl, rfl⟩
    go_wp2
    go_ret2
    exact ⟨by rw [← HQ.out, HP.out]; rfl, hb⟩
  have h3b : (k != 3) = true := by simpa using h3
  have h3c : (k == 3) = false := by simpa using h3
  by_cases hd : d = []
  · subst hd
    by_cases hk1 : k = 1
    · subst hk1
      have HP : Hid (bytesW 1 t [] = some (wSUB ++ 32 :: t)) := Lib.hid (by rw [HP0.out]; rfl)
      have ha1 := run_str_add (P := Tryd.prog) [83, 85, 66, 32] t (by simp; omega)
      simp only [List.cons_append, List.nil_append] at ha1
      clear h3
      go_enter Tryd.func11, Tryd.ntmps11
      go_wp2_with fail
      refine (HT.out _).mono ?_
      rintro e w' ⟨rfl, rfl⟩
      go_wp2
      go_ret2
      exact ⟨by rw [← HQ.out, HP.out]; rfl, hb⟩
    by_cases hk2 : k = 2
    · subst hk2
      have HP : Hid (bytesW 2 t [] = some (wUNSUB ++ 32 :: t)) := Lib.hid (by rw [HP0.out]; rfl)
      have ha1 := run_str_add (P := Tryd.prog) [85, 78, 83, 85, 66, 32] t (by simp; omega)
      simp only [List.cons_append, List.nil_append] at ha1
      clear h3
      go_enter Tryd.func11, Tryd.ntmps11
      go_wp2_with fail
      refine (HT.out _).mono ?_
      rintro e w' ⟨rfl, rfl⟩
      go_wp2
      go_ret2
      exact ⟨by rw [← HQ.out, HP.out]; rfl, hb⟩
    have HP : Hid (bytesW k t [] = none) := Lib.hid (by rw [HP0.out, if_neg hk1, if_neg hk2, if_neg h3])
    have hk1b : (k == 1) = false := by simpa using hk1
    have hk2b : (k == 2) = false := by simpa using hk2
    clear h3 hk1 hk2
    go_enter Tryd.func11, Tryd.ntmps11
    go_wp2_with fail
    refine (HT.out _).mono ?_
    rintro e w' ⟨rfl, rfl⟩
    go_wp2
    go_ret2
    exact ⟨by rw [← HQ.out, HP.out]; rfl, hb⟩
  · have HP : Hid (bytesW k t d = none) := Lib.hid (by rw [HP0.out]; simp [hd, h3])
    have hdb : (d == []) = false := by simpa using hd
    clear h3 hd
    go_enter Tryd.func11, Tryd.ntmps11
    go_wp2_with fail
    refine (HT.out _).mono ?_
    rintro e w' ⟨rfl, rfl⟩
    go_wp2
    go_ret2
    exact ⟨by rw [← HQ.out, HP.out]; rfl, hb⟩

set_option maxRecDepth 100000 in
set_option maxHeartbeats 4000000 in
theorem rBytes_any (k : Int) (t d : List UInt8) (q : Value) (hq : txtV (bytesW k t d) = q) (W : World) (ht5 : t.length ≤ 1000000) (hd5 : d.length ≤ 1000000) :
    Calls Tryd.prog 12 #[.int .i64 k, .string ⟨t.toArray⟩, .string ⟨d.toArray⟩] W (Same W q) := by
  have HQ := Lib.hid hq
  clear hq
  cases ht : topic t
  · have HT := Lib.hid fun w => (rTopic_any t w (by omega)).mono fun e w' h => h.eq (v := .bool false) (by rw [ht])
    have HP : Hid (bytesW k t d = none) := Lib.hid (by unfold bytesW; rw [if_pos ht])
    clear ht
    go_enter Tryd.func12, Tryd.ntmps12
    go_wp2_with fail
    refine (HT.out _).mono ?_
    rintro e w' ⟨rfl, rfl⟩
    go_wp2
    go_ret2
    exact ⟨by rw [← HQ.out, HP.out]; rfl, rfl⟩
  have HT := Lib.hid fun w => (rTopic_any t w (by omega)).mono fun e w' h => h.eq (v := .bool true) (by rw [ht])
  have HP0 : Hid (bytesW k t d = if k = 1 then (if d = [] then some (wSUB ++ 32 :: t) else none)
    else if k = 2 then (if d = [] then some (wUNSUB ++ 32 :: t) else none)
    else if k = 3 then some (wPUB ++ 32 :: (t ++ 32 :: d)) else none) := Lib.hid (by unfold bytesW; rw [if_neg (by rw [ht]; simp)])
  clear ht
  by_cases hk : k < 1
  · have HP : Hid (bytesW k t d = none) := Lib.hid (by rw [HP0.out, if_neg (by omega), if_neg (by omega), if_neg (by omega)])
    go_enter Tryd.func12, Tryd.ntmps12
    go_wp2_with fail
    refine (HT.out _).mono ?_
    rintro e w' ⟨rfl, rfl⟩
    go_wp2
    go_ret2
    exact ⟨by rw [← HQ.out, HP.out]; rfl, rfl⟩
  by_cases hk3 : 3 < k
  · have HP : Hid (bytesW k t d = none) := Lib.hid (by rw [HP0.out, if_neg (by omega), if_neg (by omega), if_neg (by omega)])
    go_enter Tryd.func12, Tryd.ntmps12
    go_wp2_with fail
    refine (HT.out _).mono ?_
    rintro e w' ⟨rfl, rfl⟩
    go_wp2
    go_ret2
    exact ⟨by rw [← HQ.out, HP.out]; rfl, rfl⟩
  by_cases h3 : k = 3
  · subst h3
    have HP : Hid (bytesW 3 t d = some (wPUB ++ 32 :: (t ++ 32 :: d))) := Lib.hid (by rw [HP0.out, if_neg (by decide), if_neg (by decide), if_pos rfl])
    have ha1 := run_str_add (P := Tryd.prog) [80, 85, 66, 32] t (by simp; omega)
    have ha2 := run_str_add (P := Tryd.prog) (80 :: 85 :: 66 :: 32 :: t) [32] (by simp; omega)
    have ha3 := run_str_add (P := Tryd.prog) (80 :: 85 :: 66 :: 32 :: (t ++ [32])) d (by simp; omega)
    simp only [List.cons_append, List.nil_append, List.append_assoc] at ha1 ha2 ha3
    go_enter Tryd.func12, Tryd.ntmps12
    go_wp2_with fail
    refine (HT.out _).mono ?_
    rintro e w' ⟨rfl, rfl⟩
    go_wp2
    go_ret2
    exact ⟨by rw [← HQ.out, HP.out]; rfl, rfl⟩
  by_cases hd : 0 < d.length
  · have HP : Hid (bytesW k t d = none) := Lib.hid (by
      have hd0 : d ≠ [] := by rintro rfl; simp at hd
      rw [HP0.out]; simp [hd0, h3])
    have hk4 : k < 3 := by omega
    clear h3
    go_enter Tryd.func12, Tryd.ntmps12
    go_wp2_with fail
    refine (HT.out _).mono ?_
    rintro e w' ⟨rfl, rfl⟩
    go_wp2
    go_ret2
    exact ⟨by rw [← HQ.out, HP.out]; rfl, rfl⟩
  · obtain rfl : d = [] := List.eq_nil_of_length_eq_zero (by omega)
    rcases (show k = 1 ∨ k = 2 from by omega) with rfl | rfl
    · have HP : Hid (bytesW 1 t [] = some (wSUB ++ 32 :: t)) := Lib.hid (by rw [HP0.out]; rfl)
      have ha1 := run_str_add (P := Tryd.prog) [83, 85, 66, 32] t (by simp; omega)
      simp only [List.cons_append, List.nil_append] at ha1
      clear h3
      go_enter Tryd.func12, Tryd.ntmps12
      go_wp2_with fail
      refine (HT.out _).mono ?_
      rintro e w' ⟨rfl, rfl⟩
      go_wp2
      go_ret2
      exact ⟨by rw [← HQ.out, HP.out]; rfl, rfl⟩
    · have HP : Hid (bytesW 2 t [] = some (wUNSUB ++ 32 :: t)) := Lib.hid (by rw [HP0.out]; rfl)
      have ha1 := run_str_add (P := Tryd.prog) [85, 78, 83, 85, 66, 32] t (by simp; omega)
      simp only [List.cons_append, List.nil_append] at ha1
      clear h3
      go_enter Tryd.func12, Tryd.ntmps12
      go_wp2_with fail
      refine (HT.out _).mono ?_
      rintro e w' ⟨rfl, rfl⟩
      go_wp2
      go_ret2
      exact ⟨by rw [← HQ.out, HP.out]; rfl, rfl⟩

def strV : Option (List UInt8) → Value
  | some s => .string ⟨s.toArray⟩
  | none => .string ⟨#[]⟩
set_option maxRecDepth 100000 in
theorem Fault_any (n : Int) (q : Value) (hq : strV (faultW n) = q) (W : World) (hG : Gl W) : Calls Tryd.prog 15 #[.int .i64 n] W (Makes W q) := by
  have HQ := Lib.hid hq
  clear hq
  have HS := St.start W
  cases hm : may n
  · have HN := Lib.hid fun w => number_any n false hm w
    have HP : Hid (faultW n = none) := Lib.hid (by unfold faultW; rw [if_neg (by rw [hm]; simp)])
    clear hm
    go_enter Tryd.func15, Tryd.ntmps15
    go_wp2_with fail
    refine (HN.out _).mono ?_
    rintro e w' ⟨rfl, rfl⟩
    go_wp2
    go_ret
    exact ⟨by rw [← HQ.out, HP.out]; rfl, HS.below⟩
  · obtain ⟨m, rfl, hm2⟩ := (may_nat n).1 hm
    have HN := Lib.hid fun w => number_any (m : Int) true hm w
    have HI := Lib.hid fun w h => Itoa_any (m : Int) m rfl (by omega) w h
    have HP : Hid (faultW m = some (wERR ++ 32 :: Lib.decDigits m)) := Lib.hid (by unfold faultW; rw [if_pos hm]; rfl)
    have hl := dec_len 19 m (by omega) (by omega)
    clear hm
    generalize Lib.decDigits m = d at *
    have ha1 := run_str_add (P := Tryd.prog) [69, 82, 82, 32] d (by simp; omega)
    simp only [List.cons_append, List.nil_append] at ha1
    go_enter Tryd.func15, Tryd.ntmps15
    go_wp2_with fail
    refine (HN.out _).mono ?_
    rintro e w' ⟨rfl, rfl⟩
    go_wp2_with fail
    refine (HI.out _ hG).mono ?_
    rintro e w' hq
    have h2 := HS.makes hq
    obtain ⟨rfl, -⟩ := hq
    go_wp2
    go_ret
    exact ⟨by rw [← HQ.out, HP.out]; rfl, h2.below⟩
set_option maxRecDepth 100000 in
theorem rFault_any (n : Int) (q : Value) (hq : strV (faultW n) = q) (W : World) : Calls Tryd.prog 16 #[.int .i64 n] W (Makes W q) := by
  have HQ := Lib.hid hq
  clear hq
  have HS := St.start W
  cases hm : may n
  · have HN := Lib.hid fun w => rMay_any n false hm w
    have HP : Hid (faultW n = none) := Lib.hid (by unfold faultW; rw [if_neg (by rw [hm]; simp)])
    clear hm
    go_enter Tryd.func16, Tryd.ntmps16
    go_wp2_with fail
    refine (HN.out _).mono ?_
    rintro e w' ⟨rfl, rfl⟩
    go_wp2
    go_ret
    exact ⟨by rw [← HQ.out, HP.out]; rfl, HS.below⟩
  · obtain ⟨m, rfl, hm2⟩ := (may_nat n).1 hm
    have HN := Lib.hid fun w => rMay_any (m : Int) true hm w
    have HI := Lib.hid fun w => rDigits_any m (m : Int) w rfl (by omega)
    have HP : Hid (faultW m = some (wERR ++ 32 :: Lib.decDigits m)) := Lib.hid (by unfold faultW; rw [if_pos hm]; rfl)
    have hl := dec_len 19 m (by omega) (by omega)
    clear hm
    generalize Lib.decDigits m = d at *
    have ha1 := run_str_add (P := Tryd.prog) [69, 82, 82, 32] d (by simp; omega)
    simp only [List.cons_append, List.nil_append] at ha1
    go_enter Tryd.func16, Tryd.ntmps16
    go_wp2_with fail
    refine (HN.out _).mono ?_
    rintro e w' ⟨rfl, rfl⟩
    go_wp2_with fail
    refine (HI.out _).mono ?_
    rintro e w' hq
    have h2 := HS.makes hq
    obtain ⟨rfl, -⟩ := hq
    go_wp2
    go_ret
    exact ⟨by rw [← HQ.out, HP.out]; rfl, h2.below⟩

theorem pre_yes {s : List UInt8} (h : Lib.hasPrefix s [69, 82, 82, 32] = true) : Lib.trimPrefix s [69, 82, 82, 32] = s.drop 4 ∧ faultedW s = num (s.drop 4) := by
  refine ⟨by unfold Lib.trimPrefix; rw [if_pos h]; rfl, ?_⟩
  obtain ⟨r, rfl⟩ := List.isPrefixOf_iff_prefix.1 (show [69, 82, 82, 32].isPrefixOf s = true from h)
  have e : ([69, 82, 82, 32] : List UInt8) ++ r = wERR ++ 32 :: r := rfl
  rw [e]
  unfold faultedW
  rw [cutB_at wERR r (by decide)]
  simp only
  rw [if_pos ⟨trivial, trivial⟩]; rfl
theorem pre_no {s : List UInt8} (h : Lib.hasPrefix s [69, 82, 82, 32] = false) : faultedW s = none := by
  unfold faultedW
  rcases cutB_cases s with ⟨x, r, rfl, hx, e⟩ | ⟨hx, e⟩
  · rw [e]
    simp only
    rw [if_neg]
    rintro ⟨rfl, -⟩
    simp [Lib.hasPrefix, wERR, List.isPrefixOf] at h
  · rw [e]; simp

set_option maxRecDepth 100000 in
theorem Faulted_any (s : List UInt8) (q : Value) (hq : numV (faultedW s) = q) (W : World) (hG : Gl W) (hs : s.length ≤ 1000000) : Calls Tryd.prog 22 #[.string ⟨s.toArray⟩] W (Makes W q) := by
  have HQ := Lib.hid hq
  clear hq
  have HS := St.start W
  have HC := Lib.hid fun w => Tryd.strings_CutPrefix ⟨s.toArray⟩ ⟨#[69, 82, 82, 32]⟩ w
  cases hp : Lib.hasPrefix s [69, 82, 82, 32]
  · have HP := Lib.hid (pre_no hp)
    have HC : Hid (∀ w, Calls Tryd.prog 37 #[.string ⟨s.toArray⟩, .string ⟨#[69, 82, 82, 32]⟩] w fun e w' => e = .returned (.tuple #[.string ⟨(Lib.trimPrefix s [69, 82, 82, 32]).toArray⟩, .bool false]) ∧ w' = w) := Lib.hid fun w => (HC.out w).mono fun e w' h => ⟨by rw [h.1, show Lib.hasPrefix (⟨s.toArray⟩ : ByteArray).data.toList (⟨#[69, 82, 82, 32]⟩ : ByteArray).data.toList = false from hp], h.2⟩
    clear hp
    go_enter Tryd.func22, Tryd.ntmps22
    go_wp2_with fail
    refine (HC.out _).mono ?_
    rintro e w' ⟨rfl, rfl⟩
    go_wp2
    go_ret2
    exact ⟨by rw [← HQ.out, HP.out]; rfl, HS.below⟩
  · have HP := Lib.hid (pre_yes hp)
    have HC : Hid (∀ w, Calls Tryd.prog 37 #[.string ⟨s.toArray⟩, .string ⟨#[69, 82, 82, 32]⟩] w fun e w' => e = .returned (.tuple #[.string ⟨(s.drop 4).toArray⟩, .bool true]) ∧ w' = w) := Lib.hid fun w => (HC.out w).mono fun e w' h => ⟨by rw [h.1, show Lib.hasPrefix (⟨s.toArray⟩ : ByteArray).data.toList (⟨#[69, 82, 82, 32]⟩ : ByteArray).data.toList = true from hp, show Lib.trimPrefix (⟨s.toArray⟩ : ByteArray).data.toList (⟨#[69, 82, 82, 32]⟩ : ByteArray).data.toList = s.drop 4 from HP.out.1], h.2⟩
    have hl : (s.drop 4).length ≤ s.length := by simp
    have hfin : numV (num (s.drop 4)) = q := by rw [← HQ.out, HP.out.2]
    have HR := Lib.hid fun w h => read_any (s.drop 4) _ rfl w h (by omega)
    clear hp HP HQ
    generalize s.drop 4 = r at *
    cases hn : num r with
    | none =>
      rw [hn] at hfin HR
      have HF := Lib.hid hfin
      simp only [numV] at HR
      clear hn hfin
      go_enter Tryd.func22, Tryd.ntmps22
      go_wp2_with fail
      refine (HC.out _).mono ?_
      rintro e w' ⟨rfl, rfl⟩
      go_wp2_with fail
      refine (HR.out _ hG).mono ?_
      rintro e w' hq
      have h2 := HS.makes hq
      obtain ⟨rfl, -⟩ := hq
      go_wp2
      go_ret2
      exact ⟨by rw [← HF.out]; rfl, h2.below⟩
    | some n =>
      rw [hn] at hfin HR
      have HF := Lib.hid hfin
      simp only [numV] at HR
      clear hn hfin
      go_enter Tryd.func22, Tryd.ntmps22
      go_wp2_with fail
      refine (HC.out _).mono ?_
      rintro e w' ⟨rfl, rfl⟩
      go_wp2_with fail
      refine (HR.out _ hG).mono ?_
      rintro e w' hq
      have h2 := HS.makes hq
      obtain ⟨rfl, -⟩ := hq
      go_wp2
      go_ret2
      exact ⟨by rw [← HF.out]; rfl, h2.below⟩

set_option maxRecDepth 100000 in
theorem rFaulted_any (s : List UInt8) (q : Value) (hq : intV (faultedW s) = q) (w : World) (hs : s.length ≤ 1000000) : Calls Tryd.prog 21 #[.string ⟨s.toArray⟩] w (Quiet w q) := by
  have HQ := Lib.hid hq
  clear hq
  rcases hx : cutB s with ⟨a, r, k⟩
  have HX := Lib.hid hx
  have hlen := (cutB_len s)
  rw [hx] at hlen
  simp only at hlen
  have hrl := hlen.2.1
  have HC := Lib.hid (rcut_any hx w hs)
  clear hlen hx
  by_cases ha : a = [69, 82, 82]
  · subst ha
    cases k
    · have HP : Hid (faultedW s = none) := Lib.hid (by unfold faultedW; rw [HX.out]; rfl)
      go_enter Tryd.func21, Tryd.ntmps21
      go_wp2_with fail
      refine HC.out.mono ?_
      rintro e w' ⟨rfl, n, rfl⟩
      go_wp2
      go_ret
      exact ⟨by rw [← HQ.out, HP.out]; rfl, n, rfl⟩
    · have HP : Hid (faultedW s = num r) := Lib.hid (by unfold faultedW; rw [HX.out]; rfl)
      have HN := Lib.hid fun w => rNumber_any r q (by rw [← HQ.out, HP.out]) w (by omega)
      go_enter Tryd.func21, Tryd.ntmps21
      go_wp2_with fail
      refine HC.out.mono ?_
      rintro e w' ⟨rfl, n, rfl⟩
      go_wp2_with fail
      refine (HN.out _).mono ?_
      rintro e w' ⟨rfl, rfl⟩
      go_wp2
      go_ret
      exact ⟨rfl, n, rfl⟩
  · have HP : Hid (faultedW s = none) := Lib.hid (by unfold faultedW; rw [HX.out]; simp only; rw [if_neg (fun h => ha h.1)])
    have hab : (a == [69, 82, 82]) = false := by simpa using ha
    clear ha
    go_enter Tryd.func21, Tryd.ntmps21
    go_wp2_with fail
    refine HC.out.mono ?_
    rintro e w' ⟨rfl, n, rfl⟩
    go_wp2
    go_ret
    exact ⟨by rw [← HQ.out, HP.out]; rfl, n, rfl⟩

end Go.Proofs.YtjnkgblcfoblcaaDoor.WdD
