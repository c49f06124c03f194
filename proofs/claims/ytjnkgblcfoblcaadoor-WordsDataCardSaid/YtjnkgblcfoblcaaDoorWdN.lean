import Derived.Test.YtjnkgblcfoblcaaDoorWdT
import Derived.WalkSmall
import Derived.Lib.AppendIntMem
import Derived.Lib.AtoiErrMem
namespace Go.Proofs.YtjnkgblcfoblcaaDoor.WdN
open Go Go.RowKit Go.Proofs Go.Proofs.YtjnkgblcfoblcaaDoor.Sep Go.Proofs.YtjnkgblcfoblcaaDoor.Reg Go.Proofs.YtjnkgblcfoblcaaDoor.Frame Go.Proofs.YtjnkgblcfoblcaaDoor.WdP Go.Proofs.YtjnkgblcfoblcaaDoor.WdT

/-- What the library's variables hold. -/
def Gl (w : World) : Prop :=
  (∃ m, w.cell? ⟨0, 0, none⟩ = some (.int .i64 m)) ∧
  Lib.TabIs Tryd.prog w "internal/strconv.uint64pow10" .u64 Lib.pow10Tab ∧
  (∃ ev, w.cell? ⟨2, 0, none⟩ = some ev ∧ (ev = .nilIface ∨ ∃ te pe, ev = .iface te pe)) ∧
  (∃ ev, w.cell? ⟨3, 0, none⟩ = some ev ∧ (ev = .nilIface ∨ ∃ te pe, ev = .iface te pe))
theorem cell_past {w w' : World} {a : Addr} {v : Value} (h : w.cell? a = some v) (hb : Below w.heap.size w w') : w'.cell? a = some v :=
  (hb.cell (World.block_lt_of_cell? w _ h)).trans h
theorem tab_past {w w' : World} (h : Lib.TabIs Tryd.prog w "internal/strconv.uint64pow10" .u64 Lib.pow10Tab) (hb : Below w.heap.size w w') : Lib.TabIs Tryd.prog w' "internal/strconv.uint64pow10" .u64 Lib.pow10Tab := by
  have hg : Tryd.prog.globalNamed "internal/strconv.uint64pow10" = some 1 := by kernel_rfl
  refine var?_below hb hg ?_ h
  unfold Lib.TabIs World.var? at h
  rw [hg] at h
  rcases Nat.lt_or_ge 1 w.heap.size with h' | h'
  · exact h'
  · simp [Array.getElem?_eq_none h'] at h
theorem Gl.below {w w' : World} (h : Gl w) (hb : Below w.heap.size w w') : Gl w' := by
  obtain ⟨⟨m, h1⟩, h2, ⟨e1, h3, h4⟩, ⟨e2, h5, h6⟩⟩ := h
  exact ⟨⟨m, cell_past h1 hb⟩, tab_past h2 hb, ⟨e1, cell_past h3 hb, h4⟩, ⟨e2, cell_past h5 hb, h6⟩⟩
theorem Gl.st {W w : World} {A : Asn} (h : Gl W) (hS : St W w A) : Gl w := h.below hS.below

theorem cut_any {s a r : List UInt8} {k : Bool} (h : cutB s = (a, r, k)) (w : World) (hG : Gl w) (hs : s.length ≤ 1000000) :
    Calls Tryd.prog 32 #[.string ⟨s.toArray⟩, .string ⟨#[32]⟩] w (Quiet w (.tuple #[.string ⟨a.toArray⟩, .string ⟨r.toArray⟩, .bool k])) := by
  obtain ⟨m, hm⟩ := hG.1
  refine (Tryd.strings_Cut ⟨s.toArray⟩ ⟨#[32]⟩ m w (by simp [ByteArray.size]; omega) hm).mono ?_
  rintro e w' ⟨rfl, n, rfl⟩
  have hc : Lib.cut ((⟨s.toArray⟩ : ByteArray).data.toList) ((⟨#[32]⟩ : ByteArray).data.toList) = (a, r, k) := by rw [← h, ← cut_lib]
  rw [hc]
  exact ⟨rfl, n, rfl⟩

set_option maxRecDepth 100000 in
theorem rcut_any {s a r : List UInt8} {k : Bool} (h : cutB s = (a, r, k)) (w : World) (hs : s.length ≤ 1000000) :
    Calls Tryd.prog 31 #[.string ⟨s.toArray⟩] w (Quiet w (.tuple #[.string ⟨a.toArray⟩, .string ⟨r.toArray⟩, .bool k])) := by
  have HH := Lib.hid h
  clear h
  go_enter Tryd.func31, Tryd.ntmps31
  go_wp2_with fail
  go_loop [5] (fun iv => ∃ i : Nat, i ≤ s.length ∧ iv = .int .i64 i ∧ ∀ c ∈ s.take i, c ≠ 32) (fun iv => s.length - (intOf iv).toNat)
  case atStart => exact ⟨0, by omega, rfl, by simp⟩
  case round =>
    obtain ⟨i, hi, rfl, hcc⟩ := hrel
    have HC := Lib.hid hcc
    clear hcc
    by_cases hi2 : i < s.length
    · have hsz : i < (ByteArray.mk s.toArray).size := by simpa [ByteArray.size] using hi2
      have HD := Lib.hid (drop_byte s i hsz)
      have HGt := Lib.hid (get_byte s i hsz)
      generalize hc : (ByteArray.mk s.toArray)[i]'hsz = x at *
      by_cases hx : x = 32
      · subst hx
        have HT : Hid (a = s.take i ∧ r = s.drop (i + 1) ∧ k = true) := Lib.hid (by
          have e : s = s.take i ++ 32 :: s.drop (i + 1) := by rw [← HD.out]; exact (List.take_append_drop i s).symm
          have h1 := cutB_at (s.take i) (s.drop (i + 1)) HC.out
          rw [← e, HH.out] at h1
          simpa using h1)
        have hs1 := run_str_h (P := Tryd.prog) 9 Tryd.underlying9 s i i rfl (by omega)
        have hs2 := run_str_l (P := Tryd.prog) 9 Tryd.underlying9 s ((i : Int) + 1) (i + 1) (by omega) (by omega)
        go_wp2_with fail
        refine wp_region_canon [0, 1, 2, 3, 4, 7, 5, 6, 8, 9] (by kernel_rfl) (by kernel_rfl) ?_
        simp only [pickOps, nthOp]
        go_wp2_with fail
        simp only [Only]
        go_wp2_with fail
        go_ret3
        exact ⟨by rw [HT.out.1, HT.out.2.1, HT.out.2.2]; rfl, 1, rfl⟩
      · have hxI : ((x.toNat : Int) == 32) = false := byte_ne hx
        have HN : Hid (∀ c ∈ s.take (i + 1), c ≠ 32) := Lib.hid (by
          intro c hc
          rw [List.take_add_one, HGt.out] at hc
          simp at hc
          rcases hc with hc | rfl
          · exact HC.out c hc
          · exact hx)
        clear hx
        go_wp2_with fail
        exact ⟨⟨i + 1, by omega, by go_num, HN.out⟩, by simp [intOf]; omega⟩
    · obtain rfl : i = s.length := by omega
      have HT : Hid (a = s ∧ r = [] ∧ k = false) := Lib.hid (by
        have h1 := cutB_none s (by have := HC.out; rwa [List.take_length] at this)
        rw [HH.out] at h1
        simpa using h1)
      go_wp2_with fail
      go_ret3
      exact ⟨by rw [HT.out.1, HT.out.2.1, HT.out.2.2]; rfl, 0, rfl⟩

set_option maxRecDepth 100000 in
theorem number_any (n : Int) (b : Bool) (hb : may n = b) (w : World) : Calls Tryd.prog 26 #[.int .i64 n] w (Same w (.bool b)) := by
  subst hb
  by_cases h1 : 0 ≤ n
  · by_cases h2 : n ≤ 4611686018427387904
    · have HT : Hid (may n = true) := Lib.hid (by simp [may, h1, h2])
      go_enter Tryd.func26, Tryd.ntmps26
      go_wp2
      go_ret
      exact ⟨ret_bool HT.out.symm, rfl⟩
    · have HT : Hid (may n = false) := Lib.hid (by simp [may, h2])
      go_enter Tryd.func26, Tryd.ntmps26
      go_wp2
      go_ret
      exact ⟨ret_bool HT.out.symm, rfl⟩
  · have HT : Hid (may n = false) := Lib.hid (by simp [may, h1])
    go_enter Tryd.func26, Tryd.ntmps26
    go_wp2
    go_ret
    exact ⟨ret_bool HT.out.symm, rfl⟩

set_option maxRecDepth 100000 in
theorem rMay_any (n : Int) (b : Bool) (hb : may n = b) (w : World) : Calls Tryd.prog 29 #[.int .i64 n] w (Same w (.bool b)) := by
  subst hb
  by_cases h1 : 0 ≤ n
  · by_cases h2 : n ≤ 4611686018427387904
    · have HT : Hid (may n = true) := Lib.hid (by simp [may, h1, h2])
      go_enter Tryd.func29, Tryd.ntmps29
      go_wp2
      go_ret
      exact ⟨ret_bool HT.out.symm, rfl⟩
    · have HT : Hid (may n = false) := Lib.hid (by simp [may, h2])
      go_enter Tryd.func29, Tryd.ntmps29
      go_wp2
      go_ret
      exact ⟨ret_bool HT.out.symm, rfl⟩
  · have HT : Hid (may n = false) := Lib.hid (by simp [may, h1])
    go_enter Tryd.func29, Tryd.ntmps29
    go_wp2
    go_ret
    exact ⟨ret_bool HT.out.symm, rfl⟩

theorem Itoa_any (n : Int) (m : Nat) (hm : n = m) (h : m < 9223372036854775808) (w : World) (hG : Gl w) : Calls Tryd.prog 28 #[.int .i64 n] w (Makes w (.string ⟨(Lib.decDigits m).toArray⟩)) := by
  subst hm
  refine (Tryd.strconv_Itoa m (by omega) (by omega) w hG.2.1).mono ?_
  rintro e w' ⟨rfl, k, os, rfl⟩
  rw [Lib.itoa_nonneg]
  exact ⟨rfl, Lib.below_grow _ w (Nat.le_refl _) k os⟩

/-- What Atoi tells, and read's answer of it. -/
def AtoiPost (w : World) (s : List UInt8) (e : Ending) (w' : World) : Prop :=
  Below w.heap.size w w' ∧ ((∃ v : Int, Lib.atoiAll s = .ok v ∧ e = .returned (.tuple #[.int .i64 v, .nilIface])) ∨ (num s = none ∧ ∃ v t p, e = .returned (.tuple #[.int .i64 v, .iface t p])))
theorem Atoi_any (s : List UInt8) (w : World) (hG : Gl w) (hs : s.length ≤ 1000000) : Calls Tryd.prog 49 #[.string ⟨s.toArray⟩] w (AtoiPost w s) := by
  have hz : (⟨s.toArray⟩ : ByteArray).size = s.length := by simp [ByteArray.size]
  have hd : (⟨s.toArray⟩ : ByteArray).data.toList = s := by simp
  obtain ⟨-, -, ⟨e1, h3, h4⟩, ⟨e2, h5, h6⟩⟩ := hG
  have hn := num_atoi s
  rcases h : Lib.atoiAll s with v | _ | _
  · refine (Tryd.strconv_Atoi_ok ⟨s.toArray⟩ (by omega) v (by rw [hd]; exact h) w).mono ?_
    rintro e w' ⟨rfl, hw⟩
    refine ⟨?_, .inl ⟨v, h, rfl⟩⟩
    rcases hw with rfl | ⟨t, rfl⟩
    · exact Below.refl _ _
    · exact Lib.bytesWorld_below w _ t
  · rw [h] at hn
    refine (Any.strconv_Atoi_syntax Tryd.laysC172 ⟨s.toArray⟩ (by omega) (by rw [hd]; exact h) e1 w h3 h4).mono ?_
    rintro e w' ⟨N, rfl, -, -, hb⟩
    exact ⟨hb, .inr ⟨hn, _, _, _, rfl⟩⟩
  · rw [h] at hn
    refine (Tryd.strconv_Atoi_range ⟨s.toArray⟩ (by omega) (by rw [hd]; exact h) e2 w h5 h6).mono ?_
    rintro e w' ⟨N, rfl, -, -, hb⟩
    exact ⟨hb, .inr ⟨hn, _, _, _, rfl⟩⟩

def numV : Option Nat → Value
  | some n => .tuple #[.int .i64 n, .bool true]
  | none => .tuple #[.int .i64 0, .bool false]
theorem may_nat (v : Int) : may v = true ↔ ∃ m : Nat, v = m ∧ m ≤ 4611686018427387904 := by
  unfold may
  simp only [Bool.and_eq_true, decide_eq_true_eq]
  constructor
  · rintro ⟨h1, h2⟩; exact ⟨v.toNat, by omega, by omega⟩
  · rintro ⟨m, rfl, h⟩; omega

set_option maxRecDepth 100000 in
theorem read_any (s : List UInt8) (q : Value) (hq : numV (num s) = q) (w : World) (hG : Gl w) (hs : s.length ≤ 1000000) : Calls Tryd.prog 36 #[.string ⟨s.toArray⟩] w (Makes w q) := by
  have HQ := Lib.hid hq
  clear hq
  have HS := St.start w
  have hn := num_atoi s
  go_enter Tryd.func36, Tryd.ntmps36
  go_wp2_with fail
  refine (Atoi_any s w hG hs).mono ?_
  rintro e w1 ⟨hb, ⟨v, h, rfl⟩ | ⟨h, v, t, p, rfl⟩⟩
  · have h1 := HS.past hb
    rw [h] at hn
    cases hm : may v
    · have HT : Hid (num s = none) := Lib.hid (by
        rw [hn]
        simp only
        rw [if_neg]
        rintro ⟨h1, h2, -⟩
        simp [may, h1, h2] at hm)
      have HN := Lib.hid fun w => number_any v false hm w
      clear hn h hm
      go_wp2_with fail
      refine (HN.out _).mono ?_
      rintro e w' ⟨rfl, rfl⟩
      go_wp2
      go_ret2
      exact ⟨by rw [← HQ.out, HT.out]; rfl, h1.below⟩
    · obtain ⟨m, rfl, hm2⟩ := (may_nat v).1 hm
      have HN := Lib.hid fun w => number_any (m : Int) true hm w
      have HI := Lib.hid fun w h => Itoa_any (m : Int) m rfl (by omega) w h
      by_cases he : Lib.decDigits m = s
      · have HT : Hid (num s = some m) := Lib.hid (by
          rw [hn]
          simp only
          rw [if_pos ⟨by omega, by omega, by rw [Lib.itoa_nonneg]; exact he⟩]
          simp)
        rw [he] at HI
        clear hn h hm he
        go_wp2_with fail
        refine (HN.out _).mono ?_
        rintro e w' ⟨rfl, rfl⟩
        go_wp2_with fail
        refine (HI.out _ (hG.st h1)).mono ?_
        rintro e w' hq
        have h2 := h1.makes hq
        obtain ⟨rfl, -⟩ := hq
        go_wp2
        go_ret2
        exact ⟨by rw [← HQ.out, HT.out]; rfl, h2.below⟩
      · have HT : Hid (num s = none) := Lib.hid (by
          rw [hn]
          simp only
          rw [if_neg]
          rintro ⟨-, -, h3⟩
          exact he (by rwa [Lib.itoa_nonneg] at h3))
        have he1 : (Lib.decDigits m == s) = false := by simpa using he
        clear hn h hm he
        generalize Lib.decDigits m = d at *
        go_wp2_with fail
        refine (HN.out _).mono ?_
        rintro e w' ⟨rfl, rfl⟩
        go_wp2_with fail
        refine (HI.out _ (hG.st h1)).mono ?_
        rintro e w' hq
        have h2 := h1.makes hq
        obtain ⟨rfl, -⟩ := hq
        go_wp2
        go_ret2
        exact ⟨by rw [← HQ.out, HT.out]; rfl, h2.below⟩
  · have h1 := HS.past hb
    have HT := Lib.hid h
    clear hn h
    go_wp2
    go_ret2
    exact ⟨by rw [← HQ.out, HT.out]; rfl, h1.below⟩

theorem digits_small {n : Nat} (h : n < 10) : Lib.decDigits n = [UInt8.ofNat (48 + n)] := Lib.decDigits_one h

set_option maxRecDepth 100000 in
theorem rDigits_any (n : Nat) : ∀ (x : Int) (W : World), x = n → n ≤ 4611686018427387904 → Calls Tryd.prog 30 #[.int .i64 x] W (Makes W (.string ⟨(Lib.decDigits n).toArray⟩)) := by
  induction n using Nat.strongRecOn with
  | _ n ih =>
    rintro x W rfl hn
    have HS := St.start W
    by_cases h : n < 10
    · rw [digits_small h]
      have hcv := run_string_one (P := Tryd.prog) 46 9 5 Tryd.underlying46 Tryd.underlying5 Tryd.underlying9 W W.heap.size rfl (48 + (n : Int)) (48 + n) (by omega) (by omega) (0, 0)
      generalize UInt8.ofNat (48 + n) = c at *
      have h1 := HS.alloc (.cells #[.int .u8 (48 + (n : Int))] 5 (0, 0))
      go_enter Tryd.func30, Tryd.ntmps30
      go_wp2_with fail
      go_ret
      exact ⟨rfl, h1.below⟩
    · have HA := Lib.hid fun (W : World) => ih (n / 10) (by omega) ((n : Int) / 10) W (by omega) (by omega)
      have HB := Lib.hid fun (W : World) => ih (n % 10) (by omega) ((n : Int) % 10) W (by omega) (by omega)
      rw [digits_small (n := n % 10) (by omega)] at HB
      have HD := Lib.hid (decDigits_big h)
      clear ih
      have hl := dec_len 19 (n / 10) (by omega) (by omega)
      generalize Lib.decDigits (n / 10) = d at *
      have hadd := run_str_add (P := Tryd.prog) d [UInt8.ofNat (48 + n % 10)] (by simp; omega)
      rw [HD.out]
      clear HD
      generalize UInt8.ofNat (48 + n % 10) = c at *
      go_enter Tryd.func30, Tryd.ntmps30
      go_wp2_with fail
      refine (HA.out _).mono ?_
      rintro e w1 hq
      have h1 := HS.makes hq
      obtain ⟨rfl, -⟩ := hq
      go_wp2_with fail
      refine (HB.out _).mono ?_
      rintro e w2 hq
      have h2 := h1.makes hq
      obtain ⟨rfl, -⟩ := hq
      go_wp2_with fail
      go_ret
      exact ⟨rfl, h2.below⟩

def intV : Option Nat → Value
  | some n => .int .i64 n
  | none => .int .i64 (-1)
theorem numFrom_none_digit {c : UInt8} {r : List UInt8} {q : Nat} (h : c.toNat < 48 ∨ 57 < c.toNat ∨ 461168601842738791 < q) : numFrom q (c :: r) = none := by
  simp only [numFrom]; rw [if_pos h]
theorem numFrom_none_big {c : UInt8} {r : List UInt8} {q : Nat} (h1 : ¬ (c.toNat < 48 ∨ 57 < c.toNat ∨ 461168601842738791 < q)) (h : 4611686018427387904 < 10 * q + (c.toNat - 48)) : numFrom q (c :: r) = none := by
  simp only [numFrom]; rw [if_neg h1, if_pos h]
theorem numFrom_step {c : UInt8} {r : List UInt8} {q : Nat} (h1 : ¬ (c.toNat < 48 ∨ 57 < c.toNat ∨ 461168601842738791 < q)) (h : ¬ 4611686018427387904 < 10 * q + (c.toNat - 48)) : numFrom q (c :: r) = numFrom (10 * q + (c.toNat - 48)) r := by
  rw [numFrom, if_neg h1, if_neg h]

set_option maxRecDepth 100000 in
set_option maxHeartbeats 4000000 in
theorem rNumber_any (s : List UInt8) (q : Value) (hq : intV (num s) = q) (w : World) (hs : s.length ≤ 1000000) : Calls Tryd.prog 34 #[.string ⟨s.toArray⟩] w (Same w q) := by
  have HQ := Lib.hid hq
  clear hq
  by_cases h0 : s.length = 0
  · have e := List.eq_nil_of_length_eq_zero h0
    subst e
    have HT : Hid (num [] = none) := Lib.hid rfl
    go_enter Tryd.func34, Tryd.ntmps34
    go_wp2
    go_ret
    exact ⟨by rw [← HQ.out, HT.out]; rfl, rfl⟩
  have h0I : ((s.length : Int) == 0) = false := by rw [beq_eq_false_iff_ne]; omega
  by_cases h19 : 19 < s.length
  · have HT : Hid (num s = none) := Lib.hid (by unfold num; rw [if_pos (.inr (.inl h19))])
    clear h0
    go_enter Tryd.func34, Tryd.ntmps34
    go_wp2
    go_ret
    exact ⟨by rw [← HQ.out, HT.out]; rfl, rfl⟩
  have hsz0 : 0 < (ByteArray.mk s.toArray).size := by show 0 < s.toArray.size; rw [List.size_toArray]; omega
  have HG0 := Lib.hid (get_byte s 0 hsz0)
  have HZ : Hid (num s = none ∧ 1 < s.length ∧ (ByteArray.mk s.toArray)[0]'hsz0 = 48 ∨ num s = numFrom 0 s ∧ (¬ 1 < s.length ∨ (ByteArray.mk s.toArray)[0]'hsz0 ≠ 48)) := Lib.hid (by
    by_cases hz : 1 < s.length ∧ (ByteArray.mk s.toArray)[0]'hsz0 = 48
    · left
      refine ⟨?_, hz⟩
      unfold num; rw [if_pos (.inr (.inr ⟨hz.1, by rw [HG0.out, hz.2]⟩))]
    · right
      refine ⟨?_, by by_cases h1 : 1 < s.length <;> simp_all⟩
      unfold num; rw [if_neg]
      rintro (h | h | ⟨h1, h2⟩)
      · exact h0 (by rw [h]; rfl)
      · omega
      · rw [HG0.out] at h2
        exact hz ⟨h1, by simpa using h2⟩)
  have hmain : ∀ K : Prop, K → K := fun _ h => h
  clear hmain
  go_enter Tryd.func34, Tryd.ntmps34
  clear h0
  rcases HZ.out with ⟨hnum, h1, h48⟩ | ⟨hnum, hcase⟩
  · have HT := Lib.hid hnum
    have h48I : (((ByteArray.mk s.toArray)[0]'hsz0).toNat : Int) = 48 := by rw [h48]; rfl
    clear hnum h48 HZ HG0
    go_wp2
    go_ret
    exact ⟨by rw [← HQ.out, HT.out]; rfl, rfl⟩
  · have HT := Lib.hid hnum
    clear hnum HZ
    have hgo : ∀ P : Prop, ((¬ 1 < s.length) → P) → ((1 < s.length) → (((ByteArray.mk s.toArray)[0]'hsz0).toNat : Int) ≠ 48 → P) → P := by
      intro P h1 h2
      by_cases hl : 1 < s.length
      · refine h2 hl ?_
        rcases hcase with h | h
        · exact absurd hl h
        · intro e; exact h (UInt8.toNat_inj.1 (by show _ = 48; omega))
      · exact h1 hl
    clear hcase
    refine hgo _ ?_ ?_
    all_goals
      intro h1
      try (intro h48; have h48I := beq_eq_false_iff_ne.2 h48; clear h48)
      clear hgo HG0
      go_wp2_with fail
      go_loop [3, 4] (fun nv iv => ∃ i q : Nat, i ≤ s.length ∧ iv = .int .i64 i ∧ nv = .int .i64 q ∧ q ≤ 4611686018427387904 ∧ numFrom q (s.drop i) = numFrom 0 s) (fun _ iv => s.length - (intOf iv).toNat)
      case atStart => exact ⟨0, 0, by omega, rfl, rfl, by omega, rfl⟩
      case round =>
        obtain ⟨i, p, hi, rfl, rfl, hp, hcc⟩ := hrel
        have HC := Lib.hid hcc
        clear hcc
        by_cases hi2 : i < s.length
        · have hsz : i < (ByteArray.mk s.toArray).size := by simpa [ByteArray.size] using hi2
          have HD := Lib.hid (drop_byte s i hsz)
          have hlt := ((ByteArray.mk s.toArray)[i]'hsz).toNat_lt
          generalize hc : (ByteArray.mk s.toArray)[i]'hsz = x at *
          by_cases hx : x.toNat < 48
          · have HN : Hid (num s = none) := Lib.hid (by rw [HT.out, ← HC.out, HD.out]; exact numFrom_none_digit (.inl hx))
            go_wp2_with fail
            go_ret
            exact ⟨by rw [← HQ.out, HN.out]; rfl, rfl⟩
          by_cases hx2 : 57 < x.toNat
          · have HN : Hid (num s = none) := Lib.hid (by rw [HT.out, ← HC.out, HD.out]; exact numFrom_none_digit (.inr (.inl hx2)))
            go_wp2_with fail
            go_ret
            exact ⟨by rw [← HQ.out, HN.out]; rfl, rfl⟩
          by_cases hx3 : 461168601842738791 < p
          · have HN : Hid (num s = none) := Lib.hid (by rw [HT.out, ← HC.out, HD.out]; exact numFrom_none_digit (.inr (.inr hx3)))
            go_wp2_with fail
            go_ret
            exact ⟨by rw [← HQ.out, HN.out]; rfl, rfl⟩
          obtain ⟨d, hd⟩ : ∃ d, x.toNat = 48 + d := ⟨x.toNat - 48, by omega⟩
          by_cases hx4 : 4611686018427387904 < 10 * p + (x.toNat - 48)
          · have HN : Hid (num s = none) := Lib.hid (by rw [HT.out, ← HC.out, HD.out]; exact numFrom_none_big (by omega) hx4)
            go_wp2_with fail
            go_ret
            exact ⟨by rw [← HQ.out, HN.out]; rfl, rfl⟩
          have HN : Hid (numFrom (10 * p + (x.toNat - 48)) (s.drop (i + 1)) = numFrom 0 s) := Lib.hid (by rw [← HC.out, HD.out, numFrom_step (by omega) hx4])
          go_wp2_with fail
          exact ⟨⟨i + 1, 10 * p + (x.toNat - 48), by omega, by go_num, int_eq (by omega), by omega, HN.out⟩, by simp [intOf]; omega⟩
        · obtain rfl : i = s.length := by omega
          have HN : Hid (num s = some p) := Lib.hid (by rw [HT.out, ← HC.out, List.drop_length]; rfl)
          go_wp2_with fail
          go_ret
          exact ⟨by rw [← HQ.out, HN.out]; rfl, rfl⟩

end Go.Proofs.YtjnkgblcfoblcaaDoor.WdN
