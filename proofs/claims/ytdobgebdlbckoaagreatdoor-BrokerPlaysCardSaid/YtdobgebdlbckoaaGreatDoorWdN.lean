import Derived.Test.YtdobgebdlbckoaaGreatDoorWdT
import Derived.WalkSmall
import Derived.Lib.AppendIntMem
import Derived.Lib.AtoiErrMem
namespace Go.Proofs.YtdobgebdlbckoaaGreatDoor.WdN
open Go Go.RowKit Go.Proofs Go.Proofs.YtdobgebdlbckoaaGreatDoor.Sep Go.Proofs.YtdobgebdlbckoaaGreatDoor.Reg Go.Proofs.YtdobgebdlbckoaaGreatDoor.Frame Go.Proofs.YtdobgebdlbckoaaGreatDoor.WdP Go.Proofs.YtdobgebdlbckoaaGreatDoor.WdT

/-- What the library's variables hold. -/
def Gl (w : World) : Prop :=
  (∃ m, w.cell? ⟨0, 0, none⟩ = some (.int .i64 m)) ∧
  Lib.TabIs Tryz.prog w "internal/strconv.uint64pow10" .u64 Lib.pow10Tab
/-- What its two errors hold. -/
def Er (w : World) : Prop :=
  (∃ ev, w.cell? ⟨1, 0, none⟩ = some ev ∧ (ev = .nilIface ∨ ∃ te pe, ev = .iface te pe)) ∧
  (∃ ev, w.cell? ⟨2, 0, none⟩ = some ev ∧ (ev = .nilIface ∨ ∃ te pe, ev = .iface te pe))
theorem cell_past {w w' : World} {a : Addr} {v : Value} (h : w.cell? a = some v) (hb : Below w.heap.size w w') : w'.cell? a = some v :=
  (hb.cell (World.block_lt_of_cell? w _ h)).trans h
theorem tab_past {w w' : World} (h : Lib.TabIs Tryz.prog w "internal/strconv.uint64pow10" .u64 Lib.pow10Tab) (hb : Below w.heap.size w w') : Lib.TabIs Tryz.prog w' "internal/strconv.uint64pow10" .u64 Lib.pow10Tab := by
  have hg : Tryz.prog.globalNamed "internal/strconv.uint64pow10" = some 3 := by kernel_rfl
  refine var?_below hb hg ?_ h
  unfold Lib.TabIs World.var? at h
  rw [hg] at h
  rcases Nat.lt_or_ge 3 w.heap.size with h' | h'
  · exact h'
  · simp [Array.getElem?_eq_none h'] at h
theorem Gl.below {w w' : World} (h : Gl w) (hb : Below w.heap.size w w') : Gl w' := by
  obtain ⟨⟨m, h1⟩, h2⟩ := h
  exact ⟨⟨m, cell_past h1 hb⟩, tab_past h2 hb⟩
theorem Er.below {w w' : World} (h : Er w) (hb : Below w.heap.size w w') : Er w' := by
  obtain ⟨⟨e1, h3, h4⟩, ⟨e2, h5, h6⟩⟩ := h
  exact ⟨⟨e1, cell_past h3 hb, h4⟩, ⟨e2, cell_past h5 hb, h6⟩⟩
theorem Er.st {W w : World} {A : Asn} (h : Er W) (hS : St W w A) : Er w := h.below hS.below
theorem Gl.st {W w : World} {A : Asn} (h : Gl W) (hS : St W w A) : Gl w := h.below hS.below

theorem cut_any {s a r : List UInt8} {k : Bool} (h : cutB s = (a, r, k)) (w : World) (hG : Gl w) (hs : s.length ≤ 1000000) :
    Calls Tryz.prog 46 #[.string ⟨s.toArray⟩, .string ⟨#[32]⟩] w (Quiet w (.tuple #[.string ⟨a.toArray⟩, .string ⟨r.toArray⟩, .bool k])) := by
  obtain ⟨m, hm⟩ := hG.1
  refine (Tryz.strings_Cut ⟨s.toArray⟩ ⟨#[32]⟩ m w (by simp [ByteArray.size]; omega) hm).mono ?_
  rintro e w' ⟨rfl, n, rfl⟩
  have hc : Lib.cut ((⟨s.toArray⟩ : ByteArray).data.toList) ((⟨#[32]⟩ : ByteArray).data.toList) = (a, r, k) := by rw [← h, ← cut_lib]
  rw [hc]
  exact ⟨rfl, n, rfl⟩

set_option maxRecDepth 100000 in
theorem rcut_any {s a r : List UInt8} {k : Bool} (h : cutB s = (a, r, k)) (w : World) (hs : s.length ≤ 1000000) :
    Calls Tryz.prog 63 #[.string ⟨s.toArray⟩] w (Quiet w (.tuple #[.string ⟨a.toArray⟩, .string ⟨r.toArray⟩, .bool k])) := by
  have HH := Lib.hid h
  clear h
  go_enter Tryz.func63, Tryz.ntmps63
  go_wp2_with fail
  go_loop [5] (fun iv => ∃ i : Nat, i ≤ s.length ∧ iv = .int .i64 i ∧ ∀ c ∈ s.take i, c ≠ 32) (fun iv => s.length - (intOf iv).toNat)
  case atStart => exact ⟨0, by omega, rfl, by simp⟩
  case round =>
    obtain ⟨i, hi, rfl, hcc⟩ := hrel
    have HC := Lib.hid hcc
    clear hcc
    by_cases hi2 : i < s.length
    · have hsz : i < (ByteArray.mk s.toArray).size := by simpa [ByteArray.size] using hi2
      have HD := Lib.hid (drop_byte s i hsz)
      have HGt := Lib.hid (get_byte s i hsz)
      generalize hc : (ByteArray.mk s.toArray)[i]'hsz = x at *
      by_cases hx : x = 32
      · subst hx
        have HT : Hid (a = s.take i ∧ r = s.drop (i + 1) ∧ k = true) := Lib.hid (by
          have e : s = s.take i ++ 32 :: s.drop (i + 1) := by rw [← HD.out]; exact (List.take_append_drop i s).symm
          have h1 := cutB_at (s.take i) (s.drop (i + 1)) HC.out
          rw [← e, HH.out] at h1
          simpa using h1)
        have hs1 := run_str_h (P := Tryz.prog) 9 Tryz.underlying9 s i i rfl (by omega)
        have hs2 := run_str_l (P := Tryz.prog) 9 Tryz.underlying9 s ((i : Int) + 1) (i + 1) (by omega) (by omega)
        go_wp2_with fail
        refine wp_region_canon [0, 1, 2, 3, 4, 7, 5, 6, 8, 9] (by kernel_rfl) (by kernel_rfl) ?_
        simp only [pickOps, nthOp]
        go_wp2_with fail
        simp only [Only]
        go_wp2_with fail
        go_ret3
        exact ⟨by rw [HT.out.1, HT.out.2.1, HT.out.2.2]; rfl, 1, rfl⟩
      · have hxI : ((x.toNat : Int) == 32) = false := byte_ne hx
        have HN : Hid (∀ c ∈ s.take (i + 1), c ≠ 32) := Lib.hid (by
          intro c hc
          rw [List.take_add_one, HGt.out] at hc
          simp at hc
          rcases hc with hc | rfl
          · exact HC.out c hc
          · exact hx)
        clear hx
        go_wp2_with fail
        exact ⟨⟨i + 1, by omega, by go_num, HN.out⟩, by simp [intOf]; omega⟩
    · obtain rfl : i = s.length := by omega
      have HT : Hid (a = s ∧ r = [] ∧ k = false) := Lib.hid (by
        have h1 := cutB_none s (by have := HC.out; rwa [List.take_length] at this)
        rw [HH.out] at h1
        simpa using h1)
      go_wp2_with fail
      go_ret3
      exact ⟨by rw [HT.out.1, HT.out.2.1, HT.out.2.2]; rfl, 0, rfl⟩

set_option maxRecDepth 100000 in
theorem number_any (n : Int) (b : Bool) (hb : may n = b) (w : World) : Calls Tryz.prog 73 #[.int .i64 n] w (Same w (.bool b)) := by
  subst hb
  by_cases h1 : 0 ≤ n
  · by_cases h2 : n ≤ 4611686018427387904
    · have HT : Hid (may n = true) := Lib.hid (by simp [may, h1, h2])
      go_enter Tryz.func73, Tryz.ntmps73
      go_wp2
      go_ret
      exact ⟨ret_bool HT.out.symm, rfl⟩
    · have HT : Hid (may n = false) := Lib.hid (by simp [may, h2])
      go_enter Tryz.func73, Tryz.ntmps73
      go_wp2
      go_ret
      exact ⟨ret_bool HT.out.symm, rfl⟩
  · have HT : Hid (may n = false) := Lib.hid (by simp [may, h1])
    go_enter Tryz.func73, Tryz.ntmps73
    go_wp2
    go_ret
    exact ⟨ret_bool HT.out.symm, rfl⟩

set_option maxRecDepth 100000 in
theorem rMay_any (n : Int) (b : Bool) (hb : may n = b) (w : World) : Calls Tryz.prog 65 #[.int .i64 n] w (Same w (.bool b)) := by
  subst hb
  by_cases h1 : 0 ≤ n
  · by_cases h2 : n ≤ 4611686018427387904
    · have HT : Hid (may n = true) := Lib.hid (by simp [may, h1, h2])
      go_enter Tryz.func65, Tryz.ntmps65
      go_wp2
      go_ret
      exact ⟨ret_bool HT.out.symm, rfl⟩
    · have HT : Hid (may n = false) := Lib.hid (by simp [may, h2])
      go_enter Tryz.func65, Tryz.ntmps65
      go_wp2
      go_ret
      exact ⟨ret_bool HT.out.symm, rfl⟩
  · have HT : Hid (may n = false) := Lib.hid (by simp [may, h1])
    go_enter Tryz.func65, Tryz.ntmps65
    go_wp2
    go_ret
    exact ⟨ret_bool HT.out.symm, rfl⟩

theorem Itoa_any (n : Int) (m : Nat) (hm : n = m) (h : m < 9223372036854775808) (w : World) (hG : Gl w) : Calls Tryz.prog 74 #[.int .i64 n] w (Makes w (.string ⟨(Lib.decDigits m).toArray⟩)) := by
  subst hm
  refine (Tryz.strconv_Itoa m (by omega) (by omega) w hG.2).mono ?_
  rintro e w' ⟨rfl, k, os, rfl⟩
  rw [Lib.itoa_nonneg]
  exact ⟨rfl, Lib.below_grow _ w (Nat.le_refl _) k os⟩

/-- What Atoi tells, and read's answer of it. -/
def AtoiPost (w : World) (s : List UInt8) (e : Ending) (w' : World) : Prop :=
  Below w.heap.size w w' ∧ ((∃ v : Int, Lib.atoiAll s = .ok v ∧ e = .returned (.tuple #[.int .i64 v, .nilIface])) ∨ (num s = none ∧ ∃ v t p, e = .returned (.tuple #[.int .i64 v, .iface t p])))
theorem Atoi_any (s : List UInt8) (w : World) (hG : Er w) (hs : s.length ≤ 1000000) : Calls Tryz.prog 72 #[.string ⟨s.toArray⟩] w (AtoiPost w s) := by
  have hz : (⟨s.toArray⟩ : ByteArray).size = s.length := by simp [ByteArray.size]
  have hd : (⟨s.toArray⟩ : ByteArray).data.toList = s := by simp
  obtain ⟨⟨e1, h3, h4⟩, ⟨e2, h5, h6⟩⟩ := hG
  have hn := num_atoi s
  rcases h : Lib.atoiAll s with v | _ | _
  · refine (Tryz.strconv_Atoi_ok ⟨s.toArray⟩ (by omega) v (by rw [hd]; exact h) w).mono ?_
    rintro e w' ⟨rfl, hw⟩
    refine ⟨?_, .inl ⟨v, h, rfl⟩⟩
    rcases hw with rfl | ⟨t, rfl⟩
    · exact Below.refl _ _
    · exact Lib.bytesWorld_below w _ t
  · rw [h] at hn
    refine (Any.strconv_Atoi_syntax Tryz.laysC172 ⟨s.toArray⟩ (by omega) (by rw [hd]; exact h) e1 w h3 h4).mono ?_
    rintro e w' ⟨N, rfl, -, -, hb⟩
    exact ⟨hb, .inr ⟨hn, _, _, _, rfl⟩⟩
  · rw [h] at hn
    refine (Tryz.strconv_Atoi_range ⟨s.toArray⟩ (by omega) (by rw [hd]; exact h) e2 w h5 h6).mono ?_
    rintro e w' ⟨N, rfl, -, -, hb⟩
    exact ⟨hb, .inr ⟨hn, _, _, _, rfl⟩⟩

def numV : Option Nat → Value
  | some n => .tuple #[.int .i64 n, .bool true]
  | none => .tuple #[.int .i64 0, .bool false]
theorem may_nat (v : Int) : may v = true ↔ ∃ m : Nat, v = m ∧ m ≤ 4611686018427387904 := by
  unfold may
  simp only [Bool.and_eq_true, decide_eq_true_eq]
  constructor
  · rintro ⟨h1, h2⟩; exact ⟨v.toNat, by omega, by omega⟩
  · rintro ⟨m, rfl, h⟩; omega

set_option maxRecDepth 100000 in
theorem read_any (s : List UInt8) (q : Value) (hq : numV (num s) = q) (w : World) (hG : Gl w) (hE : Er w) (hs : s.length ≤ 1000000) : Calls Tryz.prog 50 #[.string ⟨s.toArray⟩] w (Makes w q) := by
  have HQ := Lib.hid hq
  clear hq
  have HS := St.start w
  have hn := num_atoi s
  go_enter Tryz.func50, Tryz.ntmps50
  go_wp2_with fail
  refine (Atoi_any s w hE hs).mono ?_
  rintro e w1 ⟨hb, ⟨v, h, rfl⟩ | ⟨h, v, t, p, rfl⟩⟩
  · have h1 := HS.past hb
    rw [h] at hn
    cases hm : may v
    · have HT : Hid (num s = none) := Lib.hid (by
        rw [hn]
        simp only
        rw [if_neg]
        rintro ⟨h1, h2, -⟩
        simp [may, h1, h2] at hm)
      have HN := Lib.hid fun w => number_any v false hm w
      clear hn h hm
      go_wp2_with fail
      refine (HN.out _).mono ?_
      rintro e w' ⟨rfl, rfl⟩
      go_wp2
      go_ret2
      exact ⟨by rw [← HQ.out, HT.out]; rfl, h1.below⟩
    · obtain ⟨m, rfl, hm2⟩ := (may_nat v).1 hm
      have HN := Lib.hid fun w => number_any (m : Int) true hm w
      have HI := Lib.hid fun w h => Itoa_any (m : Int) m rfl (by omega) w h
      by_cases he : Lib.decDigits m = s
      · have HT : Hid (num s = some m) := Lib.hid (by
          rw [hn]
          simp only
          rw [if_pos ⟨by omega, by omega, by rw [Lib.itoa_nonneg]; exact he⟩]
          simp)
        rw [he] at HI
        clear hn h hm he
        go_wp2_with fail
        refine (HN.out _).mono ?_
        rintro e w' ⟨rfl, rfl⟩
        go_wp2_with fail
        refine (HI.out _ (hG.st h1)).mono ?_
        rintro e w' hq
        have h2 := h1.makes hq
        obtain ⟨rfl, -⟩ := hq
        go_wp2
        go_ret2
        exact ⟨by rw [← HQ.out, HT.out]; rfl, h2.below⟩
      · have HT : Hid (num s = none) := Lib.hid (by
          rw [hn]
          simp only
          rw [if_neg]
          rintro ⟨-, -, h3⟩
          exact he (by rwa [Lib.itoa_nonneg] at h3))
        have he1 : (Lib.decDigits m == s) = false := by simpa using he
        clear hn h hm he
        generalize Lib.decDigits m = d at *
        go_wp2_with fail
        refine (HN.out _).mono ?_
        rintro e w' ⟨rfl, rfl⟩
        go_wp2_with fail
        refine (HI.out _ (hG.st h1)).mono ?_
        rintro e w' hq
        have h2 := h1.makes hq
        obtain ⟨rfl, -⟩ := hq
        go_wp2
        go_ret2
        exact ⟨by rw [← HQ.out, HT.out]; rfl, h2.below⟩
  · have h1 := HS.past hb
    have HT := Lib.hid h
    clear hn h
    go_wp2
    go_ret2
    exact ⟨by rw [← HQ.out, HT.out]; rfl, h1.below⟩

theorem digits_small {n : Nat} (h : n < 10) : Lib.decDigits n = [UInt8.ofNat (48 + n)] := Lib.decDigits_one h

set_option maxRecDepth 100000 in
theorem rDigits_any (n : Nat) : ∀ (x : Int) (W : World), x = n → n ≤ 4611686018427387904 → Calls Tryz.prog 66 #[.int .i64 x] W (Makes W (.string ⟨(Lib.decDigits n).toArray⟩)) := by
  induction n using Nat.strongRecOn with
  | _ n ih =>
    rintro x W rfl hn
    have HS := St.start W
    by_cases h : n < 10
    · rw [digits_small h]
      have hcv := run_string_one (P := Tryz.prog) 124 9 5 Tryz.underlying124 Tryz.underlying5 Tryz.underlying9 W W.heap.size rfl (48 + (n : Int)) (48 + n) (by omega) (by omega) (0, 0)
      generalize UInt8.ofNat (48 + n) = c at *
      have h1 := HS.alloc (.cells #[.int .u8 (48 + (n : Int))] 5 (0, 0))
      go_enter Tryz.func66, Tryz.ntmps66
      go_wp2_with fail
      go_ret
      exact ⟨rfl, h1.below⟩
    · have HA := Lib.hid fun (W : World) => ih (n / 10) (by omega) ((n : Int) / 10) W (by omega) (by omega)
      have HB := Lib.hid fun (W : World) => ih (n % 10) (by omega) ((n : Int) % 10) W (by omega) (by omega)
      rw [digits_small (n := n % 10) (by omega)] at HB
      have HD := Lib.hid (decDigits_big h)
      clear ih
      have hl := dec_len 19 (n / 10) (by omega) (by omega)
      generalize Lib.decDigits (n / 10) = d at *
      have hadd := run_str_add (P := Tryz.prog) d [UInt8.ofNat (48 + n % 10)] (by simp; omega)
      rw [HD.out]
      clear HD
      generalize UInt8.ofNat (48 + n % 10) = c at *
      go_enter Tryz.func66, Tryz.ntmps66
      go_wp2_with fail
      refine (HA.out _).mono ?_
      rintro e w1 hq
      have h1 := HS.makes hq
      obtain ⟨rfl, -⟩ := hq
      go_wp2_with fail
      refine (HB.out _).mono ?_
      rintro e w2 hq
      have h2 := h1.makes hq
      obtain ⟨rfl, -⟩ := hq
      go_wp2_with fail
      go_ret
      exact ⟨rfl, h2.below⟩

def intV : Option Nat → Value
  | some n => .int .i64 n
  | none => .int .i64 (-1)
theorem numFrom_none_digit {c : UInt8} {r : List UInt8} {q : Nat} (h : c.toNat < 48 ∨ 57 < c.toNat ∨ 461168601842738791 < q) : numFrom q (c :: r) = none := by
  simp only [numFrom]; rw [if_pos h]
theorem numFrom_none_big {c : UInt8} {r : List UInt8} {q : Nat} (h1 : ¬ (c.toNat < 48 ∨ 57 < c.toNat ∨ 461168601842738791 < q)) (h : 4611686018427387904 < 10 * q + (c.toNat - 48)) : numFrom q (c :: r) = none := by
  simp only [numFrom]; rw [if_neg h1, if_pos h]
theorem numFrom_step {c : UInt8} {r : List UInt8} {q : Nat} (h1 : ¬ (c.toNat < 48 ∨ 57 < c.toNat ∨ 461168601842738791 < q)) (h : ¬ 4611686018427387904 < 10 * q + (c.toNat - 48)) : numFrom q (c :: r) = numFrom (10 * q + (c.toNat - 48)) r := by
  rw [numFrom, if_neg h1, if_neg h]

end Go.Proofs.YtdobgebdlbckoaaGreatDoor.WdN
