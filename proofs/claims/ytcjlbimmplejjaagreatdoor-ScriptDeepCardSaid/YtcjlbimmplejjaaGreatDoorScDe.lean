import Derived.Test.YtcjlbimmplejjaaGreatDoorScPr
namespace Go.Proofs.YtcjlbimmplejjaaGreatDoor.ScDe
open Go Go.RowKit Go.WideShapes Go.Proofs Go.Proofs.YtcjlbimmplejjaaGreatDoor.Sep Go.Proofs.YtcjlbimmplejjaaGreatDoor.Reg Go.Proofs.YtcjlbimmplejjaaGreatDoor.Frame Go.Proofs.YtcjlbimmplejjaaGreatDoor.Strs Go.Proofs.YtcjlbimmplejjaaGreatDoor.WdP Go.Proofs.YtcjlbimmplejjaaGreatDoor.WdT Go.Proofs.YtcjlbimmplejjaaGreatDoor.WdN Go.Proofs.YtcjlbimmplejjaaGreatDoor.ScP Go.Proofs.YtcjlbimmplejjaaGreatDoor.ScB Go.Proofs.YtcjlbimmplejjaaGreatDoor.ScA Go.Proofs.YtcjlbimmplejjaaGreatDoor.ScM Go.Proofs.YtcjlbimmplejjaaGreatDoor.ScR Go.Proofs.YtcjlbimmplejjaaGreatDoor.ScK Go.Proofs.YtcjlbimmplejjaaGreatDoor.ScNu Go.Proofs.YtcjlbimmplejjaaGreatDoor.ScPc Go.Proofs.YtcjlbimmplejjaaGreatDoor.ScPr

/-! A slice of words of 16 bits that came in. -/
namespace W16
def E (b : Nat) : List Value := [.int .u16 (b : Int)]
def Ok (b : Nat) : Prop := b < 65536
theorem len (b : Nat) : (E b).length = 1 := rfl
theorem dec {H : Type} {enc : TypeId × Value → H} {w : World} {base : Nat} {spare : Nat → Bool} {held : Bool} {n : Nat} {cs : List Value} {y : DataW H × List MemPlace} {P : Program} {t : TypeId} (ht : P.underlying t = some (.int .u16))
    (h : DataW.trod enc P w base spare held n t cs = some y) : ∃ x, cs = E x ∧ Ok x := by
  obtain ⟨z, rfl, hz⟩ := int_in ht h
  simp [Lit.wf, IntKind.min, IntKind.max, IntKind.signed, IntKind.bits] at hz
  refine ⟨z.toNat, ?_, by unfold Ok; omega⟩
  unfold E
  rw [Int.toNat_of_nonneg hz.1]
end W16
theorem w16_at {W : World} {a : Option Addr} {n c : Nat} {xs : List Nat} (h : Sl W 1 (.slice a n c) n (xs.flatMap W16.E)) {k x : Nat} (hk : xs[k]? = some x) :
    ∃ ab ao, a = some ⟨ab, ao, none⟩ ∧ ∀ w A, St W w A → w.cell? ⟨ab, ao + k, none⟩ = some (.int .u16 (x : Int)) := by
  have hg := flatMap_get (E := W16.E) W16.len xs k x hk 0 (by omega)
  rw [Nat.mul_one, Nat.add_zero] at hg
  have hlen : 0 < (xs.flatMap W16.E).length := by
    have := (List.getElem?_eq_some_iff.1 (show (xs.flatMap W16.E)[k]? = some (.int .u16 (x : Int)) from hg)).1
    omega
  obtain ⟨ab, ao, rfl, hc⟩ := sl_addr h hlen
  have hc := hc k _ hg
  exact ⟨ab, ao, rfl, fun w A hS => (hS.old (World.block_lt_of_cell? W _ hc)).trans hc⟩
set_option maxRecDepth 100000 in
set_option maxHeartbeats 4000000 in
theorem deep_any (a : Option Addr) (n c : Nat) (xs : List Nat) (hln : xs.length = n) {W : World} (hsl : Sl W 1 (.slice a n c) n (xs.flatMap W16.E)) (hok : ∀ x ∈ xs, W16.Ok x) (l : Tx) (_ : (⟨l.toArray⟩ : ByteArray).size ≤ maxLen) (z : Int) (hz : Lit.wf (.int .u8 z) = true) (hG : GlE W) :
    Calls Tryz.prog 6 #[.slice a n c, .string ⟨l.toArray⟩, .int .u8 z] W (Law W emp) := by
  have hz2 : 0 ≤ z ∧ z ≤ 255 := by simp [Lit.wf, IntKind.min, IntKind.max, IntKind.signed, IntKind.bits] at hz; exact hz
  obtain ⟨zn, rfl⟩ := Int.eq_ofNat_of_zero_le hz2.1
  have hzn : zn < 256 := by omega
  have HAw := Lib.hid (awake_any hG.1 hG.2 (St.start W))
  have HG := Lib.hid hG
  have HSL := Lib.hid hsl
  have HOK := Lib.hid hok
  have HLN := Lib.hid hln
  have hcap : n ≤ c ∧ c ≤ 9223372036854775807 := by obtain ⟨_, _, _, hv, h1, h2, _⟩ := hsl; cases hv; exact ⟨h1, by simpa [maxLen] using h2⟩
  clear hG hsl hok hln hz hz2
  by_cases hn : 12 < n
  · have hnI : (12 : Int) < n := by omega
    go_enter Tryz.func6, Tryz.ntmps6
    go_wp2_with fail
    refine HAw.out.mono ?_
    rintro e w1 ⟨rfl, hS⟩
    have HS := Lib.hid hS
    clear hS HAw
    go_wp2
    go_ret
    exact ⟨rfl, HS.out⟩
  have hnI : ¬ (12 : Int) < n := by omega
  by_cases hl3 : 300 < l.length
  · have hlI : (300 : Int) < l.length := by omega
    go_enter Tryz.func6, Tryz.ntmps6
    go_wp2_with fail
    refine HAw.out.mono ?_
    rintro e w1 ⟨rfl, hS⟩
    have HS := Lib.hid hS
    clear hS HAw
    go_wp2
    go_ret
    exact ⟨rfl, HS.out⟩
  have hlI : ¬ (300 : Int) < l.length := by omega
  go_enter Tryz.func6, Tryz.ntmps6
  go_wp2_with fail
  refine HAw.out.mono ?_
  rintro e w1 ⟨rfl, hS0⟩
  clear HAw
  go_wp2_with fail
  go_loopw [7, 8] (fun tv iv wr => ∃ (i : Nat) (T : Tx), i ≤ n ∧ iv = .int .i64 i ∧ tv = .string ⟨T.toArray⟩ ∧ T.length ≤ 30 * i ∧ St W wr emp) (fun _ iv _ => n - (intOf iv).toNat)
  case atStart => exact ⟨0, [], Nat.zero_le _, rfl, rfl, by simp, hS0⟩
  case round =>
    obtain ⟨i, T, hi, rfl, rfl, hT, hS⟩ := hrel
    clear hS0
    by_cases hin : i < n
    · have hinI : (i : Int) < n := by omega
      obtain ⟨x, hx⟩ : ∃ x, xs[i]? = some x := ⟨_, List.getElem?_eq_getElem (by rw [HLN.out]; exact hin)⟩
      have hxb : x < 65536 := HOK.out x (List.mem_of_getElem? hx)
      obtain ⟨ab, ao, rfl, hc⟩ := w16_at HSL.out hx
      have c0 := hc _ _ hS
      obtain ⟨r, hr⟩ : ∃ r, x % 1101 = r := ⟨_, rfl⟩
      have hrI : (x : Int).tmod 1101 = (r : Int) := by rw [Int.tmod_eq_emod_of_nonneg (by omega)]; omega
      have hr2 : r ≤ 1100 := by omega
      have HNu := Lib.hid (number_any r (by omega) _ _ _ hS)
      have hdl := dec_len10 r (by omega)
      obtain ⟨D, hD⟩ : ∃ z, Lib.decDigits r = z := ⟨_, rfl⟩
      rw [hD] at HNu hdl
      have ha1 := run_str_add (P := Tryz.prog) T [116, 105, 109, 101, 115, 32] (by simp; omega)
      obtain ⟨T1, hT1⟩ : ∃ z, T ++ [116, 105, 109, 101, 115, 32] = z := ⟨_, rfl⟩
      rw [hT1] at ha1
      have hl1 : T1.length = T.length + 6 := by rw [← hT1]; simp
      have HL1 : T1.length ≤ 30 * i + 6 := by omega
      have ha2 := run_str_add (P := Tryz.prog) T1 D (by omega)
      obtain ⟨T2, hT2⟩ : ∃ z, T1 ++ D = z := ⟨_, rfl⟩
      rw [hT2] at ha2
      have HL2 : T2.length ≤ 30 * i + 28 := by rw [← hT2, List.length_append]; omega
      have ha3 := run_str_add (P := Tryz.prog) T2 [10] (by simp; omega)
      obtain ⟨T3, hT3⟩ : ∃ z, T2 ++ [10] = z := ⟨_, rfl⟩
      rw [hT3] at ha3
      have HL3 : T3.length ≤ 30 * (i + 1) := by rw [← hT3, List.length_append, List.length_singleton]; omega
      clear hx hc hr hD hT1 hl1 hT2 hT3 hS
      go_wp2_with fail
      refine HNu.out.mono ?_
      rintro e w5 ⟨rfl, hS⟩
      clear HNu c0
      go_wp2_with fail
      exact ⟨⟨i + 1, T3, hin, by go_num, rfl, HL3, hS⟩, by simp [intOf]; omega⟩
    · obtain rfl : n = i := by omega
      obtain ⟨r, hr⟩ : ∃ r, zn % 14 = r := ⟨_, rfl⟩
      have hrI : (zn : Int).tmod 14 = (r : Int) := by rw [Int.tmod_eq_emod_of_nonneg (by omega)]; omega
      have hr2 : r ≤ 13 := by omega
      have ha1 := run_str_add (P := Tryz.prog) T l (by omega)
      obtain ⟨T1, hT1⟩ : ∃ z, T ++ l = z := ⟨_, rfl⟩
      rw [hT1] at ha1
      have HL1 : T1.length ≤ 700 := by rw [← hT1, List.length_append]; omega
      have HRe := Lib.hid (Tryz.strings_Repeat ⟨#[10, 101, 110, 100]⟩ r wr (by omega) (by simp [ByteArray.size]; omega))
      have hrl : (Lib.repeatL (ByteArray.mk #[10, 101, 110, 100]).data.toList r).length ≤ 52 := by rw [Lib.repeatL_length]; simp; omega
      obtain ⟨U, hU⟩ : ∃ z, Lib.repeatL (ByteArray.mk #[10, 101, 110, 100]).data.toList r = z := ⟨_, rfl⟩
      rw [hU] at HRe hrl
      have ha2 := run_str_add (P := Tryz.prog) T1 U (by omega)
      have HS := Lib.hid hS
      clear hS hr hT1 hU
      go_wp2_with fail
      refine HRe.out.mono ?_
      rintro e w5 ⟨rfl, hb⟩
      have HLw := Lib.hid (law_parses HG.out.1 HG.out.2 (T1 ++ U) (HS.out.past hb))
      clear hb HRe HS
      go_wp2_with fail
      refine HLw.out.mono ?_
      rintro e w6 ⟨rfl, hS⟩
      have HS := Lib.hid hS
      clear hS HLw
      go_wp2
      go_ret
      exact ⟨rfl, HS.out⟩
end Go.Proofs.YtcjlbimmplejjaaGreatDoor.ScDe
