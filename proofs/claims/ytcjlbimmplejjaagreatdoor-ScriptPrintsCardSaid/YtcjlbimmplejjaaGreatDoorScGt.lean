import Derived.Test.YtcjlbimmplejjaaGreatDoorScK
namespace Go.Proofs.YtcjlbimmplejjaaGreatDoor.ScGt
open Go Go.RowKit Go.Proofs Go.Proofs.YtcjlbimmplejjaaGreatDoor.Sep Go.Proofs.YtcjlbimmplejjaaGreatDoor.Reg Go.Proofs.YtcjlbimmplejjaaGreatDoor.Frame Go.Proofs.YtcjlbimmplejjaaGreatDoor.WdP Go.Proofs.YtcjlbimmplejjaaGreatDoor.WdT Go.Proofs.YtcjlbimmplejjaaGreatDoor.WdN Go.Proofs.YtcjlbimmplejjaaGreatDoor.ScP Go.Proofs.YtcjlbimmplejjaaGreatDoor.ScB Go.Proofs.YtcjlbimmplejjaaGreatDoor.ScA Go.Proofs.YtcjlbimmplejjaaGreatDoor.ScM Go.Proofs.YtcjlbimmplejjaaGreatDoor.ScJ Go.Proofs.YtcjlbimmplejjaaGreatDoor.ScR Go.Proofs.YtcjlbimmplejjaaGreatDoor.ScK

def gsum : List Ac → Nat
  | [] => 0
  | x :: l => min x.s.length 12001 + gsum l
theorem gsum_append (l m : List Ac) : gsum (l ++ m) = gsum l + gsum m := by
  induction l with
  | nil => simp [gsum]
  | cons x l ih => simp only [List.cons_append, gsum, ih]; omega
theorem gsum_le (l : List Ac) : gsum l ≤ 12001 * l.length := by
  induction l with
  | nil => simp [gsum]
  | cons x l ih => simp only [gsum, List.length_cons]; omega
theorem gsum_mem {l : List Ac} (h : gsum l ≤ 12000) : ∀ x ∈ l, x.s.length ≤ 12000 := by
  induction l with
  | nil => intro x hx; cases hx
  | cons y l ih =>
    intro x hx
    simp only [gsum] at h
    rcases List.mem_cons.1 hx with rfl | hx
    · omega
    · exact ih (by omega) x hx
/-- What is gone through. -/
def GQ (W : World) (L : List Ac) (i : Nat) (v : Int) (w : World) : Prop := v = (gsum (L.take i) : Nat) ∧ St W w emp
def GPst (W : World) (L : List Ac) (e : Ending) (w' : World) : Prop := ∃ b : Bool, e = .returned (.bool b) ∧ (b = false → L.length ≤ 4200 ∧ ∀ x ∈ L, x.s.length ≤ 12000) ∧ St W w' emp
set_option maxRecDepth 100000 in
set_option maxHeartbeats 4000000 in
theorem Great_any {W : World} (a : Option Addr) (n c : Nat) (L : List Ac) (hln : L.length = n) (hsl : Sl W 4 (.slice a n c) n (actsV L)) :
    Calls Tryz.prog 12 #[.slice a n c] W (GPst W L) := by
  have hcap : n ≤ c ∧ c ≤ 9223372036854775807 := by obtain ⟨_, _, _, hv, h1, h2, _⟩ := hsl; cases hv; exact ⟨h1, by simpa [maxLen] using h2⟩
  have HN := Lib.hid hln
  have HSL := Lib.hid hsl
  have h0 : St W W emp := St.start W
  clear hln hsl
  go_enter Tryz.func12, Tryz.ntmps12
  go_wp2_with fail
  go_loopw [3, 4] (fun nv iv wr => ∃ (i : Nat) (v : Int), i ≤ n ∧ i ≤ 4201 ∧ iv = .int .i64 i ∧ nv = .int .i64 v ∧ 0 ≤ v ∧ v ≤ 12001 * 4201 ∧ GQ W L i v wr) (fun _ iv _ => n - (intOf iv).toNat)
  case atStart => exact ⟨0, 0, Nat.zero_le _, by omega, rfl, rfl, by omega, by omega, rfl, h0⟩
  case round =>
    obtain ⟨i, v, hi, hi4, rfl, rfl, hv0, hv1, hv, hS⟩ := hrel
    have HV := Lib.hid hv
    clear h0 hv
    by_cases hin : i < n
    · have hinI : (i : Int) < n := by omega
      by_cases h42 : i ≤ 4200
      · have h42I : (i : Int) ≤ 4200 := by omega
        obtain ⟨x, hx⟩ : ∃ x, L[i]? = some x := ⟨_, List.getElem?_eq_getElem (by rw [HN.out]; exact hin)⟩
        obtain ⟨ab, ao, rfl, ⟨-, -, -, a3⟩, -⟩ := act_at (sl_past HSL.out hS) hx
        obtain ⟨m, hm⟩ : ∃ m : Nat, min x.s.length 12001 = m := ⟨_, rfl⟩
        have hmI : min (x.s.length : Int) 12001 = (m : Int) := by omega
        have HNX : Hid (GQ W L (i + 1) (v + m) wr) := Lib.hid ⟨by
          rw [List.take_add_one, hx, gsum_append, HV.out]
          simp only [Option.toList_some, gsum]
          omega, hS⟩
        have hb : v + m ≤ 12001 * 4201 := by
          have h5 := HNX.out.1
          have h6 := gsum_le (L.take (i + 1))
          rw [List.length_take] at h6
          have h7 : min (i + 1) L.length ≤ 4201 := by omega
          have h8 : 12001 * min (i + 1) L.length ≤ 12001 * 4201 := Nat.mul_le_mul_left _ h7
          omega
        clear hx hS hm
        go_wp2_with fail
        exact ⟨⟨i + 1, v + m, hin, by omega, by go_num, by go_num, by omega, hb, HNX.out⟩, by simp [intOf]; omega⟩
      · have h42I : ¬ (i : Int) ≤ 4200 := by omega
        have hbig : (4200 : Int) < n := by omega
        have HS := Lib.hid hS
        clear hS
        go_wp2
        go_ret
        exact ⟨true, rfl, (fun h => by cases h), HS.out⟩
    · obtain rfl : n = i := by omega
      have HS := Lib.hid hS
      clear hS
      by_cases hn42 : 4200 < n
      · have hbig : (4200 : Int) < n := by omega
        go_wp2
        go_ret
        exact ⟨true, rfl, (fun h => by cases h), HS.out⟩
      · have hbig : ¬ (4200 : Int) < n := by omega
        by_cases hv12 : 12000 < v
        · go_wp2
          go_ret
          exact ⟨true, rfl, (fun h => by cases h), HS.out⟩
        · have HF : Hid (L.length ≤ 4200 ∧ ∀ x ∈ L, x.s.length ≤ 12000) := Lib.hid ⟨by rw [HN.out]; omega, gsum_mem (by
            have h5 := HV.out
            rw [List.take_of_length_le (by rw [HN.out]; exact Nat.le_refl _)] at h5
            omega)⟩
          go_wp2
          go_ret
          exact ⟨false, rfl, fun _ => HF.out, HS.out⟩
end Go.Proofs.YtcjlbimmplejjaaGreatDoor.ScGt
