import Derived.Test.YtjobidgihjfheaaDoorTrW
import Derived.Test.YtjobidgihjfheaaDoorTrR
import Derived.Deep.QuietTactic
import Derived.BigQuiet
namespace Go.Proofs.YtjobidgihjfheaaDoor.TrK
open Go Go.RowKit Go.Proofs Go.Proofs.YtjobidgihjfheaaDoor.Sep Go.Proofs.YtjobidgihjfheaaDoor.Reg Go.Proofs.YtjobidgihjfheaaDoor.Frame Go.Proofs.YtjobidgihjfheaaDoor.Strs Go.Proofs.YtjobidgihjfheaaDoor.PathP Go.Proofs.YtjobidgihjfheaaDoor.Mp Go.Proofs.YtjobidgihjfheaaDoor.TrP Go.Proofs.YtjobidgihjfheaaDoor.TrM Go.Proofs.YtjobidgihjfheaaDoor.TrC Go.Proofs.YtjobidgihjfheaaDoor.TrQ Go.Proofs.YtjobidgihjfheaaDoor.TrD Go.Proofs.YtjobidgihjfheaaDoor.TrS Go.Proofs.YtjobidgihjfheaaDoor.TrT Go.Proofs.YtjobidgihjfheaaDoor.TrW Go.Proofs.YtjobidgihjfheaaDoor.TrR Go.Proofs.YtjobidgihjfheaaDoor.TrE

def PS : List Tx := [[47], [47, 97, 47, 58, 120], [47, 97, 47, 98], [47, 97, 47, 58, 120, 47, 99], [47, 42, 97, 108, 108]]
def entK (p : Tx) (z : Int) : List Key × Tx × Value := (keysOf ((splitP p).getD []), p, .int .i64 z)
def esK : EntsV := [entK [47] 1, entK [47, 97, 47, 58, 120] 2, entK [47, 97, 47, 98] 3, entK [47, 97, 47, 58, 120, 47, 99] 4, entK [47, 42, 97, 108, 108] 5]
theorem k_add : ∀ i, i < 5 → ∃ p, PS[i]? = some p ∧ p.length ≤ 200 ∧ addT (esK.take i) 6 p (.int .i64 ((i : Int) + 1)) = (0, esK.take (i + 1))
  | 0, _ => ⟨_, rfl, by decide, by kernel_rfl⟩
  | 1, _ => ⟨_, rfl, by decide, by kernel_rfl⟩
  | 2, _ => ⟨_, rfl, by decide, by kernel_rfl⟩
  | 3, _ => ⟨_, rfl, by decide, by kernel_rfl⟩
  | 4, _ => ⟨_, rfl, by decide, by kernel_rfl⟩
/-- The rows: a path, the number, a name and a value. -/
def pathsK : List (List Tx) := [[], [[97], [98]], [[97], [122]], [[97], [98], [99]], [[97], [98], [100]], [[97], []], [[]]]
def slK (b i : Nat) : Value := if i = 0 then .slice none 0 0 else .slice (some ⟨b + (i - 1), 0, none⟩) (pathsK.getD i []).length (pathsK.getD i []).length
def zK : List Nat := [0, 2, 1, 3, 4, 4, 4]
def nmK : List (Tx × Tx) := [([], []), ([], []), ([120], [122]), ([120], [98]), ([97, 108, 108], [97, 47, 98, 47, 100]), ([97, 108, 108], [97, 47]), ([97, 108, 108], [])]
def rowsK (b : Nat) : Array Value := #[.slice none 0 0, .int .i64 1, .string ⟨#[]⟩, .string ⟨#[]⟩,
  .slice (some ⟨b, 0, none⟩) 2 2, .int .i64 3, .string ⟨#[]⟩, .string ⟨#[]⟩,
  .slice (some ⟨b + 1, 0, none⟩) 2 2, .int .i64 2, .string ⟨#[120]⟩, .string ⟨#[122]⟩,
  .slice (some ⟨b + 2, 0, none⟩) 3 3, .int .i64 4, .string ⟨#[120]⟩, .string ⟨#[98]⟩,
  .slice (some ⟨b + 3, 0, none⟩) 3 3, .int .i64 5, .string ⟨#[97, 108, 108]⟩, .string ⟨#[97, 47, 98, 47, 100]⟩,
  .slice (some ⟨b + 4, 0, none⟩) 2 2, .int .i64 5, .string ⟨#[97, 108, 108]⟩, .string ⟨#[97, 47]⟩,
  .slice (some ⟨b + 5, 0, none⟩) 1 1, .int .i64 5, .string ⟨#[97, 108, 108]⟩, .string ⟨#[]⟩]
/-- One row: what is looked for, and what is found. -/
def RowK (b i : Nat) (pa : Option Addr) (n : Nat) (path : List Tx) (z : Nat) (nm vl p : Tx) (ps : List TrQ.Fd) : Prop :=
  (rowsK b)[i * 4]? = some (.slice pa n n) ∧ (rowsK b)[i * 4 + 1]? = some (.int .i64 ((z : Int) + 1)) ∧ (rowsK b)[i * 4 + 2]? = some (.string ⟨nm.toArray⟩) ∧ (rowsK b)[i * 4 + 3]? = some (.string ⟨vl.toArray⟩) ∧
  findT esK path = some (p, .int .i64 ((z : Int) + 1), ps) ∧ PS[z]? = some p ∧ path.length = n ∧ n ≤ 3 ∧ (∀ x ∈ path, x.length ≤ 10) ∧ ((nm = [] ∧ ps = []) ∨ (nm ≠ [] ∧ ps = [(nm, vl)]))
/-- The paths in memory. -/
def paK (b : Nat) : Asn := star (Row 9 1 (.slice (some ⟨b, 0, none⟩) 2 2) 2 (strsV [[97], [98]])) (star (Row 9 1 (.slice (some ⟨b + 1, 0, none⟩) 2 2) 2 (strsV [[97], [122]])) (star (Row 9 1 (.slice (some ⟨b + 2, 0, none⟩) 3 3) 3 (strsV [[97], [98], [99]]))
  (star (Row 9 1 (.slice (some ⟨b + 3, 0, none⟩) 3 3) 3 (strsV [[97], [98], [100]])) (star (Row 9 1 (.slice (some ⟨b + 4, 0, none⟩) 2 2) 2 (strsV [[97], []])) (Row 9 1 (.slice (some ⟨b + 5, 0, none⟩) 1 1) 1 (strsV [[]]))))))
theorem k_row (b : Nat) {W w : World} {R : Asn} (h : St W w (star (paK b) R)) : ∀ i, i < 7 → ∃ pa n path z nm vl p ps, RowK b i pa n path z nm vl p ps ∧ Sl w 1 (.slice pa n n) n (strsV path) := by
  unfold paK at h
  simp only [star_assoc] at h
  intro i hi
  match i, hi with
  | 0, _ => exact ⟨none, 0, [], 0, [], [], [47], [], ⟨rfl, rfl, rfl, rfl, by kernel_rfl, rfl, rfl, by omega, by simp, .inl ⟨rfl, rfl⟩⟩, Sl.nil w 1⟩
  | 1, _ => exact ⟨_, 2, [[97], [98]], 2, [], [], _, [], ⟨rfl, rfl, rfl, rfl, by kernel_rfl, rfl, rfl, by omega, by simp, .inl ⟨rfl, rfl⟩⟩, h.rowSl⟩
  | 2, _ => exact ⟨_, 2, [[97], [122]], 1, [120], [122], _, _, ⟨rfl, rfl, rfl, rfl, by kernel_rfl, rfl, rfl, by omega, by simp, .inr ⟨by simp, rfl⟩⟩, h.right.rowSl⟩
  | 3, _ => exact ⟨_, 3, [[97], [98], [99]], 3, [120], [98], _, _, ⟨rfl, rfl, rfl, rfl, by kernel_rfl, rfl, rfl, by omega, by simp, .inr ⟨by simp, rfl⟩⟩, h.right.right.rowSl⟩
  | 4, _ => exact ⟨_, 3, [[97], [98], [100]], 4, [97, 108, 108], [97, 47, 98, 47, 100], _, _, ⟨rfl, rfl, rfl, rfl, by kernel_rfl, rfl, rfl, by omega, by simp, .inr ⟨by simp, rfl⟩⟩, h.right.right.right.rowSl⟩
  | 5, _ => exact ⟨_, 2, [[97], []], 4, [97, 108, 108], [97, 47], _, _, ⟨rfl, rfl, rfl, rfl, by kernel_rfl, rfl, rfl, by omega, by simp, .inr ⟨by simp, rfl⟩⟩, h.right.right.right.right.rowSl⟩
  | 6, _ => exact ⟨_, 1, [[]], 4, [97, 108, 108], [], _, _, ⟨rfl, rfl, rfl, rfl, by kernel_rfl, rfl, rfl, by omega, by simp, .inr ⟨by simp, rfl⟩⟩, h.right.right.right.right.right.rowSl⟩
def badK : List Tx := [[47, 97, 47, 58, 120, 47, 58, 120], [97], [], [47, 97, 47, 47, 98], [47, 42, 97, 108, 108, 47, 98], [47, 97, 47], [47, 58], [47, 42], [47, 58, 97, 45, 98], [47, 58, 120, 47, 42, 120]]
theorem k_bad : ∀ i, i < 10 → ∃ p, badK[i]? = some p ∧ p.length ≤ 200 ∧ splitP p = none
  | 0, _ => ⟨_, rfl, by decide, by kernel_rfl⟩
  | 1, _ => ⟨_, rfl, by decide, by kernel_rfl⟩
  | 2, _ => ⟨_, rfl, by decide, by kernel_rfl⟩
  | 3, _ => ⟨_, rfl, by decide, by kernel_rfl⟩
  | 4, _ => ⟨_, rfl, by decide, by kernel_rfl⟩
  | 5, _ => ⟨_, rfl, by decide, by kernel_rfl⟩
  | 6, _ => ⟨_, rfl, by decide, by kernel_rfl⟩
  | 7, _ => ⟨_, rfl, by decide, by kernel_rfl⟩
  | 8, _ => ⟨_, rfl, by decide, by kernel_rfl⟩
  | 9, _ => ⟨_, rfl, by decide, by kernel_rfl⟩
def esL : EntsV := esK ++ [entK [47, 58, 113] 6]
def esM : EntsV := [entK [47] 1, entK [47, 97, 47, 58, 120] 2, entK [47, 97, 47, 98] 33, entK [47, 97, 47, 58, 120, 47, 99] 4, entK [47, 42, 97, 108, 108] 5, entK [47, 58, 113] 6]
theorem k1 : addT esK 6 [47, 97, 47, 58, 121] (.int .i64 9) = (5, esK) := by kernel_rfl
theorem k2 : addT esK 6 [47, 58, 113] (.int .i64 6) = (0, esL) := by kernel_rfl
theorem k3 : addT esL 6 [47, 122] (.int .i64 7) = (6, esL) := by kernel_rfl
theorem k4 : setT esL [47, 97, 47, 58, 121] (.int .i64 9) = (4, esL) := by kernel_rfl
theorem k5 : setT esL [47, 97, 47, 98] (.int .i64 33) = (0, esM) := by kernel_rfl
theorem k6 : getT esM [47, 97, 47, 98] = some (.int .i64 33) := by kernel_rfl
theorem k7 : getT esM [47, 97, 47, 58, 121] = none := by kernel_rfl
theorem k8 : findT esM [[], [98]] = some ([47, 42, 97, 108, 108], .int .i64 5, [([97, 108, 108], [47, 98])]) := by kernel_rfl
theorem len_ents {es : EntsV} (h : es.all (fun e => decide (e.2.1.length ≤ 1000000)) = true) : ∀ e ∈ es, e.2.1.length ≤ 1000000 := fun e he => by simpa using (List.all_eq_true.1 h) e he
theorem paths_made {W w : World} {R : Asn} (h : St W w R) (b : Nat) (hb : w.heap.size = b) :
    St W (((((((w.alloc (.cells #[.string ⟨#[97]⟩, .string ⟨#[98]⟩] 9 (0, 0))).alloc (.cells #[.string ⟨#[97]⟩, .string ⟨#[122]⟩] 9 (0, 0))).alloc (.cells #[.string ⟨#[97]⟩, .string ⟨#[98]⟩, .string ⟨#[99]⟩] 9 (0, 0))).alloc (.cells #[.string ⟨#[97]⟩, .string ⟨#[98]⟩, .string ⟨#[100]⟩] 9 (0, 0))).alloc (.cells #[.string ⟨#[97]⟩, .string ⟨#[]⟩] 9 (0, 0))).alloc (.cells #[.string ⟨#[]⟩] 9 (0, 0))).alloc (.cells (rowsK b) 44 (0, 0)))
      (star (pt (b + 6) (.cells (rowsK b) 44 (0, 0))) (star (paK b) R)) := by
  have h1 := lit_sl h [[97], [98]] (by simp [maxLen])
  have h2 := lit_sl h1 [[97], [122]] (by simp [maxLen])
  have h3 := lit_sl h2 [[97], [98], [99]] (by simp [maxLen])
  have h4 := lit_sl h3 [[97], [98], [100]] (by simp [maxLen])
  have h5 := lit_sl h4 [[97], []] (by simp [maxLen])
  have h6 := lit_sl h5 [[]] (by simp [maxLen])
  have h7 := h6.alloc (.cells (rowsK b) 44 (0, 0))
  simp only [World.size_alloc, hb] at h7
  refine h7.eq ?_
  unfold paK
  show star _ (star _ (star _ (star _ (star _ (star _ (star _ R)))))) = star _ (star (star _ (star _ (star _ (star _ (star _ _))))) R)
  simp only [List.length_cons, List.length_nil, Nat.zero_add, Nat.add_assoc, Nat.reduceAdd]
  ac_rfl
set_option maxRecDepth 100000 in
set_option maxHeartbeats 64000000 in
theorem known_any {W : World} (hm : MaxLen W) : Calls Tryd.prog 6 #[] W (Law W emp) := by
  have h0 := St.start W
  have HM := Lib.hid hm
  clear hm
  have HNw := Lib.hid (New_any 6 h0)
  clear h0
  go_enter Tryd.func6, Tryd.ntmps6
  go_wp2_with fail
  refine HNw.out.mono ?_
  rintro e w2 ⟨tp, rfl, h2⟩
  have h3 := lit_sl h2 PS (by simp [PS, maxLen])
  have e0 : (strsV PS).toArray = #[.string ⟨#[47]⟩, .string ⟨#[47, 97, 47, 58, 120]⟩, .string ⟨#[47, 97, 47, 98]⟩, .string ⟨#[47, 97, 47, 58, 120, 47, 99]⟩, .string ⟨#[47, 42, 97, 108, 108]⟩] := rfl
  rw [e0] at h3
  have eK : esK.take 0 = [] := rfl
  rw [← eK] at h3
  clear h2 e0 eK HNw
  go_wp2_with fail
  obtain ⟨lb, hlb⟩ : ∃ lb, w2.heap.size = lb := ⟨_, rfl⟩
  rw [hlb] at h3
  rw [hlb]
  clear hlb
  go_loopw [3] (fun iv wr => ∃ i : Nat, i ≤ 5 ∧ iv = .int .i64 i ∧ St W wr (star (Row 9 1 (.slice (some ⟨lb, 0, none⟩) PS.length PS.length) PS.length (strsV PS)) (star (IsT tp 6 (esK.take i)) emp))) (fun iv _ => 5 - (intOf iv).toNat)
  case atStart => exact ⟨0, by omega, rfl, h3⟩
  case round =>
    obtain ⟨i, hi, rfl, hS⟩ := hrel
    clear h3
    by_cases hin : i < 5
    · obtain ⟨p, hp, hpl, ha⟩ := k_add i hin
      obtain ⟨ab, ao, e1, hel⟩ := strs_at hS.rowSl hp
      cases e1
      have he := hel _ _ (St.start wr)
      rw [Nat.zero_add] at he
      have HA := Lib.hid (Add_any tp 6 (esK.take i) hS.swap (by rw [List.length_take]; omega) HM.out p (by omega) ((i : Int) + 1))
      rw [ha] at HA
      clear hel hp ha
      go_wp2_with fail
      refine HA.out.mono ?_
      rintro e w3 ⟨rfl, h4⟩
      clear he
      go_wp2_with fail
      exact ⟨⟨i + 1, hin, by go_num, h4.swap⟩, by simp [intOf]; omega⟩
    · obtain rfl : i = 5 := by omega
      have h4 : St W wr (star (Row 9 1 (.slice (some ⟨lb, 0, none⟩) PS.length PS.length) PS.length (strsV PS)) (star (IsT tp 6 esK) emp)) := hS
      have h5 := paths_made h4 wr.heap.size rfl
      clear hS h4 hi hin
      unfold rowsK at h5
      go_wp2_with fail
      obtain ⟨b, hb⟩ : ∃ b, wr.heap.size = b := ⟨_, rfl⟩
      rw [hb] at h5
      rw [hb]
      clear hb
      go_loopw [5] (fun iv wx => ∃ i : Nat, i ≤ 7 ∧ iv = .int .i64 i ∧ St W wx (star (pt (b + 6) (.cells (rowsK b) 44 (0, 0))) (star (paK b) (star (Row 9 1 (.slice (some ⟨lb, 0, none⟩) PS.length PS.length) PS.length (strsV PS)) (star (IsT tp 6 esK) emp))))) (fun iv _ => 7 - (intOf iv).toNat)
      case atStart => exact ⟨0, by omega, rfl, h5⟩
      case round =>
        obtain ⟨i, hi, rfl, hS⟩ := hrel
        clear h5
        by_cases hin : i < 7
        · obtain ⟨pa, n, path, z, nm, vl, p, ps, ⟨r0, r1, r2, r3, hf, hpz, hpn, hn3, hpx, hk⟩, hsl⟩ := k_row b hS.right i hin
          have c0 := hS.cell (i * 4) r0
          have c1 := fun w R (h : St W w (star (pt (b + 6) (.cells (rowsK b) 44 (0, 0))) R)) => h.cell (i * 4 + 1) r1
          have c2 := fun w R (h : St W w (star (pt (b + 6) (.cells (rowsK b) 44 (0, 0))) R)) => h.cell (i * 4 + 2) r2
          have c3 := fun w R (h : St W w (star (pt (b + 6) (.cells (rowsK b) 44 (0, 0))) R)) => h.cell (i * 4 + 3) r3
          have C1 := Lib.hid c1
          have C2 := Lib.hid c2
          have C3 := Lib.hid c3
          have HF := Lib.hid hf
          have HPZ := Lib.hid hpz
          have hz5 : z < 5 := (List.getElem?_eq_some_iff.1 hpz).1
          have HFi := Lib.hid (Find_any tp 6 esK (hS.eq (B := star (IsT tp 6 esK) (star (pt (b + 6) (.cells (rowsK b) 44 (0, 0))) (star (paK b) (star (Row 9 1 (.slice (some ⟨lb, 0, none⟩) PS.length PS.length) PS.length (strsV PS)) emp)))) (by ac_rfl)) (len_ents (by kernel_rfl)) HM.out pa n n path hsl hpn (by omega) (fun x hx => by have := hpx x hx; omega))
          clear r0 r1 r2 r3 c1 c2 c3 hf hpz hpn hpx hsl
          go_wp2_with fail
          refine HFi.out.mono ?_
          rintro e w5 hq
          obtain ⟨fa, fc, rfl, h6⟩ := fp_at hq HF.out
          clear hq HFi c0 hS
          have hfcap : ps.length ≤ fc ∧ fc ≤ 9223372036854775807 := by obtain ⟨_, _, _, hv, h1, h2, _⟩ := h6.rowSl; cases hv; exact ⟨h1, by simpa [maxLen] using h2⟩
          have h7 := h6.eq (B := star (pt (b + 6) (.cells (rowsK b) 44 (0, 0))) (star (paK b) (star (Row 9 1 (.slice (some ⟨lb, 0, none⟩) PS.length PS.length) PS.length (strsV PS)) (star (IsT tp 6 esK) (star (Row 33 2 (.slice fa ps.length fc) ps.length (fldV ps)) emp))))) (by ac_rfl)
          have c1 := C1.out _ _ h7
          have c2 := C2.out _ _ h7
          have c3 := C3.out _ _ h7
          obtain ⟨ab, ao, e1, hel⟩ := strs_at h7.right.right.rowSl HPZ.out
          cases e1
          have he := hel _ _ (St.start w5)
          rw [Nat.zero_add] at he
          clear hel
          have h8 : St W w5 (star (pt (b + 6) (.cells (rowsK b) 44 (0, 0))) (star (paK b) (star (Row 9 1 (.slice (some ⟨lb, 0, none⟩) PS.length PS.length) PS.length (strsV PS)) (star (IsT tp 6 esK) emp)))) := by
            have := (h7.eq (B := star (Row 33 2 (.slice fa ps.length fc) ps.length (fldV ps)) (star (pt (b + 6) (.cells (rowsK b) 44 (0, 0))) (star (paK b) (star (Row 9 1 (.slice (some ⟨lb, 0, none⟩) PS.length PS.length) PS.length (strsV PS)) (star (IsT tp 6 esK) emp))))) (by ac_rfl)).right
            exact this
          have H8 := Lib.hid h8
          rcases hk with ⟨rfl, rfl⟩ | ⟨hne, rfl⟩
          · clear h6 h7 h8
            go_wp2_with fail
            go_big_quiet (fail)
            go_wp2_with fail
            go_roundw
            case rel =>
              repeat apply Exists.intro
              exact ⟨⟨i + 1, hin, by go_num, H8.out.drewN _⟩, rfl⟩
            case measure => simp [intOf]; omega
          · have hne2 : (nm == []) = false := by simpa using hne
            obtain ⟨xb, xo, rfl, x1, x2⟩ := elF h6.rowSl (i := 0) (x := (nm, vl)) rfl
            simp only [Nat.zero_mul, Nat.add_zero] at x1 x2
            clear h6 h7 h8 hne
            go_wp2_with fail
            go_big_quiet (fail)
            go_wp2_with fail
            go_roundw
            case rel =>
              repeat apply Exists.intro
              exact ⟨⟨i + 1, hin, by go_num, H8.out.drewN _⟩, rfl⟩
            case measure => simp [intOf]; omega
        · obtain rfl : i = 7 := by omega
          have h6 : St W wr (star (IsT tp 6 esK) emp) := hS.right.right.right
          have h7 := lit_sl h6 badK (by simp [badK, maxLen])
          have e0 : (strsV badK).toArray = #[.string ⟨#[47, 97, 47, 58, 120, 47, 58, 120]⟩, .string ⟨#[97]⟩, .string ⟨#[]⟩, .string ⟨#[47, 97, 47, 47, 98]⟩, .string ⟨#[47, 42, 97, 108, 108, 47, 98]⟩, .string ⟨#[47, 97, 47]⟩, .string ⟨#[47, 58]⟩, .string ⟨#[47, 42]⟩, .string ⟨#[47, 58, 97, 45, 98]⟩, .string ⟨#[47, 58, 120, 47, 42, 120]⟩] := rfl
          rw [e0] at h7
          clear hS h6 e0 hi hin
          go_wp2_with fail
          obtain ⟨bb, hbb⟩ : ∃ bb, wr.heap.size = bb := ⟨_, rfl⟩
          rw [hbb] at h7
          rw [hbb]
          clear hbb
          go_loopw [11] (fun iv wy => ∃ i : Nat, i ≤ 10 ∧ iv = .int .i64 i ∧ St W wy (star (Row 9 1 (.slice (some ⟨bb, 0, none⟩) badK.length badK.length) badK.length (strsV badK)) (star (IsT tp 6 esK) emp))) (fun iv _ => 10 - (intOf iv).toNat)
          case atStart => exact ⟨0, by omega, rfl, h7⟩
          case round =>
            obtain ⟨i, hi, rfl, hS⟩ := hrel
            clear h7
            by_cases hin : i < 10
            · obtain ⟨p, hp, hpl, hsp⟩ := k_bad i hin
              obtain ⟨ab, ao, e1, hel⟩ := strs_at hS.rowSl hp
              cases e1
              have he := hel _ _ (St.start wr)
              rw [Nat.zero_add] at he
              have HEL := Lib.hid fun w A (h : St W w (star (Row 9 1 (.slice (some ⟨bb, 0, none⟩) badK.length badK.length) badK.length (strsV badK)) A)) => by
                obtain ⟨ab, ao, e1, hel⟩ := strs_at h.rowSl hp
                cases e1
                have he := hel _ _ (St.start w)
                rw [Nat.zero_add] at he
                exact he
              have HR := Lib.hid (Right_any p wr (by omega) (HM.out.st hS))
              rw [hsp] at HR
              have ha : addT esK 6 p (.int .i64 9) = (8, esK) := by unfold addT; rw [hsp]
              have hs : setT esK p (.int .i64 9) = (8, esK) := by unfold setT; rw [hsp]
              have HA : Hid (∀ w R', St W w (star (IsT tp 6 esK) R') → _) := Lib.hid fun w R' h => by
                have := Add_any tp 6 esK h (by decide) HM.out p (by omega) 9
                rw [ha] at this
                exact this
              have HSt : Hid (∀ w R', St W w (star (IsT tp 6 esK) R') → _) := Lib.hid fun w R' h => by
                have := Set_any tp 6 esK h HM.out p (by omega) 9
                rw [hs] at this
                exact this
              clear hel hp hsp ha hs
              go_wp2_with fail
              refine HR.out.mono ?_
              rintro e w3 hq
              have h4 := hS.makes hq
              obtain ⟨rfl, -⟩ := hq
              have he := HEL.out _ _ h4
              have HA2 := Lib.hid (HA.out _ _ h4.swap)
              clear hS
              go_wp2_with fail
              refine HA2.out.mono ?_
              rintro e w4 ⟨rfl, h5⟩
              have he := HEL.out _ _ h5.swap
              have HS2 := Lib.hid (HSt.out _ _ h5)
              go_wp2_with fail
              refine HS2.out.mono ?_
              rintro e w5 ⟨rfl, h6⟩
              clear he
              go_wp2_with fail
              go_roundw
              case rel =>
                repeat apply Exists.intro
                exact ⟨⟨i + 1, hin, by go_num, h6.swap⟩, rfl⟩
              case measure => simp [intOf]; omega
            · obtain rfl : i = 10 := by omega
              have HA1 := Lib.hid (Add_any tp 6 esK hS.right (by decide) HM.out [47, 97, 47, 58, 121] (by decide) 9)
              rw [k1] at HA1
              clear hS hi hin
              go_wp2_with fail
              refine HA1.out.mono ?_
              rintro e w3 ⟨rfl, h4⟩
              have HA2 := Lib.hid (Add_any tp 6 esK h4 (by decide) HM.out [47, 58, 113] (by decide) 6)
              rw [k2] at HA2
              clear h4 HA1
              go_wp2_with fail
              refine HA2.out.mono ?_
              rintro e w4 ⟨rfl, h5⟩
              have HA3 := Lib.hid (Add_any tp 6 esL h5 (by decide) HM.out [47, 122] (by decide) 7)
              rw [k3] at HA3
              clear h5 HA2
              go_wp2_with fail
              refine HA3.out.mono ?_
              rintro e w5 ⟨rfl, h6⟩
              have HA4 := Lib.hid (Set_any tp 6 esL h6 HM.out [47, 97, 47, 58, 121] (by decide) 9)
              rw [k4] at HA4
              clear h6 HA3
              go_wp2_with fail
              refine HA4.out.mono ?_
              rintro e w6 ⟨rfl, h7⟩
              have HA5 := Lib.hid (Set_any tp 6 esL h7 HM.out [47, 97, 47, 98] (by decide) 33)
              rw [k5] at HA5
              clear h7 HA4
              go_wp2_with fail
              refine HA5.out.mono ?_
              rintro e w7 ⟨rfl, h8⟩
              have HG1 := Lib.hid (Get_any tp 6 esM h8 HM.out [47, 97, 47, 98] (by decide))
              rw [k6] at HG1
              clear HA5
              go_wp2_with fail
              refine HG1.out.mono ?_
              rintro e w8 ⟨rfl, hb8⟩
              have h9 := h8.past hb8
              have HG2 := Lib.hid (Get_any tp 6 esM h9 HM.out [47, 97, 47, 58, 121] (by decide))
              rw [k7] at HG2
              clear h8 hb8 HG1
              go_wp2_with fail
              refine HG2.out.mono ?_
              rintro e w9 ⟨rfl, hb9⟩
              have h10 := h9.past hb9
              have h11 := lit_sl h10 [[], [98]] (by simp [maxLen])
              have HF := Lib.hid (Find_any tp 6 esM (h11.swap) (len_ents (by kernel_rfl)) HM.out (some ⟨w9.heap.size, 0, none⟩) 2 2 [[], [98]] h11.rowSl rfl (by omega) (by simp))
              clear h9 hb9 h10 h11 HG2
              go_wp2_with fail
              refine HF.out.mono ?_
              rintro e w10 hq
              obtain ⟨fa, fc, rfl, h12⟩ := fp_at hq k8
              clear hq HF
              have HLn := Lib.hid (Len_any tp 6 esM h12.right)
              rw [show esM.length = 6 from rfl] at HLn
              have HW3 := Lib.hid (wakes_any HM.out h12)
              clear h12
              go_wp2_with fail
              refine HLn.out.mono ?_
              rintro e w11 ⟨rfl, rfl⟩
              go_wp2_with fail
              refine HW3.out.mono ?_
              rintro e w12 ⟨rfl, h13⟩
              go_wp2
              go_ret
              exact ⟨rfl, h13.forget⟩
theorem known_walk (W : World) (hm : MaxLen W) : Calls Tryd.prog 6 #[] W (Law W emp) := known_any hm
end Go.Proofs.YtjobidgihjfheaaDoor.TrK
