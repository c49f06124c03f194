import Derived.Test.YtcjlbimmplejjaaGreatDoorScNt
namespace Go.Proofs.YtcjlbimmplejjaaGreatDoor.ScKn
open Go Go.RowKit Go.Proofs Go.Proofs.YtcjlbimmplejjaaGreatDoor.Sep Go.Proofs.YtcjlbimmplejjaaGreatDoor.Reg Go.Proofs.YtcjlbimmplejjaaGreatDoor.Frame Go.Proofs.YtcjlbimmplejjaaGreatDoor.WdP Go.Proofs.YtcjlbimmplejjaaGreatDoor.WdT Go.Proofs.YtcjlbimmplejjaaGreatDoor.WdN Go.Proofs.YtcjlbimmplejjaaGreatDoor.ScP Go.Proofs.YtcjlbimmplejjaaGreatDoor.ScQ Go.Proofs.YtcjlbimmplejjaaGreatDoor.ScT Go.Proofs.YtcjlbimmplejjaaGreatDoor.ScB Go.Proofs.YtcjlbimmplejjaaGreatDoor.ScA Go.Proofs.YtcjlbimmplejjaaGreatDoor.ScM Go.Proofs.YtcjlbimmplejjaaGreatDoor.ScH Go.Proofs.YtcjlbimmplejjaaGreatDoor.ScI Go.Proofs.YtcjlbimmplejjaaGreatDoor.ScJ Go.Proofs.YtcjlbimmplejjaaGreatDoor.ScR Go.Proofs.YtcjlbimmplejjaaGreatDoor.ScV Go.Proofs.YtcjlbimmplejjaaGreatDoor.ScK Go.Proofs.YtcjlbimmplejjaaGreatDoor.ScNt

def GlE (W : World) : Prop := Gl W ∧ Er W
theorem Parse_as {W w : World} {R : Asn} (hG : GlE W) {t : Tx} {l : List Ac} {i e : Nat} (hp : parseP t = (l, i, e)) (ht : t.length ≤ 1000000) (h : St W w R) :
    Calls Tryz.prog 9 #[.string ⟨t.toArray⟩] w fun x w' => ∃ v, x = .returned (.tuple #[v, .int .i64 (i : Nat), .int .i64 (e : Nat)]) ∧ St W w' (star (Row 34 4 v l.length (actsV l)) R) :=
  (Parse_any hG.1 hG.2 t ht h).mono fun x w' h => by unfold PPst at h; rw [hp] at h; exact h

/-! ### Many stops -/
def stopA : Ac := ⟨9, 0, 0, []⟩
theorem stop_lns : ∀ n, lns (Lib.repeatL [115, 116, 111, 112, 10] n) = List.replicate n wStop ++ [[]]
  | 0 => rfl
  | n + 1 => by
    show lns (wStop ++ 10 :: Lib.repeatL [115, 116, 111, 112, 10] n) = _
    rw [lns_at2 wStop _ (by decide), stop_lns n]
    rfl
theorem stop_go : ∀ (n i : Nat) (b : Blk), b.many ≤ 4097 → ∃ b', goP (List.replicate n wStop ++ [[]]) i [b] = .ok [b'] ∧ b'.many = min (b.many + n) 4097
  | 0, i, b, h => ⟨b, by simp [goP, lineP_nil], by omega⟩
  | n + 1, i, b, h => by
    have hl := (act_line (x := stopA) (by decide)).1 b [] (i + 1)
    rw [show wordA stopA = wStop by decide] at hl
    have hm : (addB b [stopA] 1 1).many = min (b.many + 1) 4097 := by
      unfold addB
      rw [if_neg (by omega)]
      by_cases h5 : 4096 < 1 ∨ 4096 < b.many + 1 * 1
      · rw [if_pos h5]; simp only; omega
      · rw [if_neg h5]; simp only; omega
    obtain ⟨b', h1, h2⟩ := stop_go n (i + 1) (addB b [stopA] 1 1) (by rw [hm]; omega)
    refine ⟨b', ?_, by rw [h2, hm]; omega⟩
    rw [List.replicate_succ, List.cons_append]
    simp only [goP, hl]
    exact h1
theorem stop_parse {n : Nat} (hn : n ≤ 5000) : ∃ l, parseP (Lib.repeatL [115, 116, 111, 112, 10] n) = (l, 0, if 4096 < n then 3 else 0) := by
  obtain ⟨b', h1, h2⟩ := stop_go n 0 ⟨[], 0, 0, 0⟩ (by decide)
  have hl : (Lib.repeatL [115, 116, 111, 112, 10] n).length ≤ 65536 := by rw [Lib.repeatL_length]; simp; omega
  simp only [Nat.zero_add] at h2
  unfold parseP
  rw [if_neg (by omega), stop_lns, show st0 = [⟨[], 0, 0, 0⟩] from rfl, h1]
  by_cases h : 4096 < n
  · rw [if_pos h]
    exact ⟨[], by simp only [finP]; rw [if_pos (by omega)]⟩
  · rw [if_neg h]
    exact ⟨b'.l, by simp only [finP]; rw [if_neg (by omega)]⟩

/-! ### The rows -/
abbrev Rw := Tx × Nat × Nat
def rE (r : Rw) : List Value := [.string ⟨r.1.toArray⟩, .int .i64 (r.2.1 : Nat), .int .i64 (r.2.2 : Nat)]
def Good (r : Rw) : Prop := r.1.length ≤ 400000 ∧ ∃ l, parseP r.1 = (l, r.2.1, r.2.2)
def base : List Rw := [([], 0, 0), ([10, 10, 32, 35], 0, 0), ([116, 105, 99, 107, 32, 48, 53], 1, 8), ([116, 105, 109, 101, 115, 32, 50, 10, 116, 105, 109, 101, 115, 32, 48], 2, 11), ([102, 105, 110, 105, 115, 104, 32, 56], 1, 8), ([102, 105, 110, 105, 115, 104, 32, 55], 0, 0), ([99, 117, 116, 32, 48, 32, 54, 53, 53, 51, 55], 1, 8), ([116, 105, 99, 107, 32, 50, 49, 52, 55, 52, 56, 51, 54, 52, 56], 1, 8), ([114, 111, 117, 110, 100, 115, 32, 49, 48, 48, 49], 1, 8), ([116, 105, 109, 101, 115, 32, 49, 48, 48, 49, 10, 101, 110, 100], 1, 8), ([98, 121, 116, 101, 115, 32, 48, 32, 34, 97, 34, 98], 1, 8), ([98, 121, 116, 101, 115, 32, 48, 32, 34, 92, 113, 34], 1, 8), ([98, 121, 116, 101, 115, 32, 48, 32, 97], 1, 8), ([99, 111, 110, 110, 101, 99, 116, 32, 49], 1, 8), ([116, 105, 109, 101, 115, 32, 49, 48, 48, 48, 10, 116, 105, 109, 101, 115, 32, 49, 48, 48, 48, 10, 116, 105, 109, 101, 115, 32, 49, 48, 48, 48, 10, 115, 116, 111, 112, 10, 101, 110, 100, 10, 101, 110, 100, 10, 101, 110, 100], 0, 3), ([116, 105, 109, 101, 115, 32, 48, 10, 116, 105, 109, 101, 115, 32, 49, 48, 48, 48, 10, 116, 105, 109, 101, 115, 32, 49, 48, 48, 48, 10, 115, 116, 111, 112, 10, 101, 110, 100, 10, 101, 110, 100, 10, 101, 110, 100], 0, 0)]
def tab (x0 x1 x2 x3 : Tx) : List Rw := base ++ [(x0, 9, 8), (x1, 0, 3), (x2, 0, 3), (x3, 0, 0)]
theorem base_good : ∀ r ∈ base, Good r := by
  have h : ∀ r ∈ base, r.1.length ≤ 400000 ∧ (parseP r.1).2 = r.2 := by decide +kernel
  intro r hr
  obtain ⟨h1, h2⟩ := h r hr
  exact ⟨h1, (parseP r.1).1, by rw [show (r.2.1, r.2.2) = r.2 from rfl, ← h2]⟩
def x0 : Tx := Lib.repeatL [116, 105, 109, 101, 115, 32, 49, 10] 9
def x1 : Tx := Lib.repeatL [10] 65537
def x2 : Tx := Lib.repeatL [115, 116, 111, 112, 10] 4097
def x3 : Tx := Lib.repeatL [115, 116, 111, 112, 10] 4096
theorem good0 : Good (x0, 9, 8) := ⟨by unfold x0; rw [Lib.repeatL_length]; decide, (parseP x0).1, by
  have h : (parseP x0).2 = (9, 8) := by decide +kernel
  rw [← h]⟩
theorem good1 : Good (x1, 0, 3) := ⟨by unfold x1; rw [Lib.repeatL_length]; decide, [], by
  have hl : x1.length = 65537 := by unfold x1; rw [Lib.repeatL_length]; rfl
  unfold parseP
  rw [if_pos (by show 65536 < x1.length; omega)]⟩
theorem good2 : Good (x2, 0, 3) := ⟨by unfold x2; rw [Lib.repeatL_length]; decide, stop_parse (n := 4097) (by decide)⟩
theorem good3 : Good (x3, 0, 0) := ⟨by unfold x3; rw [Lib.repeatL_length]; decide, stop_parse (n := 4096) (by decide)⟩
theorem tab_good : ∀ r ∈ tab x0 x1 x2 x3, Good r := by
  intro r hr
  rcases List.mem_append.1 hr with h | h
  · exact base_good r h
  · simp only [List.mem_cons, List.not_mem_nil, or_false] at h
    rcases h with rfl | rfl | rfl | rfl
    · exact good0
    · exact good1
    · exact good2
    · exact good3
def RA (qb i : Nat) (r : Rw) (w : World) : Prop := w.cell? ⟨qb, i * 3, none⟩ = some (.string ⟨r.1.toArray⟩) ∧ w.cell? ⟨qb, i * 3 + 1, none⟩ = some (.int .i64 (r.2.1 : Nat)) ∧ w.cell? ⟨qb, i * 3 + 2, none⟩ = some (.int .i64 (r.2.2 : Nat))
theorem row_cells {w : World} {qb i : Nat} {l : List Rw} {r : Rw} (hlen : l.length = 20) (h : Sl w 3 (.slice (some ⟨qb, 0, none⟩) 20 20) 20 (l.flatMap rE)) (hy : l[i]? = some r) : RA qb i r w := by
  obtain ⟨ab, ao, e, hc⟩ := sl_addr h (by
    cases l with
    | nil => simp at hlen
    | cons a l => simp [rE])
  cases e
  have hg := flatMap_get (E := rE) (size := 3) (fun _ => rfl) _ i _ hy
  have key : ∀ (j : Nat) (_ : j < 3) (u : Value), (rE r)[j]? = some u → w.cell? ⟨qb, i * 3 + j, none⟩ = some u := fun j hj u hu => by
    have := hc (i * 3 + j) u ((hg j hj).trans hu)
    rwa [Nat.zero_add] at this
  exact ⟨key 0 (by omega) _ rfl, key 1 (by omega) _ rfl, key 2 (by omega) _ rfl⟩
theorem pr3 : printP [⟨6, 0, 1, []⟩, ⟨6, 0, 1, []⟩, ⟨6, 0, 1, []⟩] = ([116, 105, 109, 101, 115, 32, 51, 10, 116, 105, 99, 107, 32, 49, 10, 101, 110, 100, 10], 0) := by decide +kernel
theorem pr2 : printP [⟨6, 0, 1, []⟩, ⟨6, 0, 1, []⟩] = ([116, 105, 99, 107, 32, 49, 10, 116, 105, 99, 107, 32, 49, 10], 0) := by decide +kernel
theorem pr1 : printP [⟨6, 1, 0, []⟩] = ([], 1) := by decide +kernel
theorem pr0 : printP [⟨0, 0, 0, []⟩] = ([], 1) := by decide +kernel
theorem qu : quote [97, 34, 92, 0, 10, 127, 255] = [34, 97, 92, 34, 92, 92, 92, 120, 48, 48, 92, 110, 92, 120, 55, 102, 92, 120, 102, 102, 34] := by decide +kernel
def zA : Value := .agg #[.int .u8 0, .int .i64 0, .int .i64 0, .string ⟨#[]⟩]
theorem infoZ : (Tryz.prog.info? 34).map (fun i => (i.zero, i.size, i.bytes)) = some (some zA, 4, 40) := by kernel_rfl
theorem mkA (w : World) : (Instr.makeSlice 23 (.int .i64 1) (.int .i64 1)).run Tryz.prog w = .ok (.slice (some ⟨w.heap.size, 0, none⟩) 1 1) (w.alloc (.cells #[.int .u8 0, .int .i64 0, .int .i64 0, .string ⟨#[]⟩] 34 (0, 0))) := by
  obtain ⟨i0, hi0, hz0, hz1, hz2⟩ := info_parts infoZ
  have := run_makeSlice (P := Tryz.prog) w 23 34 i0 zA Tryz.underlying23 hi0 hz0 .i64 .i64 1 1 (by omega) (Int.le_refl _) (by rw [hz1]; decide) (by rw [hz2]; decide) (by omega)
  rw [hz1, show madeCells zA.cells (Int.toNat 1 * 4) = #[.int .u8 0, .int .i64 0, .int .i64 0, .string ⟨#[]⟩] by kernel_rfl] at this
  exact this
set_option maxRecDepth 100000 in
set_option maxHeartbeats 16000000 in
theorem known_any {W : World} (hG : GlE W) : Calls Tryz.prog 5 #[] W (Law W emp) := by
  have HG := Lib.hid hG
  have h0 : St W W emp := St.start W
  clear hG
  go_enter Tryz.func5, Tryz.ntmps5
  have HR0 := Lib.hid (Tryz.strings_Repeat ⟨#[116, 105, 109, 101, 115, 32, 49, 10]⟩ 9 W (by omega) (by simp [ByteArray.size]))
  have hx0 : Lib.repeatL (ByteArray.mk #[116, 105, 109, 101, 115, 32, 49, 10]).data.toList 9 = x0 := rfl
  rw [hx0] at HR0
  clear hx0
  go_wp2_with fail
  refine HR0.out.mono ?_
  rintro e v0 ⟨rfl, hb⟩
  have h1 := h0.past hb
  clear hb HR0 h0
  have HR1 := Lib.hid (Tryz.strings_Repeat ⟨#[10]⟩ 65537 v0 (by omega) (by simp [ByteArray.size]))
  have hx1 : Lib.repeatL (ByteArray.mk #[10]).data.toList 65537 = x1 := rfl
  rw [hx1] at HR1
  clear hx1
  go_wp2_with fail
  refine HR1.out.mono ?_
  rintro e v1 ⟨rfl, hb⟩
  have h2 := h1.past hb
  clear hb HR1 h1
  have HR2 := Lib.hid (Tryz.strings_Repeat ⟨#[115, 116, 111, 112, 10]⟩ 4097 v1 (by omega) (by simp [ByteArray.size]))
  have hx2 : Lib.repeatL (ByteArray.mk #[115, 116, 111, 112, 10]).data.toList 4097 = x2 := rfl
  rw [hx2] at HR2
  clear hx2
  go_wp2_with fail
  refine HR2.out.mono ?_
  rintro e v2 ⟨rfl, hb⟩
  have h3 := h2.past hb
  clear hb HR2 h2
  have HR3 := Lib.hid (Tryz.strings_Repeat ⟨#[115, 116, 111, 112, 10]⟩ 4096 v2 (by omega) (by simp [ByteArray.size]))
  have hx3 : Lib.repeatL (ByteArray.mk #[115, 116, 111, 112, 10]).data.toList 4096 = x3 := rfl
  rw [hx3] at HR3
  clear hx3
  go_wp2_with fail
  refine HR3.out.mono ?_
  rintro e v3 ⟨rfl, hb⟩
  have h4 := h3.past hb
  clear hb HR3 h3
  have HTG := Lib.hid tab_good
  generalize x0 = x0 at *
  generalize x1 = x1 at *
  generalize x2 = x2 at *
  generalize x3 = x3 at *
  have gA := h4.alloc (.cells #[.string ⟨#[]⟩, .int .i64 0, .int .i64 0, .string ⟨#[10, 10, 32, 35]⟩, .int .i64 0, .int .i64 0, .string ⟨#[116, 105, 99, 107, 32, 48, 53]⟩, .int .i64 1, .int .i64 8, .string ⟨#[116, 105, 109, 101, 115, 32, 50, 10, 116, 105, 109, 101, 115, 32, 48]⟩, .int .i64 2, .int .i64 11, .string ⟨#[102, 105, 110, 105, 115, 104, 32, 56]⟩, .int .i64 1, .int .i64 8, .string ⟨#[102, 105, 110, 105, 115, 104, 32, 55]⟩, .int .i64 0, .int .i64 0, .string ⟨#[99, 117, 116, 32, 48, 32, 54, 53, 53, 51, 55]⟩, .int .i64 1, .int .i64 8, .string ⟨#[116, 105, 99, 107, 32, 50, 49, 52, 55, 52, 56, 51, 54, 52, 56]⟩, .int .i64 1, .int .i64 8, .string ⟨#[114, 111, 117, 110, 100, 115, 32, 49, 48, 48, 49]⟩, .int .i64 1, .int .i64 8, .string ⟨#[116, 105, 109, 101, 115, 32, 49, 48, 48, 49, 10, 101, 110, 100]⟩, .int .i64 1, .int .i64 8, .string ⟨#[98, 121, 116, 101, 115, 32, 48, 32, 34, 97, 34, 98]⟩, .int .i64 1, .int .i64 8, .string ⟨#[98, 121, 116, 101, 115, 32, 48, 32, 34, 92, 113, 34]⟩, .int .i64 1, .int .i64 8, .string ⟨#[98, 121, 116, 101, 115, 32, 48, 32, 97]⟩, .int .i64 1, .int .i64 8, .string ⟨#[99, 111, 110, 110, 101, 99, 116, 32, 49]⟩, .int .i64 1, .int .i64 8, .string ⟨#[116, 105, 109, 101, 115, 32, 49, 48, 48, 48, 10, 116, 105, 109, 101, 115, 32, 49, 48, 48, 48, 10, 116, 105, 109, 101, 115, 32, 49, 48, 48, 48, 10, 115, 116, 111, 112, 10, 101, 110, 100, 10, 101, 110, 100, 10, 101, 110, 100]⟩, .int .i64 0, .int .i64 3, .string ⟨#[116, 105, 109, 101, 115, 32, 48, 10, 116, 105, 109, 101, 115, 32, 49, 48, 48, 48, 10, 116, 105, 109, 101, 115, 32, 49, 48, 48, 48, 10, 115, 116, 111, 112, 10, 101, 110, 100, 10, 101, 110, 100, 10, 101, 110, 100]⟩, .int .i64 0, .int .i64 0, .string ⟨x0.toArray⟩, .int .i64 9, .int .i64 8, .string ⟨x1.toArray⟩, .int .i64 0, .int .i64 3, .string ⟨x2.toArray⟩, .int .i64 0, .int .i64 3, .string ⟨x3.toArray⟩, .int .i64 0, .int .i64 0] 40 (0, 0))
  obtain ⟨qb, hqb⟩ : ∃ z, v3.heap.size = z := ⟨_, rfl⟩
  rw [hqb] at gA
  clear h4
  go_upto_region 2 with fail
  clear hqb
  generalize v3.alloc (.cells #[.string ⟨#[]⟩, .int .i64 0, .int .i64 0, .string ⟨#[10, 10, 32, 35]⟩, .int .i64 0, .int .i64 0, .string ⟨#[116, 105, 99, 107, 32, 48, 53]⟩, .int .i64 1, .int .i64 8, .string ⟨#[116, 105, 109, 101, 115, 32, 50, 10, 116, 105, 109, 101, 115, 32, 48]⟩, .int .i64 2, .int .i64 11, .string ⟨#[102, 105, 110, 105, 115, 104, 32, 56]⟩, .int .i64 1, .int .i64 8, .string ⟨#[102, 105, 110, 105, 115, 104, 32, 55]⟩, .int .i64 0, .int .i64 0, .string ⟨#[99, 117, 116, 32, 48, 32, 54, 53, 53, 51, 55]⟩, .int .i64 1, .int .i64 8, .string ⟨#[116, 105, 99, 107, 32, 50, 49, 52, 55, 52, 56, 51, 54, 52, 56]⟩, .int .i64 1, .int .i64 8, .string ⟨#[114, 111, 117, 110, 100, 115, 32, 49, 48, 48, 49]⟩, .int .i64 1, .int .i64 8, .string ⟨#[116, 105, 109, 101, 115, 32, 49, 48, 48, 49, 10, 101, 110, 100]⟩, .int .i64 1, .int .i64 8, .string ⟨#[98, 121, 116, 101, 115, 32, 48, 32, 34, 97, 34, 98]⟩, .int .i64 1, .int .i64 8, .string ⟨#[98, 121, 116, 101, 115, 32, 48, 32, 34, 92, 113, 34]⟩, .int .i64 1, .int .i64 8, .string ⟨#[98, 121, 116, 101, 115, 32, 48, 32, 97]⟩, .int .i64 1, .int .i64 8, .string ⟨#[99, 111, 110, 110, 101, 99, 116, 32, 49]⟩, .int .i64 1, .int .i64 8, .string ⟨#[116, 105, 109, 101, 115, 32, 49, 48, 48, 48, 10, 116, 105, 109, 101, 115, 32, 49, 48, 48, 48, 10, 116, 105, 109, 101, 115, 32, 49, 48, 48, 48, 10, 115, 116, 111, 112, 10, 101, 110, 100, 10, 101, 110, 100, 10, 101, 110, 100]⟩, .int .i64 0, .int .i64 3, .string ⟨#[116, 105, 109, 101, 115, 32, 48, 10, 116, 105, 109, 101, 115, 32, 49, 48, 48, 48, 10, 116, 105, 109, 101, 115, 32, 49, 48, 48, 48, 10, 115, 116, 111, 112, 10, 101, 110, 100, 10, 101, 110, 100, 10, 101, 110, 100]⟩, .int .i64 0, .int .i64 0, .string ⟨x0.toArray⟩, .int .i64 9, .int .i64 8, .string ⟨x1.toArray⟩, .int .i64 0, .int .i64 3, .string ⟨x2.toArray⟩, .int .i64 0, .int .i64 3, .string ⟨x3.toArray⟩, .int .i64 0, .int .i64 0] 40 (0, 0)) = w3 at *
  have gB : St W w3 (star (Row 40 3 (.slice (some ⟨qb, 0, none⟩) 20 20) 20 ((tab x0 x1 x2 x3).flatMap rE)) emp) := St.mkRow (size := 3) (n := 20) (cap := 20) (xs := (tab x0 x1 x2 x3).flatMap rE) gA (Nat.le_refl _) (by unfold maxLen; omega) rfl rfl
  clear gA
  have HLen : Hid ((tab x0 x1 x2 x3).length = 20) := Lib.hid rfl
  generalize tab x0 x1 x2 x3 = RR at *
  go_loopw [41] (fun iv wr => ∃ i : Nat, i ≤ 20 ∧ iv = .int .i64 i ∧ St W wr (star (Row 40 3 (.slice (some ⟨qb, 0, none⟩) 20 20) 20 (RR.flatMap rE)) emp)) (fun iv _ => 20 - (intOf iv).toNat)
  case atStart => exact ⟨0, by omega, rfl, gB⟩
  case round =>
    obtain ⟨i, hi, rfl, hS⟩ := hrel
    clear gB
    by_cases hin : i < 20
    · have hinI : (i : Int) < 20 := by omega
      obtain ⟨r, hr⟩ : ∃ r, RR[i]? = some r := ⟨_, List.getElem?_eq_getElem (by rw [HLen.out]; exact hin)⟩
      obtain ⟨hl4, l, hp⟩ := HTG.out r (List.mem_of_getElem? hr)
      obtain ⟨c0, c1, c2⟩ := row_cells HLen.out hS.rowSl hr
      obtain ⟨rt, rl, re⟩ := r
      simp only at hl4 hp c0 c1 c2
      have hA := hS.alloc (.cells #[.string ⟨rt.toArray⟩, .int .i64 (rl : Nat), .int .i64 (re : Nat)] 40 (0, 0))
      obtain ⟨xb, hxb⟩ : ∃ z, wr.heap.size = z := ⟨_, rfl⟩
      rw [hxb] at hA
      have H1 := Lib.hid (Parse_as HG.out hp (by omega) hA)
      have k0 := hA.cell 0 (v := .string ⟨rt.toArray⟩) rfl
      have k1 := hA.cell 1 (v := .int .i64 (rl : Nat)) rfl
      have k2 := hA.cell 2 (v := .int .i64 (re : Nat)) rfl
      have HA := Lib.hid hA
      clear hS hA hr hp
      go_wp2_with fail
      refine H1.out.mono ?_
      rintro e w5 ⟨v, rfl, hS⟩
      have hS2 := hS.right
      clear k0 k1 k2 c0 c1 c2 H1 HA hxb hS
      have k1 := hS2.cell 1 (v := .int .i64 (rl : Nat)) rfl
      have k2 := hS2.cell 2 (v := .int .i64 (re : Nat)) rfl
      have HS := Lib.hid hS2.right
      clear hS2
      have e1 : ((rl : Int) != (rl : Nat)) = false := by simp
      have e2 : ((re : Int) != (re : Nat)) = false := by simp
      go_wp2_with fail
      exact ⟨⟨i + 1, hin, by go_num, HS.out⟩, by simp [intOf]; omega⟩
    · obtain rfl : i = 20 := by omega
      have h5 := hS.right
      clear hS
      have h6 := h5.alloc (.cells #[.int .u8 6, .int .i64 0, .int .i64 1, .string ⟨#[]⟩] 34 (0, 0))
      obtain ⟨pb, hpb⟩ : ∃ z, wr.heap.size = z := ⟨_, rfl⟩
      rw [hpb] at h6
      clear h5
      go_upto_region 9 with fail
      clear hpb
      generalize wr.alloc (.cells #[.int .u8 6, .int .i64 0, .int .i64 1, .string ⟨#[]⟩] 34 (0, 0)) = w6 at *
      clear HTG HLen
      have k0 := h6.cell 0 (v := .int .u8 6) rfl
      have k1 := h6.cell 1 (v := .int .i64 0) rfl
      have k2 := h6.cell 2 (v := .int .i64 1) rfl
      have k3 := h6.cell 3 (v := .string ⟨#[]⟩) rfl
      have a3 := h6.alloc (.cells #[.int .u8 6, .int .i64 0, .int .i64 1, .string ⟨#[]⟩, .int .u8 6, .int .i64 0, .int .i64 1, .string ⟨#[]⟩, .int .u8 6, .int .i64 0, .int .i64 1, .string ⟨#[]⟩] 34 (0, 0))
      obtain ⟨lb3, hlb⟩ : ∃ z, w6.heap.size = z := ⟨_, rfl⟩
      rw [hlb] at a3
      have b3 := St.mkRow (size := 4) (n := 3) (cap := 3) (xs := actsV [⟨6, 0, 1, []⟩, ⟨6, 0, 1, []⟩, ⟨6, 0, 1, []⟩]) a3 (Nat.le_refl _) (by unfold maxLen; omega) rfl rfl
      have HPr := Lib.hid ((Print_any (HG.out.1.st b3) (some ⟨lb3, 0, none⟩) 3 3 [⟨6, 0, 1, []⟩, ⟨6, 0, 1, []⟩, ⟨6, 0, 1, []⟩] rfl (by intro x hx; simp at hx; subst hx; exact ⟨⟨by decide, by decide⟩, ⟨by decide, by decide⟩, by decide⟩) b3.rowSl).mono fun e w h => by unfold ScV.NPst at h; rw [pr3] at h; exact h)
      clear h6 a3
      go_wp2_with fail
      refine HPr.out.mono ?_
      rintro e u3 ⟨rfl, hb⟩
      have c3 := (b3.past hb).right
      clear b3 HPr hb hlb k0 k1 k2 k3
      have k0 := c3.cell 0 (v := .int .u8 6) rfl
      have k1 := c3.cell 1 (v := .int .i64 0) rfl
      have k2 := c3.cell 2 (v := .int .i64 1) rfl
      have k3 := c3.cell 3 (v := .string ⟨#[]⟩) rfl
      have a2 := c3.alloc (.cells #[.int .u8 6, .int .i64 0, .int .i64 1, .string ⟨#[]⟩, .int .u8 6, .int .i64 0, .int .i64 1, .string ⟨#[]⟩] 34 (0, 0))
      obtain ⟨lb2, hlb⟩ : ∃ z, u3.heap.size = z := ⟨_, rfl⟩
      rw [hlb] at a2
      have b2 := St.mkRow (size := 4) (n := 2) (cap := 2) (xs := actsV [⟨6, 0, 1, []⟩, ⟨6, 0, 1, []⟩]) a2 (Nat.le_refl _) (by unfold maxLen; omega) rfl rfl
      have HPr := Lib.hid ((Print_any (HG.out.1.st b2) (some ⟨lb2, 0, none⟩) 2 2 [⟨6, 0, 1, []⟩, ⟨6, 0, 1, []⟩] rfl (by intro x hx; simp at hx; subst hx; exact ⟨⟨by decide, by decide⟩, ⟨by decide, by decide⟩, by decide⟩) b2.rowSl).mono fun e w h => by unfold ScV.NPst at h; rw [pr2] at h; exact h)
      clear c3 a2
      go_wp2_with fail
      refine HPr.out.mono ?_
      rintro e u2 ⟨rfl, hb⟩
      have c2 := (b2.past hb).right
      clear b2 HPr hb hlb k0 k1 k2 k3
      have a1 := c2.alloc (.cells #[.int .u8 6, .int .i64 1, .int .i64 0, .string ⟨#[]⟩] 34 (0, 0))
      obtain ⟨lb1, hlb⟩ : ∃ z, u2.heap.size = z := ⟨_, rfl⟩
      rw [hlb] at a1
      have b1 := St.mkRow (size := 4) (n := 1) (cap := 1) (xs := actsV [⟨6, 1, 0, []⟩]) a1 (Nat.le_refl _) (by unfold maxLen; omega) rfl rfl
      have HPr := Lib.hid ((Print_any (HG.out.1.st b1) (some ⟨lb1, 0, none⟩) 1 1 [⟨6, 1, 0, []⟩] rfl (by intro x hx; simp at hx; subst hx; exact ⟨⟨by decide, by decide⟩, ⟨by decide, by decide⟩, by decide⟩) b1.rowSl).mono fun e w h => by unfold ScV.NPst at h; rw [pr1] at h; exact h)
      clear c2 a1
      go_wp2_with fail
      refine HPr.out.mono ?_
      rintro e u1 ⟨rfl, hb⟩
      have c1 := (b1.past hb).right
      clear b1 HPr hb hlb
      have hmk := mkA
      have a0 := c1.alloc (.cells #[.int .u8 0, .int .i64 0, .int .i64 0, .string ⟨#[]⟩] 34 (0, 0))
      obtain ⟨lb0, hlb⟩ : ∃ z, u1.heap.size = z := ⟨_, rfl⟩
      rw [hlb] at a0
      have b0 := St.mkRow (size := 4) (n := 1) (cap := 1) (xs := actsV [⟨0, 0, 0, []⟩]) a0 (Nat.le_refl _) (by unfold maxLen; omega) rfl rfl
      have HPr := Lib.hid ((Print_any (HG.out.1.st b0) (some ⟨lb0, 0, none⟩) 1 1 [⟨0, 0, 0, []⟩] rfl (by intro x hx; simp at hx; subst hx; exact ⟨⟨by decide, by decide⟩, ⟨by decide, by decide⟩, by decide⟩) b0.rowSl).mono fun e w h => by unfold ScV.NPst at h; rw [pr0] at h; exact h)
      clear c1 a0
      go_wp2_with fail
      refine HPr.out.mono ?_
      rintro e u0 ⟨rfl, hb⟩
      have c0 := (b0.past hb).right
      clear b0 HPr hb hlb
      have HAw := Lib.hid (awake_any HG.out.1 HG.out.2 c0.right)
      clear c0
      go_wp2_with fail
      refine HAw.out.mono ?_
      rintro e y1 ⟨rfl, hS⟩
      have HQu := Lib.hid (Quote_any [97, 34, 92, 0, 10, 127, 255] (by decide) hS)
      rw [qu] at HQu
      clear hS HAw
      go_wp2_with fail
      refine HQu.out.mono ?_
      rintro e y2 ⟨rfl, hS⟩
      have HS := Lib.hid hS
      clear hS HQu
      go_wp2
      go_ret
      exact ⟨rfl, HS.out⟩
end Go.Proofs.YtcjlbimmplejjaaGreatDoor.ScKn
