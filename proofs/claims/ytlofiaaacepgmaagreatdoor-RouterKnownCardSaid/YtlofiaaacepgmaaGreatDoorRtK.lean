import Derived.Test.YtlofiaaacepgmaaGreatDoorHeldG
import Derived.Test.YtlofiaaacepgmaaGreatDoorRtO
import Derived.Test.YtlofiaaacepgmaaGreatDoorRtKa
namespace Go.Proofs.YtlofiaaacepgmaaGreatDoor.RtK
open Go Go.RowKit Go.Proofs Go.Proofs.YtlofiaaacepgmaaGreatDoor.Sep Go.Proofs.YtlofiaaacepgmaaGreatDoor.Reg Go.Proofs.YtlofiaaacepgmaaGreatDoor.Frame Go.Proofs.YtlofiaaacepgmaaGreatDoor.Strs Go.Proofs.YtlofiaaacepgmaaGreatDoor.Mp Go.Proofs.YtlofiaaacepgmaaGreatDoor.TrP Go.Proofs.YtlofiaaacepgmaaGreatDoor.TrQ Go.Proofs.YtlofiaaacepgmaaGreatDoor.WdP Go.Proofs.YtlofiaaacepgmaaGreatDoor.RtP Go.Proofs.YtlofiaaacepgmaaGreatDoor.RtQ Go.Proofs.YtlofiaaacepgmaaGreatDoor.RtA Go.Proofs.YtlofiaaacepgmaaGreatDoor.RtC Go.Proofs.YtlofiaaacepgmaaGreatDoor.RtB Go.Proofs.YtlofiaaacepgmaaGreatDoor.RtV Go.Proofs.YtlofiaaacepgmaaGreatDoor.RtW Go.Proofs.YtlofiaaacepgmaaGreatDoor.RtX Go.Proofs.YtlofiaaacepgmaaGreatDoor.RtG Go.Proofs.YtlofiaaacepgmaaGreatDoor.RtO Go.Proofs.YtlofiaaacepgmaaGreatDoor.RtKp Go.Proofs.YtlofiaaacepgmaaGreatDoor.RtKa Go.Proofs.YtlofiaaacepgmaaGreatDoor.Held Go.Proofs.YtlofiaaacepgmaaGreatDoor.HeldG

theorem infoU : (Tryz.prog.info? 5).map (fun i => (i.zero, i.size, i.bytes)) = some (some (.int .u8 0), 1, 1) := by kernel_rfl
theorem fin {W w : World} {R : Asn} (h : St W w R) : St W w emp := (h.eq (B := star R emp) (by simp only [star_emp])).right
def ZB (n : Nat) : Obj := .cells (madeCells (Value.int .u8 0).cells n) 5 (0, 0)
theorem mk_run (n : Nat) (h : n ≤ 100000) (w : World) : (Instr.makeSlice 49 (.int .i64 (n : Nat)) (.int .i64 (n : Nat))).run Tryz.prog w = .ok (.slice (some ⟨w.heap.size, 0, none⟩) n n) (w.alloc (ZB n)) := by
  obtain ⟨i0, hi0, hz0, hz1, hz2⟩ := info_parts infoU
  have := run_makeSlice (P := Tryz.prog) w 49 5 i0 (.int .u8 0) Tryz.underlying49 hi0 hz0 .i64 .i64 (n : Nat) (n : Nat) (by omega) (Int.le_refl _) (by rw [hz1]; simp; omega) (by rw [hz2]; omega) (by omega)
  rw [hz1, Int.toNat_natCast, Nat.mul_one] at this
  exact this
theorem made_zero (n : Nat) : (madeCells (Value.int .u8 0).cells n).toList = bytesV (List.replicate n 0) := by
  refine List.ext_getElem? fun i => ?_
  unfold madeCells bytesV
  by_cases h : i < n
  · simp [h, Nat.mod_one, Value.cells]
  · rw [List.getElem?_eq_none (by simp; omega), List.getElem?_eq_none (by simp; omega)]
theorem zero_row {W w : World} {R : Asn} (g n : Nat) (hn : n ≤ maxLen) (h : St W w (star (pt g (ZB n)) R)) : Sl w 1 (.slice (some ⟨g, 0, none⟩) n n) n (bytesV (List.replicate n 0)) :=
  (St.mkRow (size := 1) (n := n) (cap := n) (xs := bytesV (List.replicate n 0)) h (Nat.le_refl _) hn (by rw [size_madeCells, Nat.mul_one]) (by rw [made_zero, Nat.mul_one]; exact List.take_of_length_le (by rw [bytesV_length, List.length_replicate]; exact Nat.le_refl _))).rowSl
theorem zero_str {W w : World} {R : Asn} (g n : Nat) (hn : n ≤ maxLen) (h : St W w (star (pt g (ZB n)) R)) : (convert 49 9 (.slice (some ⟨g, 0, none⟩) n n)).run Tryz.prog w = .ok (kS (List.replicate n 0)) w :=
  run_string_of (P := Tryz.prog) (zero_row g n hn h) 49 9 5 Tryz.underlying49 Tryz.underlying5 Tryz.underlying9
def ZR : Obj := .cells (madeCells zR.cells 132) 40 (0, 0)
theorem mkR (w : World) : (Instr.makeSlice 33 (.int .i64 33) (.int .i64 33)).run Tryz.prog w = .ok (.slice (some ⟨w.heap.size, 0, none⟩) 33 33) (w.alloc ZR) := by
  obtain ⟨i0, hi0, hz0, hz1, hz2⟩ := info_parts infoR
  have := run_makeSlice (P := Tryz.prog) w 33 40 i0 zR Tryz.underlying33 hi0 hz0 .i64 .i64 33 33 (by omega) (Int.le_refl _) (by rw [hz1]; decide) (by rw [hz2]; decide) (by omega)
  rw [hz1] at this
  exact this
theorem zrow {W w : World} (h : St W w emp) : St W (w.alloc ZR) (star (Row 40 4 (.slice (some ⟨w.heap.size, 0, none⟩) 33 33) 33 (rsV (List.replicate 33 ⟨[], [], 0, []⟩))) emp) :=
  St.mkRow (size := 4) (n := 33) (cap := 33) (h.alloc _) (Nat.le_refl _) (by unfold maxLen; omega) (by rw [size_madeCells]) (by kernel_rfl)
theorem fin2 {W w : World} {A R : Asn} (h : St W w (star A R)) : St W w (star A emp) := (h.eq (B := star R (star A emp)) (by simp only [star_emp]; ac_rfl)).right
def mE (x : Rt × Int) : List Value := rE x.1 ++ [.int .i64 x.2]
def moreA (z1 z2 : Value) : Array Value := #[.string ⟨#[71, 69, 84]⟩, .string ⟨#[47]⟩, .int .i64 2, .string ⟨#[]⟩, .int .i64 5, .string ⟨#[80, 85, 84]⟩, .string ⟨#[47, 97, 47, 58, 121]⟩, .int .i64 2, .string ⟨#[]⟩, .int .i64 5, .string ⟨#[80, 85, 84]⟩, .string ⟨#[47]⟩, .int .i64 2, .string ⟨#[]⟩, .int .i64 0, .string ⟨#[80, 79, 83, 84]⟩, .string ⟨#[47, 120]⟩, .int .i64 4, .string ⟨#[]⟩, .int .i64 1, .string ⟨#[71, 32, 84]⟩, .string ⟨#[47, 120]⟩, .int .i64 2, .string ⟨#[]⟩, .int .i64 1, .string ⟨#[71, 69, 84]⟩, .string ⟨#[120]⟩, .int .i64 2, .string ⟨#[]⟩, .int .i64 1, .string ⟨#[71, 69, 84]⟩, .string ⟨#[47, 120]⟩, .int .i64 5, .string ⟨#[]⟩, .int .i64 1, .string ⟨#[71, 69, 84]⟩, .string ⟨#[47, 120]⟩, .int .i64 0, .string ⟨#[]⟩, .int .i64 1, .string ⟨#[71, 69, 84]⟩, .string ⟨#[47, 120]⟩, .int .i64 2, .string ⟨#[116]⟩, .int .i64 1, .string ⟨#[71, 69, 84]⟩, .string ⟨#[47, 120]⟩, .int .i64 1, z1, .int .i64 0, .string ⟨#[71, 69, 84]⟩, .string ⟨#[47, 120]⟩, .int .i64 1, z2, .int .i64 1]
theorem more_row {W w : World} (z1 z2 : Value) (h1 : z1 = kS (List.replicate 4096 0)) (h2 : z2 = kS (List.replicate 4097 0)) (h : St W w emp) : St W (w.alloc (.cells (moreA z1 z2) 48 (0, 0))) (star (Row 48 5 (.slice (some ⟨w.heap.size, 0, none⟩) 11 11) 11 (moreR.flatMap mE)) emp) := by
  subst h1
  subst h2
  exact St.mkRow (size := 5) (n := 11) (cap := 11) (xs := moreR.flatMap mE) (h.alloc _) (Nat.le_refl _) (by unfold maxLen; omega) rfl rfl
def MC (mb i : Nat) (y : Rt × Int) (w : World) : Prop := w.cell? ⟨mb, i * 5, none⟩ = some (kS y.1.m) ∧ w.cell? ⟨mb, i * 5 + 1, none⟩ = some (kS y.1.p) ∧ w.cell? ⟨mb, i * 5 + 2, none⟩ = some (.int .i64 y.1.k) ∧ w.cell? ⟨mb, i * 5 + 3, none⟩ = some (kS y.1.t) ∧ w.cell? ⟨mb, i * 5 + 4, none⟩ = some (.int .i64 y.2)
theorem more_cells {w : World} {mb i : Nat} {y : Rt × Int} (h : Sl w 5 (.slice (some ⟨mb, 0, none⟩) 11 11) 11 (moreR.flatMap mE)) (hy : moreR[i]? = some y) : MC mb i y w := by
  obtain ⟨ab, ao, e, hc⟩ := sl_addr h (by rw [show (moreR.flatMap mE).length = 55 from rfl]; decide)
  cases e
  have hg := flatMap_get (E := mE) (size := 5) (fun _ => rfl) _ i _ hy
  have key : ∀ (j : Nat) (_ : j < 5) (u : Value), (mE y)[j]? = some u → w.cell? ⟨mb, i * 5 + j, none⟩ = some u := fun j hj u hu => by
    have := hc (i * 5 + j) u ((hg j hj).trans hu)
    rwa [Nat.zero_add] at this
  exact ⟨key 0 (by omega) _ rfl, key 1 (by omega) _ rfl, key 2 (by omega) _ rfl, key 3 (by omega) _ rfl, key 4 (by omega) _ rfl⟩
def asks2 (a6 a8 : Nat) : List (Qr × Value) := asks.zip [.slice none 0 0, .slice none 0 0, .slice none 0 0, .slice none 0 0, .slice none 0 0, .slice none 0 0, .slice (some ⟨a6, 0, none⟩) 1 1, .slice none 0 0, .slice (some ⟨a8, 0, none⟩) 1 1, .slice none 0 0, .slice none 0 0]
def qE (x : Qr × Value) : List Value := [kS x.1.m, kS x.1.p, kS x.1.b, .int .i64 x.1.c, x.2, kS x.1.t, .int .i64 x.1.k]
theorem asks2_some (a6 a8 i : Nat) (hi : i < 11) : ∃ y v, (asks2 a6 a8)[i]? = some (y, v) ∧ asks[i]? = some y := by

  rcases i with _ | i
  · exact ⟨_, _, rfl, rfl⟩
  rcases i with _ | i
  · exact ⟨_, _, rfl, rfl⟩
  rcases i with _ | i
  · exact ⟨_, _, rfl, rfl⟩
  rcases i with _ | i
  · exact ⟨_, _, rfl, rfl⟩
  rcases i with _ | i
  · exact ⟨_, _, rfl, rfl⟩
  rcases i with _ | i
  · exact ⟨_, _, rfl, rfl⟩
  rcases i with _ | i
  · exact ⟨_, _, rfl, rfl⟩
  rcases i with _ | i
  · exact ⟨_, _, rfl, rfl⟩
  rcases i with _ | i
  · exact ⟨_, _, rfl, rfl⟩
  rcases i with _ | i
  · exact ⟨_, _, rfl, rfl⟩
  rcases i with _ | i
  · exact ⟨_, _, rfl, rfl⟩
  omega
theorem asks2_sl {W w : World} {R : Asn} {a6 a8 : Nat} (h : St W w (star (Row 43 2 (.slice (some ⟨a6, 0, none⟩) 1 1) 1 (fldV [(tAllow, [71, 69, 84, 44, 32, 72, 69, 65, 68])])) (star (Row 43 2 (.slice (some ⟨a8, 0, none⟩) 1 1) 1 (fldV [(tAllow, [71, 69, 84, 44, 32, 72, 69, 65, 68, 44, 32, 80, 79, 83, 84])])) (R)))) (i : Nat) (y : Qr) (v : Value) (hy : (asks2 a6 a8)[i]? = some (y, v)) : ∃ a n c, v = .slice a n c ∧ y.f.length = n ∧ n ≤ 1 ∧ Sl w 2 (.slice a n c) n (fldV y.f) := by
  have h6 := h.rowSl
  have h8 := h.right.rowSl
  have h0 := (h.nilRow (e := 43) (size := 2)).rowSl
  rcases i with _ | i
  · cases hy; exact ⟨_, _, _, rfl, rfl, by decide, h0⟩
  rcases i with _ | i
  · cases hy; exact ⟨_, _, _, rfl, rfl, by decide, h0⟩
  rcases i with _ | i
  · cases hy; exact ⟨_, _, _, rfl, rfl, by decide, h0⟩
  rcases i with _ | i
  · cases hy; exact ⟨_, _, _, rfl, rfl, by decide, h0⟩
  rcases i with _ | i
  · cases hy; exact ⟨_, _, _, rfl, rfl, by decide, h0⟩
  rcases i with _ | i
  · cases hy; exact ⟨_, _, _, rfl, rfl, by decide, h0⟩
  rcases i with _ | i
  · cases hy; exact ⟨_, _, _, rfl, rfl, by decide, h6⟩
  rcases i with _ | i
  · cases hy; exact ⟨_, _, _, rfl, rfl, by decide, h0⟩
  rcases i with _ | i
  · cases hy; exact ⟨_, _, _, rfl, rfl, by decide, h8⟩
  rcases i with _ | i
  · cases hy; exact ⟨_, _, _, rfl, rfl, by decide, h0⟩
  rcases i with _ | i
  · cases hy; exact ⟨_, _, _, rfl, rfl, by decide, h0⟩
  cases hy
def AC (qb i : Nat) (y : Qr) (v : Value) (w : World) : Prop := w.cell? ⟨qb, i * 7, none⟩ = some (kS y.m) ∧ w.cell? ⟨qb, i * 7 + 1, none⟩ = some (kS y.p) ∧ w.cell? ⟨qb, i * 7 + 2, none⟩ = some (kS y.b) ∧ w.cell? ⟨qb, i * 7 + 3, none⟩ = some (.int .i64 y.c) ∧ w.cell? ⟨qb, i * 7 + 4, none⟩ = some v ∧ w.cell? ⟨qb, i * 7 + 5, none⟩ = some (kS y.t) ∧ w.cell? ⟨qb, i * 7 + 6, none⟩ = some (.int .i64 y.k)
theorem ask_cells {w : World} {qb a6 a8 i : Nat} {y : Qr} {v : Value} (h : Sl w 7 (.slice (some ⟨qb, 0, none⟩) 11 11) 11 ((asks2 a6 a8).flatMap qE)) (hy : (asks2 a6 a8)[i]? = some (y, v)) : AC qb i y v w := by
  obtain ⟨ab, ao, e, hc⟩ := sl_addr h (by show 0 < 77; decide)
  cases e
  have hg := flatMap_get (E := qE) (size := 7) (fun _ => rfl) _ i _ hy
  have key : ∀ (j : Nat) (_ : j < 7) (u : Value), (qE (y, v))[j]? = some u → w.cell? ⟨qb, i * 7 + j, none⟩ = some u := fun j hj u hu => by
    have := hc (i * 7 + j) u ((hg j hj).trans hu)
    rwa [Nat.zero_add] at this
  exact ⟨key 0 (by omega) _ rfl, key 1 (by omega) _ rfl, key 2 (by omega) _ rfl, key 3 (by omega) _ rfl, key 4 (by omega) _ rfl, key 5 (by omega) _ rfl, key 6 (by omega) _ rfl⟩
def tr10a : Tr := .plain 18 (.plain 19 (.plain 20 (.one 21 (.one 22 (.plain 23 (.done))))))
def tr10b : Tr := .one 17 (.plain 18 (.plain 19 (.plain 20 (.one 22 (.plain 23 (.done))))))
def tr11 : Tr := .plain 0 (.plain 1 (.plain 2 (.plain 3 (.plain 4 (.held 5 (.plain 6 (.plain 7 (.held 8 (.plain 9 (.plain 10 (.plain 11 (.plain 12 (.held 13 (.one 14 (.plain 15 (.plain 16 (.done)))))))))))))))))
def tr10 : Tr := .plain 0 (.plain 1 (.plain 2 (.plain 3 (.plain 4 (.held 5 (.plain 6 (.plain 7 (.plain 8 (.plain 9 (.held 10 (.plain 11 (.plain 12 (.plain 13 (.plain 14 (.held 15 (.plain 16 (.two 17 tr10a 21 tr10b)))))))))))))))))
def tr17a : Tr := .one 6 (.one 7 (.one 8 (.plain 9 (.plain 10 (.plain 11 (.plain 12 (.plain 13 (.done))))))))
def tr17b : Tr := .one 0 (.one 7 (.one 8 (.plain 9 (.plain 10 (.plain 11 (.plain 12 (.plain 13 (.done))))))))
def tr17 : Tr := .plain 1 (.plain 2 (.plain 3 (.plain 4 (.held 5 (.two 0 tr17a 6 tr17b)))))
set_option maxRecDepth 100000 in
set_option maxHeartbeats 64000000 in
theorem known_any {W : World} (hm : TrS.MaxLen W) : Calls Tryz.prog 6 #[] W (Law W emp) := by
  have HM := Lib.hid hm
  clear hm
  have HRo := Lib.hid (routes_any (St.start W))
  go_enter Tryz.func6, Tryz.ntmps6
  go_wp2_with fail
  refine HRo.out.mono ?_
  rintro e w1 ⟨rfl, h1⟩
  have HNw := Lib.hid (New_any _ 5 5 chap rfl (by decide) h1 h1.rowSl HM.out (fun r hr => by have := chap_len r hr; omega))
  clear HRo h1
  go_wp2_with fail
  refine HNw.out.mono ?_
  rintro e w2 (⟨hne, -, -⟩ | ⟨-, rp, rfl, h2⟩)
  · exact absurd (by unfold newN; rw [if_neg (by decide)]; exact chap_ok) hne
  have g0 : St W w2 (star (IsRt rp chap ces) (emp)) := (h2.eq (B := star (Row 40 4 (.slice (some ⟨W.heap.size, 0, none⟩) 5 5) 5 (rsV chap)) (star (IsRt rp chap ces) (emp))) (by show star (IsRt rp chap ces) _ = _; ac_rfl)).right
  clear HNw h2
  have H1 := Lib.hid (good_any 200 (⟨#[104, 111, 109, 101]⟩ : ByteArray) g0)
  clear g0
  go_wp2_with fail
  refine H1.out.mono ?_
  rintro e v1 ⟨rfl, g1⟩
  clear H1
  have H2 := Lib.hid (good_any 200 (⟨#[104, 111, 109, 101]⟩ : ByteArray) g1)
  clear g1
  go_wp2_with fail
  refine H2.out.mono ?_
  rintro e v2 ⟨rfl, g2⟩
  clear H2
  have H3 := Lib.hid (good_any 200 (⟨#[98]⟩ : ByteArray) g2)
  clear g2
  go_wp2_with fail
  refine H3.out.mono ?_
  rintro e v3 ⟨rfl, g3⟩
  clear H3
  have H4 := Lib.hid (good_any 200 (⟨#[120, 61, 122, 10]⟩ : ByteArray) g3)
  clear g3
  go_wp2_with fail
  refine H4.out.mono ?_
  rintro e v4 ⟨rfl, g4⟩
  clear H4
  have H5 := Lib.hid (good_any 200 (⟨#[120, 61, 122, 10]⟩ : ByteArray) g4)
  clear g4
  go_wp2_with fail
  refine H5.out.mono ?_
  rintro e v5 ⟨rfl, g5⟩
  clear H5
  have H6 := Lib.hid (good_any 200 (⟨#[104, 105]⟩ : ByteArray) g5)
  clear g5
  go_wp2_with fail
  refine H6.out.mono ?_
  rintro e v6 ⟨rfl, g6⟩
  clear H6
  have H7 := Lib.hid (no_any [71, 69, 84, 44, 32, 72, 69, 65, 68] (⟨#[71, 69, 84, 44, 32, 72, 69, 65, 68]⟩ : ByteArray) rfl g6)
  clear g6
  go_wp2_with fail
  refine H7.out.mono ?_
  rintro e v7 ⟨a6, rfl, g7⟩
  clear H7
  have H8 := Lib.hid (good_any 404 (⟨#[110, 111, 116, 32, 102, 111, 117, 110, 100]⟩ : ByteArray) g7)
  clear g7
  go_wp2_with fail
  refine H8.out.mono ?_
  rintro e v8 ⟨rfl, g8⟩
  clear H8
  have H9 := Lib.hid (no_any [71, 69, 84, 44, 32, 72, 69, 65, 68, 44, 32, 80, 79, 83, 84] (⟨#[71, 69, 84, 44, 32, 72, 69, 65, 68, 44, 32, 80, 79, 83, 84]⟩ : ByteArray) rfl g8)
  clear g8
  go_wp2_with fail
  refine H9.out.mono ?_
  rintro e v9 ⟨a8, rfl, g9⟩
  clear H9
  have H10 := Lib.hid (good_any 101 (⟨#[]⟩ : ByteArray) g9)
  clear g9
  go_wp2_with fail
  refine H10.out.mono ?_
  rintro e v10 ⟨rfl, g10⟩
  clear H10
  have H11 := Lib.hid (good_any 400 (⟨#[98, 97, 100, 32, 112, 97, 116, 104]⟩ : ByteArray) g10)
  clear g10
  go_wp2_with fail
  refine H11.out.mono ?_
  rintro e v11 ⟨rfl, g11⟩
  clear H11
  have gA := g11.alloc (.cells #[.string ⟨#[71, 69, 84]⟩, .string ⟨#[47]⟩, .string ⟨#[]⟩, .int .i64 200, .slice none 0 0, .string ⟨#[104, 111, 109, 101]⟩, .int .i64 1, .string ⟨#[72, 69, 65, 68]⟩, .string ⟨#[47]⟩, .string ⟨#[]⟩, .int .i64 200, .slice none 0 0, .string ⟨#[104, 111, 109, 101]⟩, .int .i64 1, .string ⟨#[71, 69, 84]⟩, .string ⟨#[47, 97, 47, 98]⟩, .string ⟨#[]⟩, .int .i64 200, .slice none 0 0, .string ⟨#[98]⟩, .int .i64 1, .string ⟨#[71, 69, 84]⟩, .string ⟨#[47, 97, 47, 122]⟩, .string ⟨#[]⟩, .int .i64 200, .slice none 0 0, .string ⟨#[120, 61, 122, 10]⟩, .int .i64 3, .string ⟨#[71, 69, 84]⟩, .string ⟨#[47, 97, 47, 37, 55, 97]⟩, .string ⟨#[]⟩, .int .i64 200, .slice none 0 0, .string ⟨#[120, 61, 122, 10]⟩, .int .i64 3, .string ⟨#[80, 79, 83, 84]⟩, .string ⟨#[47, 97, 47, 122]⟩, .string ⟨#[104, 105]⟩, .int .i64 200, .slice none 0 0, .string ⟨#[104, 105]⟩, .int .i64 2, .string ⟨#[80, 79, 83, 84]⟩, .string ⟨#[47, 97, 47, 98]⟩, .string ⟨#[]⟩, .int .i64 405, .slice (some ⟨a6, 0, none⟩) 1 1, .string ⟨#[110, 111, 32, 115, 117, 99, 104, 32, 109, 101, 116, 104, 111, 100]⟩, .int .i64 0, .string ⟨#[71, 69, 84]⟩, .string ⟨#[47, 113]⟩, .string ⟨#[]⟩, .int .i64 404, .slice none 0 0, .string ⟨#[110, 111, 116, 32, 102, 111, 117, 110, 100]⟩, .int .i64 0, .string ⟨#[80, 85, 84]⟩, .string ⟨#[47, 97, 47, 122]⟩, .string ⟨#[]⟩, .int .i64 405, .slice (some ⟨a8, 0, none⟩) 1 1, .string ⟨#[110, 111, 32, 115, 117, 99, 104, 32, 109, 101, 116, 104, 111, 100]⟩, .int .i64 0, .string ⟨#[71, 69, 84]⟩, .string ⟨#[47, 119, 115]⟩, .string ⟨#[]⟩, .int .i64 101, .slice none 0 0, .string ⟨#[]⟩, .int .i64 4, .string ⟨#[71, 69, 84]⟩, .string ⟨#[47, 37, 122, 122]⟩, .string ⟨#[]⟩, .int .i64 400, .slice none 0 0, .string ⟨#[98, 97, 100, 32, 112, 97, 116, 104]⟩, .int .i64 0] 46 (0, 0))
  obtain ⟨qb, hqb⟩ : ∃ z, v11.heap.size = z := ⟨_, rfl⟩
  rw [hqb] at gA
  clear g11
  go_upto_region 7 with fail
  clear hqb
  generalize v11.alloc (.cells #[.string ⟨#[71, 69, 84]⟩, .string ⟨#[47]⟩, .string ⟨#[]⟩, .int .i64 200, .slice none 0 0, .string ⟨#[104, 111, 109, 101]⟩, .int .i64 1, .string ⟨#[72, 69, 65, 68]⟩, .string ⟨#[47]⟩, .string ⟨#[]⟩, .int .i64 200, .slice none 0 0, .string ⟨#[104, 111, 109, 101]⟩, .int .i64 1, .string ⟨#[71, 69, 84]⟩, .string ⟨#[47, 97, 47, 98]⟩, .string ⟨#[]⟩, .int .i64 200, .slice none 0 0, .string ⟨#[98]⟩, .int .i64 1, .string ⟨#[71, 69, 84]⟩, .string ⟨#[47, 97, 47, 122]⟩, .string ⟨#[]⟩, .int .i64 200, .slice none 0 0, .string ⟨#[120, 61, 122, 10]⟩, .int .i64 3, .string ⟨#[71, 69, 84]⟩, .string ⟨#[47, 97, 47, 37, 55, 97]⟩, .string ⟨#[]⟩, .int .i64 200, .slice none 0 0, .string ⟨#[120, 61, 122, 10]⟩, .int .i64 3, .string ⟨#[80, 79, 83, 84]⟩, .string ⟨#[47, 97, 47, 122]⟩, .string ⟨#[104, 105]⟩, .int .i64 200, .slice none 0 0, .string ⟨#[104, 105]⟩, .int .i64 2, .string ⟨#[80, 79, 83, 84]⟩, .string ⟨#[47, 97, 47, 98]⟩, .string ⟨#[]⟩, .int .i64 405, .slice (some ⟨a6, 0, none⟩) 1 1, .string ⟨#[110, 111, 32, 115, 117, 99, 104, 32, 109, 101, 116, 104, 111, 100]⟩, .int .i64 0, .string ⟨#[71, 69, 84]⟩, .string ⟨#[47, 113]⟩, .string ⟨#[]⟩, .int .i64 404, .slice none 0 0, .string ⟨#[110, 111, 116, 32, 102, 111, 117, 110, 100]⟩, .int .i64 0, .string ⟨#[80, 85, 84]⟩, .string ⟨#[47, 97, 47, 122]⟩, .string ⟨#[]⟩, .int .i64 405, .slice (some ⟨a8, 0, none⟩) 1 1, .string ⟨#[110, 111, 32, 115, 117, 99, 104, 32, 109, 101, 116, 104, 111, 100]⟩, .int .i64 0, .string ⟨#[71, 69, 84]⟩, .string ⟨#[47, 119, 115]⟩, .string ⟨#[]⟩, .int .i64 101, .slice none 0 0, .string ⟨#[]⟩, .int .i64 4, .string ⟨#[71, 69, 84]⟩, .string ⟨#[47, 37, 122, 122]⟩, .string ⟨#[]⟩, .int .i64 400, .slice none 0 0, .string ⟨#[98, 97, 100, 32, 112, 97, 116, 104]⟩, .int .i64 0] 46 (0, 0)) = w3 at *
  have gB : St W w3 (star (Row 46 7 (.slice (some ⟨qb, 0, none⟩) 11 11) 11 ((asks2 a6 a8).flatMap qE)) (star (Row 43 2 (.slice (some ⟨a8, 0, none⟩) 1 1) 1 (fldV [(tAllow, [71, 69, 84, 44, 32, 72, 69, 65, 68, 44, 32, 80, 79, 83, 84])])) (star (Row 43 2 (.slice (some ⟨a6, 0, none⟩) 1 1) 1 (fldV [(tAllow, [71, 69, 84, 44, 32, 72, 69, 65, 68])])) (star (IsRt rp chap ces) (emp))))) := St.mkRow (size := 7) (n := 11) (cap := 11) (xs := (asks2 a6 a8).flatMap qE) gA (Nat.le_refl _) (by unfold maxLen; omega) rfl rfl
  have gC : St W w3 (star (Row 43 2 (.slice (some ⟨a6, 0, none⟩) 1 1) 1 (fldV [(tAllow, [71, 69, 84, 44, 32, 72, 69, 65, 68])])) (star (Row 43 2 (.slice (some ⟨a8, 0, none⟩) 1 1) 1 (fldV [(tAllow, [71, 69, 84, 44, 32, 72, 69, 65, 68, 44, 32, 80, 79, 83, 84])])) (star (Row 46 7 (.slice (some ⟨qb, 0, none⟩) 11 11) 11 ((asks2 a6 a8).flatMap qE)) (star (IsRt rp chap ces) (emp))))) := gB.eq (by ac_rfl)
  clear gA gB
  go_wp2_with fail
  go_loopw [6] (fun iv wr => ∃ i : Nat, i ≤ 11 ∧ iv = .int .i64 i ∧ St W wr (star (Row 43 2 (.slice (some ⟨a6, 0, none⟩) 1 1) 1 (fldV [(tAllow, [71, 69, 84, 44, 32, 72, 69, 65, 68])])) (star (Row 43 2 (.slice (some ⟨a8, 0, none⟩) 1 1) 1 (fldV [(tAllow, [71, 69, 84, 44, 32, 72, 69, 65, 68, 44, 32, 80, 79, 83, 84])])) (star (Row 46 7 (.slice (some ⟨qb, 0, none⟩) 11 11) 11 ((asks2 a6 a8).flatMap qE)) (star (IsRt rp chap ces) (emp)))))) (fun iv _ => 11 - (intOf iv).toNat)
  case atStart => exact ⟨0, by omega, rfl, gC⟩
  case round =>
    obtain ⟨i, hi, rfl, hS⟩ := hrel
    clear gC
    by_cases hin : i < 11
    · obtain ⟨y, v, hy, hya⟩ := asks2_some a6 a8 i hin
      have HOK := Lib.hid (asks_ok i y hya)
      obtain ⟨fa, fn, fc, rfl, hfn, hfn1, _⟩ := asks2_sl hS i y v hy
      have HSF := Lib.hid (fun w A (h : St W w (star (Row 43 2 (.slice (some ⟨a6, 0, none⟩) 1 1) 1 (fldV [(tAllow, [71, 69, 84, 44, 32, 72, 69, 65, 68])])) (star (Row 43 2 (.slice (some ⟨a8, 0, none⟩) 1 1) 1 (fldV [(tAllow, [71, 69, 84, 44, 32, 72, 69, 65, 68, 44, 32, 80, 79, 83, 84])])) (A)))) => asks2_sl h i y _ hy)
      have HC : Hid (∀ w A, St W w (star (Row 46 7 (.slice (some ⟨qb, 0, none⟩) 11 11) 11 ((asks2 a6 a8).flatMap qE)) (A)) → AC qb i y (.slice fa fn fc) w) := Lib.hid fun w A h => ask_cells h.rowSl hy
      have HFN := Lib.hid hfn
      have hinI : (i : Int) < 11 := by omega
      clear hy hya hfn
      go_upto_region 10 with fail
      obtain ⟨ym, yp, yb, yc, yf, yt, yk⟩ := y
      have hq := (hS.eq (B := star (Row 46 7 (.slice (some ⟨qb, 0, none⟩) 11 11) 11 ((asks2 a6 a8).flatMap qE)) (star (Row 43 2 (.slice (some ⟨a6, 0, none⟩) 1 1) 1 (fldV [(tAllow, [71, 69, 84, 44, 32, 72, 69, 65, 68])])) (star (Row 43 2 (.slice (some ⟨a8, 0, none⟩) 1 1) 1 (fldV [(tAllow, [71, 69, 84, 44, 32, 72, 69, 65, 68, 44, 32, 80, 79, 83, 84])])) (star (IsRt rp chap ces) (emp))))) (by ac_rfl)).drew
      clear hS
      refine Go.Proofs.YtlofiaaacepgmaaGreatDoor.Held.wp_region_held (AC qb i ⟨ym, yp, yb, yc, yf, yt, yk⟩ (.slice fa fn fc)) [] tr10 (by kernel_rfl) (by kernel_rfl) (HC.out _ _ hq) ?_
      generalize wr.drew = w4 at *
      unfold tr10
      refine tr_plain (.pointer (some ⟨rp, 0, none⟩)) rfl ?_ (by simp only [nthOp, Act.put, List.setIfInBounds_toArray, List.set_cons_succ, List.set_cons_zero]; rfl) ?_
      · exact fun _ => rfl
      refine tr_plain (.slice (some ⟨qb, 0, none⟩) 11 11) rfl ?_ (by simp only [nthOp, Act.put, List.setIfInBounds_toArray, List.set_cons_succ, List.set_cons_zero]; rfl) ?_
      · exact fun _ => rfl
      refine tr_plain (.int .i64 i) rfl ?_ (by simp only [nthOp, Act.put, List.setIfInBounds_toArray, List.set_cons_succ, List.set_cons_zero]; rfl) ?_
      · exact fun _ => rfl
      refine tr_plain (.pointer (some ⟨qb, i * 7, none⟩)) rfl ?_ (by simp only [nthOp, Act.put, List.setIfInBounds_toArray, List.set_cons_succ, List.set_cons_zero]; rfl) ?_
      · (intro w'; simp only [nthOp]; go_simp)
      refine tr_plain (.pointer (some ⟨qb, i * 7, none⟩)) rfl ?_ (by simp only [nthOp, Act.put, List.setIfInBounds_toArray, List.set_cons_succ, List.set_cons_zero]; rfl) ?_
      · (intro w'; simp only [nthOp]; go_simp)
      refine tr_held (kS ym) rfl ?_ (by simp only [nthOp, Act.put, List.setIfInBounds_toArray, List.set_cons_succ, List.set_cons_zero]; rfl) ?_
      · (rintro w' ⟨hc0, hc1, hc2, hc3, hc4, hc5, hc6⟩; simp only [nthOp]; go_simp)
      refine tr_plain (.slice (some ⟨qb, 0, none⟩) 11 11) rfl ?_ (by simp only [nthOp, Act.put, List.setIfInBounds_toArray, List.set_cons_succ, List.set_cons_zero]; rfl) ?_
      · exact fun _ => rfl
      refine tr_plain (.int .i64 i) rfl ?_ (by simp only [nthOp, Act.put, List.setIfInBounds_toArray, List.set_cons_succ, List.set_cons_zero]; rfl) ?_
      · exact fun _ => rfl
      refine tr_plain (.pointer (some ⟨qb, i * 7, none⟩)) rfl ?_ (by simp only [nthOp, Act.put, List.setIfInBounds_toArray, List.set_cons_succ, List.set_cons_zero]; rfl) ?_
      · (intro w'; simp only [nthOp]; go_simp)
      refine tr_plain (.pointer (some ⟨qb, i * 7 + 1, none⟩)) rfl ?_ (by simp only [nthOp, Act.put, List.setIfInBounds_toArray, List.set_cons_succ, List.set_cons_zero]; rfl) ?_
      · (intro w'; simp only [nthOp]; go_simp)
      refine tr_held (kS yp) rfl ?_ (by simp only [nthOp, Act.put, List.setIfInBounds_toArray, List.set_cons_succ, List.set_cons_zero]; rfl) ?_
      · (rintro w' ⟨hc0, hc1, hc2, hc3, hc4, hc5, hc6⟩; simp only [nthOp]; go_simp)
      refine tr_plain (.slice (some ⟨qb, 0, none⟩) 11 11) rfl ?_ (by simp only [nthOp, Act.put, List.setIfInBounds_toArray, List.set_cons_succ, List.set_cons_zero]; rfl) ?_
      · exact fun _ => rfl
      refine tr_plain (.int .i64 i) rfl ?_ (by simp only [nthOp, Act.put, List.setIfInBounds_toArray, List.set_cons_succ, List.set_cons_zero]; rfl) ?_
      · exact fun _ => rfl
      refine tr_plain (.pointer (some ⟨qb, i * 7, none⟩)) rfl ?_ (by simp only [nthOp, Act.put, List.setIfInBounds_toArray, List.set_cons_succ, List.set_cons_zero]; rfl) ?_
      · (intro w'; simp only [nthOp]; go_simp)
      refine tr_plain (.pointer (some ⟨qb, i * 7 + 2, none⟩)) rfl ?_ (by simp only [nthOp, Act.put, List.setIfInBounds_toArray, List.set_cons_succ, List.set_cons_zero]; rfl) ?_
      · (intro w'; simp only [nthOp]; go_simp)
      refine tr_held (kS yb) rfl ?_ (by simp only [nthOp, Act.put, List.setIfInBounds_toArray, List.set_cons_succ, List.set_cons_zero]; rfl) ?_
      · (rintro w' ⟨hc0, hc1, hc2, hc3, hc4, hc5, hc6⟩; simp only [nthOp]; go_simp)
      refine tr_plain (.agg #[kS ym, kS yp, .string ⟨#[]⟩, .int .i64 0, .slice none 0 0, kS yb, .bool false]) rfl ?_ (by simp only [nthOp, Act.put, List.setIfInBounds_toArray, List.set_cons_succ, List.set_cons_zero]; rfl) ?_
      · (intro w'; simp only [nthOp]; go_simp)
      have HX : Hid (serveR ces ⟨ym, yp, yb⟩ = ((yc, yf, yt), yk)) := Lib.hid HOK.out.1
      have HXP : Hid (yp.length ≤ 300) := Lib.hid HOK.out.2
      have HSv := Lib.hid fun (w : World) (B : Asn) (h : St W w (star (IsRt rp chap ces) B)) => (Serve_any rp chap ces h chap_ri (by decide) chap_len HM.out (RtN.path_max HM.out) ym yp [] 0 none 0 0 yb false HXP.out).mono fun e w h => sv_any HX.out h
      refine tr_two ?_ ?_
      · have hs := hq.eq (B := star (IsRt rp chap ces) (star (Row 46 7 (.slice (some ⟨qb, 0, none⟩) 11 11) 11 ((asks2 a6 a8).flatMap qE)) (star (Row 43 2 (.slice (some ⟨a6, 0, none⟩) 1 1) 1 (fldV [(tAllow, [71, 69, 84, 44, 32, 72, 69, 65, 68])])) (star (Row 43 2 (.slice (some ⟨a8, 0, none⟩) 1 1) 1 (fldV [(tAllow, [71, 69, 84, 44, 32, 72, 69, 65, 68, 44, 32, 80, 79, 83, 84])])) (emp))))) (by ac_rfl)
        clear hq
        simp only [nthOp]
        go_wp2_with fail
        refine (HSv.out _ _ hs).mono ?_
        rintro e w5 ⟨ga, gn, gc, rfl, hgn, hs2⟩
        have HGN := Lib.hid hgn
        have hs3 := hs2.eq (B := star (Row 46 7 (.slice (some ⟨qb, 0, none⟩) 11 11) 11 ((asks2 a6 a8).flatMap qE)) (star (Row 43 2 (.slice ga gn gc) gn (fldV yf)) (star (IsRt rp chap ces) (star (Row 43 2 (.slice (some ⟨a6, 0, none⟩) 1 1) 1 (fldV [(tAllow, [71, 69, 84, 44, 32, 72, 69, 65, 68])])) (star (Row 43 2 (.slice (some ⟨a8, 0, none⟩) 1 1) 1 (fldV [(tAllow, [71, 69, 84, 44, 32, 72, 69, 65, 68, 44, 32, 80, 79, 83, 84])])) (emp)))))) (by ac_rfl)
        clear hs hs2 hgn
        go_wp2_with fail
        simp only [Reg.Next]
        refine ⟨fun _ => HC.out _ _ hs3, ?_⟩
        unfold tr10a
        refine tr_plain (.tuple #[.agg #[.int .i64 yc, .slice ga gn gc, kS yt], .int .i64 yk]) rfl ?_ (by simp only [nthOp, Act.put, List.setIfInBounds_toArray, List.set_cons_succ, List.set_cons_zero]; rfl) ?_
        · exact fun _ => rfl
        refine tr_plain (.agg #[.int .i64 yc, .slice ga gn gc, kS yt]) rfl ?_ (by simp only [nthOp, Act.put, List.setIfInBounds_toArray, List.set_cons_succ, List.set_cons_zero]; rfl) ?_
        · (intro w'; simp only [nthOp]; go_simp)
        refine tr_plain (.int .i64 yk) rfl ?_ (by simp only [nthOp, Act.put, List.setIfInBounds_toArray, List.set_cons_succ, List.set_cons_zero]; rfl) ?_
        · (intro w'; simp only [nthOp]; go_simp)
        have h6 := hs3.alloc (.cells #[.int .i64 0, .slice none 0 0, .string ⟨#[]⟩] 29 (0, 0))
        obtain ⟨rb, hrb⟩ : ∃ z, w5.heap.size = z := ⟨_, rfl⟩
        rw [hrb] at h6
        clear hs3
        refine tr_one ?_
        simp only [nthOp]
        go_wp2_with fail
        simp only [Reg.Next]
        refine ⟨fun _ => HC.out _ _ h6.right, tr_one ?_⟩
        clear hrb
        generalize w5.alloc (.cells #[.int .i64 0, .slice none 0 0, .string ⟨#[]⟩] 29 (0, 0)) = w6 at *
        have k0 := h6.cell 0 (v := .int .i64 0) rfl
        have k1 := h6.cell 1 (v := .slice none 0 0) rfl
        have k2 := h6.cell 2 (v := .string ⟨#[]⟩) rfl
        have g0 := h6.free 0
        have g1 := h6.free 1
        have g2 := h6.free 2
        have hfA := h6.setCell 0 (.int .i64 yc)
        have hfB := hfA.setCell 1 (.slice ga gn gc)
        have hf := hfB.setCell 2 (kS yt)
        clear h6
        simp only [nthOp]
        go_wp2_with fail
        simp only [Reg.Next]
        refine ⟨fun _ => HC.out _ _ hf.right, ?_⟩
        refine tr_plain (.int .i64 yk) rfl ?_ (by simp only [nthOp, Act.put, List.setIfInBounds_toArray, List.set_cons_succ, List.set_cons_zero]; rfl) ?_
        · exact fun _ => rfl
        refine tr_done ?_
        have hf2 : St W _ (star (pt rb (.cells #[.int .i64 yc, .slice ga gn gc, kS yt] 29 (0, 0))) (star (Row 46 7 (.slice (some ⟨qb, 0, none⟩) 11 11) 11 ((asks2 a6 a8).flatMap qE)) (star (Row 43 2 (.slice ga gn gc) gn (fldV yf)) (star (IsRt rp chap ces) (star (Row 43 2 (.slice (some ⟨a6, 0, none⟩) 1 1) 1 (fldV [(tAllow, [71, 69, 84, 44, 32, 72, 69, 65, 68])])) (star (Row 43 2 (.slice (some ⟨a8, 0, none⟩) 1 1) 1 (fldV [(tAllow, [71, 69, 84, 44, 32, 72, 69, 65, 68, 44, 32, 80, 79, 83, 84])])) (emp))))))) := hf
        clear hfA hfB hf k0 k1 k2 g0 g1 g2
        go_upto_region 11 with fail
        have HC2 : Hid (∀ w A, St W w (star (pt rb (.cells #[.int .i64 yc, .slice ga gn gc, kS yt] 29 (0, 0))) (star (Row 46 7 (.slice (some ⟨qb, 0, none⟩) 11 11) 11 ((asks2 a6 a8).flatMap qE)) A)) → (AC qb i ⟨ym, yp, yb, yc, yf, yt, yk⟩ (.slice fa fn fc) w ∧ w.cell? ⟨rb, 0, none⟩ = some (.int .i64 yc) ∧ w.cell? ⟨rb, 1, none⟩ = some (.slice ga gn gc) ∧ w.cell? ⟨rb, 2, none⟩ = some (kS yt))) := Lib.hid fun w A h => ⟨HC.out _ _ h.right, h.cell 0 rfl, h.cell 1 rfl, h.cell 2 rfl⟩
        have hd := hf2.drew
        clear hf2
        refine wp_region_heldG (fun w => AC qb i ⟨ym, yp, yb, yc, yf, yt, yk⟩ (.slice fa fn fc) w ∧ w.cell? ⟨rb, 0, none⟩ = some (.int .i64 yc) ∧ w.cell? ⟨rb, 1, none⟩ = some (.slice ga gn gc) ∧ w.cell? ⟨rb, 2, none⟩ = some (kS yt)) [] tr11 (by kernel_rfl) (by kernel_rfl) (HC2.out _ _ hd) ?_
        generalize hw9 : World.drew _ = w9 at *
        clear hw9
        unfold tr11
        refine trG_plain (.int .i64 yk) rfl ?_ (by simp only [nthOp, Act.put, List.setIfInBounds_toArray, List.set_cons_succ, List.set_cons_zero]; rfl) ?_
        · exact fun _ => rfl
        refine trG_plain (.slice (some ⟨qb, 0, none⟩) 11 11) rfl ?_ (by simp only [nthOp, Act.put, List.setIfInBounds_toArray, List.set_cons_succ, List.set_cons_zero]; rfl) ?_
        · exact fun _ => rfl
        refine trG_plain (.int .i64 i) rfl ?_ (by simp only [nthOp, Act.put, List.setIfInBounds_toArray, List.set_cons_succ, List.set_cons_zero]; rfl) ?_
        · exact fun _ => rfl
        refine trG_plain (.pointer (some ⟨qb, i * 7, none⟩)) rfl ?_ (by simp only [nthOp, Act.put, List.setIfInBounds_toArray, List.set_cons_succ, List.set_cons_zero]; rfl) ?_
        · (intro w'; simp only [nthOp]; go_simp)
        refine trG_plain (.pointer (some ⟨qb, i * 7 + 6, none⟩)) rfl ?_ (by simp only [nthOp, Act.put, List.setIfInBounds_toArray, List.set_cons_succ, List.set_cons_zero]; rfl) ?_
        · (intro w'; simp only [nthOp]; go_simp)
        refine trG_held (.int .i64 yk) rfl ?_ (by simp only [nthOp, Act.put, List.setIfInBounds_toArray, List.set_cons_succ, List.set_cons_zero]; rfl) ?_
        · (rintro w' ⟨⟨hc0, hc1, hc2, hc3, hc4, hc5, hc6⟩, hr0, hr1, hr2⟩; simp only [nthOp]; go_simp)
        refine trG_plain (.bool false) rfl ?_ (by simp only [nthOp, Act.put, List.setIfInBounds_toArray, List.set_cons_succ, List.set_cons_zero]; rfl) ?_
        · (intro w'; simp only [nthOp]; go_simp)
        refine trG_plain (.bool false) rfl ?_ (by simp only [nthOp, Act.put, List.setIfInBounds_toArray, List.set_cons_succ, List.set_cons_zero]; rfl) ?_
        · exact fun _ => rfl
        refine trG_held (.agg #[.int .i64 yc, .slice ga gn gc, kS yt]) rfl ?_ (by simp only [nthOp, Act.put, List.setIfInBounds_toArray, List.set_cons_succ, List.set_cons_zero]; rfl) ?_
        · (rintro w' ⟨⟨hc0, hc1, hc2, hc3, hc4, hc5, hc6⟩, hr0, hr1, hr2⟩; simp only [nthOp]; go_simp)
        refine trG_plain (.slice (some ⟨qb, 0, none⟩) 11 11) rfl ?_ (by simp only [nthOp, Act.put, List.setIfInBounds_toArray, List.set_cons_succ, List.set_cons_zero]; rfl) ?_
        · exact fun _ => rfl
        refine trG_plain (.int .i64 i) rfl ?_ (by simp only [nthOp, Act.put, List.setIfInBounds_toArray, List.set_cons_succ, List.set_cons_zero]; rfl) ?_
        · exact fun _ => rfl
        refine trG_plain (.pointer (some ⟨qb, i * 7, none⟩)) rfl ?_ (by simp only [nthOp, Act.put, List.setIfInBounds_toArray, List.set_cons_succ, List.set_cons_zero]; rfl) ?_
        · (intro w'; simp only [nthOp]; go_simp)
        refine trG_plain (.pointer (some ⟨qb, i * 7 + 3, none⟩)) rfl ?_ (by simp only [nthOp, Act.put, List.setIfInBounds_toArray, List.set_cons_succ, List.set_cons_zero]; rfl) ?_
        · (intro w'; simp only [nthOp]; go_simp)
        refine trG_held (.agg #[.int .i64 yc, .slice fa fn fc, kS yt]) rfl ?_ (by simp only [nthOp, Act.put, List.setIfInBounds_toArray, List.set_cons_succ, List.set_cons_zero]; rfl) ?_
        · (rintro w' ⟨⟨hc0, hc1, hc2, hc3, hc4, hc5, hc6⟩, hr0, hr1, hr2⟩; simp only [nthOp]; go_simp)
        have hE := hd.eq (B := star (Row 43 2 (.slice ga gn gc) gn (fldV yf)) (star (pt rb (.cells #[.int .i64 yc, .slice ga gn gc, kS yt] 29 (0, 0))) (star (Row 46 7 (.slice (some ⟨qb, 0, none⟩) 11 11) 11 ((asks2 a6 a8).flatMap qE)) (star (IsRt rp chap ces) (star (Row 43 2 (.slice (some ⟨a6, 0, none⟩) 1 1) 1 (fldV [(tAllow, [71, 69, 84, 44, 32, 72, 69, 65, 68])])) (star (Row 43 2 (.slice (some ⟨a8, 0, none⟩) 1 1) 1 (fldV [(tAllow, [71, 69, 84, 44, 32, 72, 69, 65, 68, 44, 32, 80, 79, 83, 84])])) (emp))))))) (by ac_rfl)
        have hF := hd.eq (B := star (Row 43 2 (.slice (some ⟨a6, 0, none⟩) 1 1) 1 (fldV [(tAllow, [71, 69, 84, 44, 32, 72, 69, 65, 68])])) (star (Row 43 2 (.slice (some ⟨a8, 0, none⟩) 1 1) 1 (fldV [(tAllow, [71, 69, 84, 44, 32, 72, 69, 65, 68, 44, 32, 80, 79, 83, 84])])) (star (pt rb (.cells #[.int .i64 yc, .slice ga gn gc, kS yt] 29 (0, 0))) (star (Row 46 7 (.slice (some ⟨qb, 0, none⟩) 11 11) 11 ((asks2 a6 a8).flatMap qE)) (star (Row 43 2 (.slice ga gn gc) gn (fldV yf)) (star (IsRt rp chap ces) (emp))))))) (by ac_rfl)
        obtain ⟨fa9, fn9, fc9, he9, -, -, hsF⟩ := HSF.out _ _ hF
        cases he9
        have HSm := Lib.hid (Same_any _ yc ga gn gc yf yt yc fa fn fc yf yt HGN.out HFN.out (by have := HGN.out; have := HFN.out; omega) hE.rowSl hsF)
        rw [same_true] at HSm
        clear hE hF hsF
        refine trG_one ?_
        simp only [nthOp]
        go_wp2_with fail
        refine HSm.out.mono ?_
        rintro e wu hqu
        have h9 := hd.makes hqu
        obtain ⟨rfl, -⟩ := hqu
        clear HSm hd
        go_wp2_with fail
        simp only [Reg.Next]
        refine ⟨fun _ => HC2.out _ _ h9, ?_⟩
        refine trG_plain (.bool false) rfl ?_ (by simp only [nthOp, Act.put, List.setIfInBounds_toArray, List.set_cons_succ, List.set_cons_zero]; rfl) ?_
        · (intro w'; simp only [nthOp]; go_simp)
        refine trG_plain (.bool false) rfl ?_ (by simp only [nthOp, Act.put, List.setIfInBounds_toArray, List.set_cons_succ, List.set_cons_zero]; rfl) ?_
        · (intro w'; simp only [nthOp]; go_simp)
        refine trG_done ?_
        have hend : St W wu (star (Row 43 2 (.slice (some ⟨a6, 0, none⟩) 1 1) 1 (fldV [(tAllow, [71, 69, 84, 44, 32, 72, 69, 65, 68])])) (star (Row 43 2 (.slice (some ⟨a8, 0, none⟩) 1 1) 1 (fldV [(tAllow, [71, 69, 84, 44, 32, 72, 69, 65, 68, 44, 32, 80, 79, 83, 84])])) (star (Row 46 7 (.slice (some ⟨qb, 0, none⟩) 11 11) 11 ((asks2 a6 a8).flatMap qE)) (star (IsRt rp chap ces) (emp))))) := (h9.right.eq (B := star (Row 43 2 (.slice ga gn gc) gn (fldV yf)) (star (Row 43 2 (.slice (some ⟨a6, 0, none⟩) 1 1) 1 (fldV [(tAllow, [71, 69, 84, 44, 32, 72, 69, 65, 68])])) (star (Row 43 2 (.slice (some ⟨a8, 0, none⟩) 1 1) 1 (fldV [(tAllow, [71, 69, 84, 44, 32, 72, 69, 65, 68, 44, 32, 80, 79, 83, 84])])) (star (Row 46 7 (.slice (some ⟨qb, 0, none⟩) 11 11) 11 ((asks2 a6 a8).flatMap qE)) (star (IsRt rp chap ces) (emp)))))) (by ac_rfl)).right
        clear h9
        go_wp2_with fail
        exact ⟨⟨i + 1, hin, by go_num, hend⟩, by simp [intOf]; omega⟩
      · have h6 := hq.alloc (.cells #[.int .i64 0, .slice none 0 0, .string ⟨#[]⟩] 29 (0, 0))
        obtain ⟨rb, hrb⟩ : ∃ z, w4.heap.size = z := ⟨_, rfl⟩
        rw [hrb] at h6
        clear hq
        simp only [nthOp]
        go_wp2_with fail
        simp only [Reg.Next]
        refine ⟨HC.out _ _ h6.right, ?_⟩
        clear hrb
        generalize w4.alloc (.cells #[.int .i64 0, .slice none 0 0, .string ⟨#[]⟩] 29 (0, 0)) = w5 at *
        unfold tr10b
        have hs := h6.eq (B := star (IsRt rp chap ces) (star (pt rb (.cells #[.int .i64 0, .slice none 0 0, .string ⟨#[]⟩] 29 (0, 0))) (star (Row 46 7 (.slice (some ⟨qb, 0, none⟩) 11 11) 11 ((asks2 a6 a8).flatMap qE)) (star (Row 43 2 (.slice (some ⟨a6, 0, none⟩) 1 1) 1 (fldV [(tAllow, [71, 69, 84, 44, 32, 72, 69, 65, 68])])) (star (Row 43 2 (.slice (some ⟨a8, 0, none⟩) 1 1) 1 (fldV [(tAllow, [71, 69, 84, 44, 32, 72, 69, 65, 68, 44, 32, 80, 79, 83, 84])])) (emp)))))) (by ac_rfl)
        clear h6
        refine tr_one ?_
        simp only [nthOp]
        go_wp2_with fail
        refine (HSv.out _ _ hs).mono ?_
        rintro e w6 ⟨ga, gn, gc, rfl, hgn, hs2⟩
        have HGN := Lib.hid hgn
        have h6 := hs2.eq (B := star (pt rb (.cells #[.int .i64 0, .slice none 0 0, .string ⟨#[]⟩] 29 (0, 0))) (star (Row 46 7 (.slice (some ⟨qb, 0, none⟩) 11 11) 11 ((asks2 a6 a8).flatMap qE)) (star (Row 43 2 (.slice ga gn gc) gn (fldV yf)) (star (IsRt rp chap ces) (star (Row 43 2 (.slice (some ⟨a6, 0, none⟩) 1 1) 1 (fldV [(tAllow, [71, 69, 84, 44, 32, 72, 69, 65, 68])])) (star (Row 43 2 (.slice (some ⟨a8, 0, none⟩) 1 1) 1 (fldV [(tAllow, [71, 69, 84, 44, 32, 72, 69, 65, 68, 44, 32, 80, 79, 83, 84])])) (emp))))))) (by ac_rfl)
        clear hs hs2 hgn
        go_wp2_with fail
        simp only [Reg.Next]
        refine ⟨fun _ => HC.out _ _ h6.right, ?_⟩
        refine tr_plain (.tuple #[.agg #[.int .i64 yc, .slice ga gn gc, kS yt], .int .i64 yk]) rfl ?_ (by simp only [nthOp, Act.put, List.setIfInBounds_toArray, List.set_cons_succ, List.set_cons_zero]; rfl) ?_
        · exact fun _ => rfl
        refine tr_plain (.agg #[.int .i64 yc, .slice ga gn gc, kS yt]) rfl ?_ (by simp only [nthOp, Act.put, List.setIfInBounds_toArray, List.set_cons_succ, List.set_cons_zero]; rfl) ?_
        · (intro w'; simp only [nthOp]; go_simp)
        refine tr_plain (.int .i64 yk) rfl ?_ (by simp only [nthOp, Act.put, List.setIfInBounds_toArray, List.set_cons_succ, List.set_cons_zero]; rfl) ?_
        · (intro w'; simp only [nthOp]; go_simp)
        refine tr_one ?_
        have k0 := h6.cell 0 (v := .int .i64 0) rfl
        have k1 := h6.cell 1 (v := .slice none 0 0) rfl
        have k2 := h6.cell 2 (v := .string ⟨#[]⟩) rfl
        have g0 := h6.free 0
        have g1 := h6.free 1
        have g2 := h6.free 2
        have hfA := h6.setCell 0 (.int .i64 yc)
        have hfB := hfA.setCell 1 (.slice ga gn gc)
        have hf := hfB.setCell 2 (kS yt)
        clear h6
        simp only [nthOp]
        go_wp2_with fail
        simp only [Reg.Next]
        refine ⟨fun _ => HC.out _ _ hf.right, ?_⟩
        refine tr_plain (.int .i64 yk) rfl ?_ (by simp only [nthOp, Act.put, List.setIfInBounds_toArray, List.set_cons_succ, List.set_cons_zero]; rfl) ?_
        · exact fun _ => rfl
        refine tr_done ?_
        have hf2 : St W _ (star (pt rb (.cells #[.int .i64 yc, .slice ga gn gc, kS yt] 29 (0, 0))) (star (Row 46 7 (.slice (some ⟨qb, 0, none⟩) 11 11) 11 ((asks2 a6 a8).flatMap qE)) (star (Row 43 2 (.slice ga gn gc) gn (fldV yf)) (star (IsRt rp chap ces) (star (Row 43 2 (.slice (some ⟨a6, 0, none⟩) 1 1) 1 (fldV [(tAllow, [71, 69, 84, 44, 32, 72, 69, 65, 68])])) (star (Row 43 2 (.slice (some ⟨a8, 0, none⟩) 1 1) 1 (fldV [(tAllow, [71, 69, 84, 44, 32, 72, 69, 65, 68, 44, 32, 80, 79, 83, 84])])) (emp))))))) := hf
        clear hfA hfB hf k0 k1 k2 g0 g1 g2
        go_upto_region 11 with fail
        have HC2 : Hid (∀ w A, St W w (star (pt rb (.cells #[.int .i64 yc, .slice ga gn gc, kS yt] 29 (0, 0))) (star (Row 46 7 (.slice (some ⟨qb, 0, none⟩) 11 11) 11 ((asks2 a6 a8).flatMap qE)) A)) → (AC qb i ⟨ym, yp, yb, yc, yf, yt, yk⟩ (.slice fa fn fc) w ∧ w.cell? ⟨rb, 0, none⟩ = some (.int .i64 yc) ∧ w.cell? ⟨rb, 1, none⟩ = some (.slice ga gn gc) ∧ w.cell? ⟨rb, 2, none⟩ = some (kS yt))) := Lib.hid fun w A h => ⟨HC.out _ _ h.right, h.cell 0 rfl, h.cell 1 rfl, h.cell 2 rfl⟩
        have hd := hf2.drew
        clear hf2
        refine wp_region_heldG (fun w => AC qb i ⟨ym, yp, yb, yc, yf, yt, yk⟩ (.slice fa fn fc) w ∧ w.cell? ⟨rb, 0, none⟩ = some (.int .i64 yc) ∧ w.cell? ⟨rb, 1, none⟩ = some (.slice ga gn gc) ∧ w.cell? ⟨rb, 2, none⟩ = some (kS yt)) [] tr11 (by kernel_rfl) (by kernel_rfl) (HC2.out _ _ hd) ?_
        generalize hw9 : World.drew _ = w9 at *
        clear hw9
        unfold tr11
        refine trG_plain (.int .i64 yk) rfl ?_ (by simp only [nthOp, Act.put, List.setIfInBounds_toArray, List.set_cons_succ, List.set_cons_zero]; rfl) ?_
        · exact fun _ => rfl
        refine trG_plain (.slice (some ⟨qb, 0, none⟩) 11 11) rfl ?_ (by simp only [nthOp, Act.put, List.setIfInBounds_toArray, List.set_cons_succ, List.set_cons_zero]; rfl) ?_
        · exact fun _ => rfl
        refine trG_plain (.int .i64 i) rfl ?_ (by simp only [nthOp, Act.put, List.setIfInBounds_toArray, List.set_cons_succ, List.set_cons_zero]; rfl) ?_
        · exact fun _ => rfl
        refine trG_plain (.pointer (some ⟨qb, i * 7, none⟩)) rfl ?_ (by simp only [nthOp, Act.put, List.setIfInBounds_toArray, List.set_cons_succ, List.set_cons_zero]; rfl) ?_
        · (intro w'; simp only [nthOp]; go_simp)
        refine trG_plain (.pointer (some ⟨qb, i * 7 + 6, none⟩)) rfl ?_ (by simp only [nthOp, Act.put, List.setIfInBounds_toArray, List.set_cons_succ, List.set_cons_zero]; rfl) ?_
        · (intro w'; simp only [nthOp]; go_simp)
        refine trG_held (.int .i64 yk) rfl ?_ (by simp only [nthOp, Act.put, List.setIfInBounds_toArray, List.set_cons_succ, List.set_cons_zero]; rfl) ?_
        · (rintro w' ⟨⟨hc0, hc1, hc2, hc3, hc4, hc5, hc6⟩, hr0, hr1, hr2⟩; simp only [nthOp]; go_simp)
        refine trG_plain (.bool false) rfl ?_ (by simp only [nthOp, Act.put, List.setIfInBounds_toArray, List.set_cons_succ, List.set_cons_zero]; rfl) ?_
        · (intro w'; simp only [nthOp]; go_simp)
        refine trG_plain (.bool false) rfl ?_ (by simp only [nthOp, Act.put, List.setIfInBounds_toArray, List.set_cons_succ, List.set_cons_zero]; rfl) ?_
        · exact fun _ => rfl
        refine trG_held (.agg #[.int .i64 yc, .slice ga gn gc, kS yt]) rfl ?_ (by simp only [nthOp, Act.put, List.setIfInBounds_toArray, List.set_cons_succ, List.set_cons_zero]; rfl) ?_
        · (rintro w' ⟨⟨hc0, hc1, hc2, hc3, hc4, hc5, hc6⟩, hr0, hr1, hr2⟩; simp only [nthOp]; go_simp)
        refine trG_plain (.slice (some ⟨qb, 0, none⟩) 11 11) rfl ?_ (by simp only [nthOp, Act.put, List.setIfInBounds_toArray, List.set_cons_succ, List.set_cons_zero]; rfl) ?_
        · exact fun _ => rfl
        refine trG_plain (.int .i64 i) rfl ?_ (by simp only [nthOp, Act.put, List.setIfInBounds_toArray, List.set_cons_succ, List.set_cons_zero]; rfl) ?_
        · exact fun _ => rfl
        refine trG_plain (.pointer (some ⟨qb, i * 7, none⟩)) rfl ?_ (by simp only [nthOp, Act.put, List.setIfInBounds_toArray, List.set_cons_succ, List.set_cons_zero]; rfl) ?_
        · (intro w'; simp only [nthOp]; go_simp)
        refine trG_plain (.pointer (some ⟨qb, i * 7 + 3, none⟩)) rfl ?_ (by simp only [nthOp, Act.put, List.setIfInBounds_toArray, List.set_cons_succ, List.set_cons_zero]; rfl) ?_
        · (intro w'; simp only [nthOp]; go_simp)
        refine trG_held (.agg #[.int .i64 yc, .slice fa fn fc, kS yt]) rfl ?_ (by simp only [nthOp, Act.put, List.setIfInBounds_toArray, List.set_cons_succ, List.set_cons_zero]; rfl) ?_
        · (rintro w' ⟨⟨hc0, hc1, hc2, hc3, hc4, hc5, hc6⟩, hr0, hr1, hr2⟩; simp only [nthOp]; go_simp)
        have hE := hd.eq (B := star (Row 43 2 (.slice ga gn gc) gn (fldV yf)) (star (pt rb (.cells #[.int .i64 yc, .slice ga gn gc, kS yt] 29 (0, 0))) (star (Row 46 7 (.slice (some ⟨qb, 0, none⟩) 11 11) 11 ((asks2 a6 a8).flatMap qE)) (star (IsRt rp chap ces) (star (Row 43 2 (.slice (some ⟨a6, 0, none⟩) 1 1) 1 (fldV [(tAllow, [71, 69, 84, 44, 32, 72, 69, 65, 68])])) (star (Row 43 2 (.slice (some ⟨a8, 0, none⟩) 1 1) 1 (fldV [(tAllow, [71, 69, 84, 44, 32, 72, 69, 65, 68, 44, 32, 80, 79, 83, 84])])) (emp))))))) (by ac_rfl)
        have hF := hd.eq (B := star (Row 43 2 (.slice (some ⟨a6, 0, none⟩) 1 1) 1 (fldV [(tAllow, [71, 69, 84, 44, 32, 72, 69, 65, 68])])) (star (Row 43 2 (.slice (some ⟨a8, 0, none⟩) 1 1) 1 (fldV [(tAllow, [71, 69, 84, 44, 32, 72, 69, 65, 68, 44, 32, 80, 79, 83, 84])])) (star (pt rb (.cells #[.int .i64 yc, .slice ga gn gc, kS yt] 29 (0, 0))) (star (Row 46 7 (.slice (some ⟨qb, 0, none⟩) 11 11) 11 ((asks2 a6 a8).flatMap qE)) (star (Row 43 2 (.slice ga gn gc) gn (fldV yf)) (star (IsRt rp chap ces) (emp))))))) (by ac_rfl)
        obtain ⟨fa9, fn9, fc9, he9, -, -, hsF⟩ := HSF.out _ _ hF
        cases he9
        have HSm := Lib.hid (Same_any _ yc ga gn gc yf yt yc fa fn fc yf yt HGN.out HFN.out (by have := HGN.out; have := HFN.out; omega) hE.rowSl hsF)
        rw [same_true] at HSm
        clear hE hF hsF
        refine trG_one ?_
        simp only [nthOp]
        go_wp2_with fail
        refine HSm.out.mono ?_
        rintro e wu hqu
        have h9 := hd.makes hqu
        obtain ⟨rfl, -⟩ := hqu
        clear HSm hd
        go_wp2_with fail
        simp only [Reg.Next]
        refine ⟨fun _ => HC2.out _ _ h9, ?_⟩
        refine trG_plain (.bool false) rfl ?_ (by simp only [nthOp, Act.put, List.setIfInBounds_toArray, List.set_cons_succ, List.set_cons_zero]; rfl) ?_
        · (intro w'; simp only [nthOp]; go_simp)
        refine trG_plain (.bool false) rfl ?_ (by simp only [nthOp, Act.put, List.setIfInBounds_toArray, List.set_cons_succ, List.set_cons_zero]; rfl) ?_
        · (intro w'; simp only [nthOp]; go_simp)
        refine trG_done ?_
        have hend : St W wu (star (Row 43 2 (.slice (some ⟨a6, 0, none⟩) 1 1) 1 (fldV [(tAllow, [71, 69, 84, 44, 32, 72, 69, 65, 68])])) (star (Row 43 2 (.slice (some ⟨a8, 0, none⟩) 1 1) 1 (fldV [(tAllow, [71, 69, 84, 44, 32, 72, 69, 65, 68, 44, 32, 80, 79, 83, 84])])) (star (Row 46 7 (.slice (some ⟨qb, 0, none⟩) 11 11) 11 ((asks2 a6 a8).flatMap qE)) (star (IsRt rp chap ces) (emp))))) := (h9.right.eq (B := star (Row 43 2 (.slice ga gn gc) gn (fldV yf)) (star (Row 43 2 (.slice (some ⟨a6, 0, none⟩) 1 1) 1 (fldV [(tAllow, [71, 69, 84, 44, 32, 72, 69, 65, 68])])) (star (Row 43 2 (.slice (some ⟨a8, 0, none⟩) 1 1) 1 (fldV [(tAllow, [71, 69, 84, 44, 32, 72, 69, 65, 68, 44, 32, 80, 79, 83, 84])])) (star (Row 46 7 (.slice (some ⟨qb, 0, none⟩) 11 11) 11 ((asks2 a6 a8).flatMap qE)) (star (IsRt rp chap ces) (emp)))))) (by ac_rfl)).right
        clear h9
        go_wp2_with fail
        exact ⟨⟨i + 1, hin, by go_num, hend⟩, by simp [intOf]; omega⟩
    · obtain rfl : i = 11 := by omega
      have hf := fin hS
      clear hS hin hi
      go_upto_region 13 with fail
      obtain ⟨hb, hhb⟩ : ∃ z, wr.heap.size = z := ⟨_, rfl⟩
      have hmk1 : ∀ w, (Instr.makeSlice 49 (.int .i64 4096) (.int .i64 4096)).run Tryz.prog w = .ok (.slice (some ⟨w.heap.size, 0, none⟩) 4096 4096) (w.alloc (ZB 4096)) := mk_run 4096 (by omega)
      have hmk2 : ∀ w, (Instr.makeSlice 49 (.int .i64 4097) (.int .i64 4097)).run Tryz.prog w = .ok (.slice (some ⟨w.heap.size, 0, none⟩) 4097 4097) (w.alloc (ZB 4097)) := mk_run 4097 (by omega)
      obtain ⟨Z1, hZ1⟩ : ∃ z, ZB 4096 = z := ⟨_, rfl⟩
      obtain ⟨Z2, hZ2⟩ : ∃ z, ZB 4097 = z := ⟨_, rfl⟩
      obtain ⟨z1, hz1⟩ : ∃ z : ByteArray, kS (List.replicate 4096 0) = .string z := ⟨_, rfl⟩
      obtain ⟨z2, hz2⟩ : ∃ z : ByteArray, kS (List.replicate 4097 0) = .string z := ⟨_, rfl⟩
      have HZ1 := Lib.hid hz1
      have HZ2 := Lib.hid hz2
      clear hz1 hz2
      have hA1 := hf.alloc (ZB 4096)
      have hA2 := hA1.alloc (ZB 4097)
      have hB1 := hf.alloc (ZB 4097)
      have hB2 := hB1.alloc (ZB 4096)
      have e1 : ∀ z, (wr.alloc z).heap.size = hb + 1 := fun z => by rw [World.size_alloc, hhb]
      rw [e1, hhb] at hA2 hB2
      rw [hhb] at hA1 hB1
      have cA1 : (convert 49 9 (.slice (some ⟨hb, 0, none⟩) 4096 4096)).run Tryz.prog (World.drew (wr.alloc (ZB 4096))) = .ok (.string z1) (World.drew (wr.alloc (ZB 4096))) := by rw [← HZ1.out]; exact zero_str _ _ (by unfold maxLen; omega) (St.drew (hA1))
      have cA2 : (convert 49 9 (.slice (some ⟨hb, 0, none⟩) 4096 4096)).run Tryz.prog (World.drew ((wr.alloc (ZB 4096)).alloc (ZB 4097))) = .ok (.string z1) (World.drew ((wr.alloc (ZB 4096)).alloc (ZB 4097))) := by rw [← HZ1.out]; exact zero_str _ _ (by unfold maxLen; omega) (St.drew (hA2.right))
      have cA3 : (convert 49 9 (.slice (some ⟨hb + 1, 0, none⟩) 4097 4097)).run Tryz.prog (World.drew ((wr.alloc (ZB 4096)).alloc (ZB 4097))) = .ok (.string z2) (World.drew ((wr.alloc (ZB 4096)).alloc (ZB 4097))) := by rw [← HZ2.out]; exact zero_str _ _ (by unfold maxLen; omega) (St.drew (hA2))
      have cB1 : (convert 49 9 (.slice (some ⟨hb, 0, none⟩) 4097 4097)).run Tryz.prog (World.drew (wr.alloc (ZB 4097))) = .ok (.string z2) (World.drew (wr.alloc (ZB 4097))) := by rw [← HZ2.out]; exact zero_str _ _ (by unfold maxLen; omega) (St.drew (hB1))
      have cB2 : (convert 49 9 (.slice (some ⟨hb, 0, none⟩) 4097 4097)).run Tryz.prog (World.drew ((wr.alloc (ZB 4097)).alloc (ZB 4096))) = .ok (.string z2) (World.drew ((wr.alloc (ZB 4097)).alloc (ZB 4096))) := by rw [← HZ2.out]; exact zero_str _ _ (by unfold maxLen; omega) (St.drew (hB2.right))
      have cB3 : (convert 49 9 (.slice (some ⟨hb + 1, 0, none⟩) 4096 4096)).run Tryz.prog (World.drew ((wr.alloc (ZB 4097)).alloc (ZB 4096))) = .ok (.string z1) (World.drew ((wr.alloc (ZB 4097)).alloc (ZB 4096))) := by rw [← HZ1.out]; exact zero_str _ _ (by unfold maxLen; omega) (St.drew (hB2))
      rw [hZ1] at hmk1 hA2 hB2 cA1 cA2 cA3 cB2 cB3
      rw [hZ2] at hmk2 hA2 hB2 cA2 cA3 cB1 cB2 cB3
      have mA := more_row (.string z1) (.string z2) HZ1.out.symm HZ2.out.symm (fin hA2)
      have mB := more_row (.string z1) (.string z2) HZ1.out.symm HZ2.out.symm (fin hB2)
      have e2 : ((wr.alloc Z1).alloc Z2).heap.size = hb + 1 + 1 := by rw [World.size_alloc, e1]
      have e3 : ((wr.alloc Z2).alloc Z1).heap.size = hb + 1 + 1 := by rw [World.size_alloc, e1]
      rw [e2] at mA
      rw [e3] at mB
      unfold moreA at mA mB
      have HmA := Lib.hid mA
      have HmB := Lib.hid mB
      clear mA mB e1 e2 e3 hA1 hA2 hB1 hB2 hf hZ1 hZ2
      go_cut [9] from 104 to 130 (fun s wx => ∃ mb, s = .slice (some ⟨mb, 0, none⟩) 11 11 ∧ St W wx (star (Row 48 5 (.slice (some ⟨mb, 0, none⟩) 11 11) 11 (moreR.flatMap mE)) (emp)))
      case first =>
        go_big_region
        all_goals (go_wp2_with fail; go_meet; exact ⟨_, rfl, (by first | exact HmA.out.drew | exact HmB.out.drew | exact HmA.out | exact HmB.out)⟩)
      case rest =>
        obtain ⟨mb, rfl, h1⟩ := hcut
        clear HmA HmB HZ1 HZ2 hmk1 hmk2 cA1 cA2 cA3 cB1 cB2 cB3 hhb
        go_wp2_with fail
        go_loopw [10] (fun iv wy => ∃ i : Nat, i ≤ 11 ∧ iv = .int .i64 i ∧ St W wy (star (Row 48 5 (.slice (some ⟨mb, 0, none⟩) 11 11) 11 (moreR.flatMap mE)) (emp))) (fun iv _ => 11 - (intOf iv).toNat)
        case atStart => exact ⟨0, by omega, rfl, h1⟩
        case round =>
          obtain ⟨i, hi, rfl, hS⟩ := hrel
          clear h1
          by_cases hin : i < 11
          · obtain ⟨y, hy⟩ : ∃ y, moreR[i]? = some y := ⟨_, List.getElem?_eq_getElem hin⟩
            have HOK := Lib.hid (more_ok i y hy)
            have HC : Hid (∀ w A, St W w (star (Row 48 5 (.slice (some ⟨mb, 0, none⟩) 11 11) 11 (moreR.flatMap mE)) A) → MC mb i y w) := Lib.hid fun w A h => more_cells h.rowSl hy
            have hinI : (i : Int) < 11 := by omega
            clear hy
            obtain ⟨⟨ym, yp, yk, yt⟩, ye⟩ := y
            go_upto_region 17 with fail
            have hq := hS.drew
            clear hS
            refine Go.Proofs.YtlofiaaacepgmaaGreatDoor.Held.wp_region_held (MC mb i (⟨ym, yp, yk, yt⟩, ye)) [] tr17 (by kernel_rfl) (by kernel_rfl) (HC.out _ _ hq) ?_
            generalize wr.drew = w4 at *
            unfold tr17
            refine tr_plain (.slice (some ⟨mb, 0, none⟩) 11 11) rfl ?_ (by simp only [nthOp, Act.put, List.setIfInBounds_toArray, List.set_cons_succ, List.set_cons_zero]; rfl) ?_
            · exact fun _ => rfl
            refine tr_plain (.int .i64 i) rfl ?_ (by simp only [nthOp, Act.put, List.setIfInBounds_toArray, List.set_cons_succ, List.set_cons_zero]; rfl) ?_
            · exact fun _ => rfl
            refine tr_plain (.pointer (some ⟨mb, i * 5, none⟩)) rfl ?_ (by simp only [nthOp, Act.put, List.setIfInBounds_toArray, List.set_cons_succ, List.set_cons_zero]; rfl) ?_
            · (intro w'; simp only [nthOp]; go_simp)
            refine tr_plain (.pointer (some ⟨mb, i * 5, none⟩)) rfl ?_ (by simp only [nthOp, Act.put, List.setIfInBounds_toArray, List.set_cons_succ, List.set_cons_zero]; rfl) ?_
            · (intro w'; simp only [nthOp]; go_simp)
            refine tr_held (.agg #[kS ym, kS yp, .int .i64 yk, kS yt]) rfl ?_ (by simp only [nthOp, Act.put, List.setIfInBounds_toArray, List.set_cons_succ, List.set_cons_zero]; rfl) ?_
            · (rintro w' ⟨hc0, hc1, hc2, hc3, hc4⟩; simp only [nthOp]; go_simp)
            refine tr_two ?_ ?_
            · have HRo := Lib.hid (routes_any hq)
              simp only [nthOp]
              go_wp2_with fail
              refine HRo.out.mono ?_
              rintro e w5 ⟨rfl, hs⟩
              obtain ⟨rb, hrb⟩ : ∃ z, w4.heap.size = z := ⟨_, rfl⟩
              rw [hrb] at hs ⊢
              have hs3 := hs.swap
              clear HRo hrb hq hs
              go_wp2_with fail
              simp only [Reg.Next]
              refine ⟨fun _ => HC.out _ _ hs3, ?_⟩
              unfold tr17a
              have h6 := hs3.alloc (.cells #[kS ym, kS yp, .int .i64 yk, kS yt] 40 (0, 0))
              obtain ⟨sb, hsb⟩ : ∃ z, w5.heap.size = z := ⟨_, rfl⟩
              rw [hsb] at h6
              refine tr_one ?_
              simp only [nthOp]
              go_wp2_with fail
              simp only [Reg.Next]
              refine ⟨fun _ => HC.out _ _ h6.right, ?_⟩
              clear hs3 hsb
              generalize w5.alloc (.cells #[kS ym, kS yp, .int .i64 yk, kS yt] 40 (0, 0)) = w6 at *
              have h7 := St.mkRow (size := 4) (n := 1) (cap := 1) (xs := rsV [⟨ym, yp, yk, yt⟩]) h6 (Nat.le_refl _) (by unfold maxLen; omega) rfl rfl
              have h8 := h7.eq (B := star (Row 40 4 (.slice (some ⟨rb, 0, none⟩) 5 5) 5 (rsV chap)) (star (Row 48 5 (.slice (some ⟨mb, 0, none⟩) 11 11) 11 (moreR.flatMap mE)) (star (Row 40 4 (.slice (some ⟨sb, 0, none⟩) 1 1) 1 (rsV [⟨ym, yp, yk, yt⟩])) (emp)))) (by ac_rfl)
              have hone := h7.rowSl
              clear h6 h7
              refine tr_one ?_
              obtain ⟨i0, hi0, hz0, hz1, hz2⟩ := info_parts infoR
              simp only [nthOp]
              go_wp2_with (at_builtin; refine wpList_append_Sl rfl (.tmp 138) (.tmp 144) 33 rfl 40 i0 zR 4 56 Tryz.underlying33 hi0 hz0 hz1 hz2 rfl _ 5 (rsV chap) rfl h8 _ 1 (rsV [⟨ym, yp, yk, yt⟩]) rfl hone (rsV_one _) (by unfold maxLen; omega) (by omega) ?_; intro v7 w7 k7 _)
              clear h8 hone hi0 hz0 hz1 hz2
              simp only [Reg.Next]
              refine ⟨HC.out _ _ k7.right, ?_⟩
              have hsl := k7.rowSl
              rw [← rsV_append] at hsl
              obtain ⟨a7, c7, rfl⟩ : ∃ a c, v7 = .slice a 6 c := by obtain ⟨_, a, c, hv, _⟩ := hsl; exact ⟨a, c, hv⟩
              have HNw := Lib.hid (New_any a7 6 c7 (chap ++ [⟨ym, yp, yk, yt⟩]) rfl (by omega) k7.right hsl HM.out (fun r hr => by
                rcases List.mem_append.1 hr with h | h
                · have := chap_len r h; omega
                · have h1 := HOK.out.2
                  rw [List.mem_singleton.1 h]
                  dsimp only at h1 ⊢
                  omega))
              clear hsl k7
              refine tr_one ?_
              simp only [nthOp]
              go_wp2_with fail
              refine HNw.out.mono ?_
              have HE : Hid (newN (chap ++ [⟨ym, yp, yk, yt⟩]) = ye) := Lib.hid HOK.out.1
              rintro e w8 (⟨-, he, h9⟩ | ⟨hne, rp, he, h9⟩)
              · rw [HE.out] at he
                subst he
                have hend := fin2 (h9)
                have hc := HC.out _ _ (h9)
                clear h9 HNw
                go_wp2_with fail
                simp only [Reg.Next]
                refine ⟨fun _ => hc, ?_⟩
                refine tr_plain (.tuple #[.pointer none, .int .i64 ye]) rfl ?_ (by simp only [nthOp, Act.put, List.setIfInBounds_toArray, List.set_cons_succ, List.set_cons_zero]; rfl) ?_
                · exact fun _ => rfl
                refine tr_plain (.pointer none) rfl ?_ (by simp only [nthOp, Act.put, List.setIfInBounds_toArray, List.set_cons_succ, List.set_cons_zero]; rfl) ?_
                · (intro w'; simp only [nthOp]; go_simp)
                refine tr_plain (.int .i64 ye) rfl ?_ (by simp only [nthOp, Act.put, List.setIfInBounds_toArray, List.set_cons_succ, List.set_cons_zero]; rfl) ?_
                · (intro w'; simp only [nthOp]; go_simp)
                refine tr_plain (.pointer none) rfl ?_ (by simp only [nthOp, Act.put, List.setIfInBounds_toArray, List.set_cons_succ, List.set_cons_zero]; rfl) ?_
                · exact fun _ => rfl
                refine tr_plain (.int .i64 ye) rfl ?_ (by simp only [nthOp, Act.put, List.setIfInBounds_toArray, List.set_cons_succ, List.set_cons_zero]; rfl) ?_
                · exact fun _ => rfl
                refine tr_done ?_
                obtain ⟨-, -, -, -, c4⟩ := hc
                go_wp2_with fail
                exact ⟨⟨i + 1, hin, by omega⟩, by simp [intOf]; omega⟩
              · obtain rfl : ye = 0 := by rw [← HE.out]; exact hne
                subst he
                have hend := fin2 (h9.right)
                have hc := HC.out _ _ (h9.right)
                clear h9 HNw
                go_wp2_with fail
                simp only [Reg.Next]
                refine ⟨fun _ => hc, ?_⟩
                refine tr_plain (.tuple #[.pointer (some ⟨rp, 0, none⟩), .int .i64 0]) rfl ?_ (by simp only [nthOp, Act.put, List.setIfInBounds_toArray, List.set_cons_succ, List.set_cons_zero]; rfl) ?_
                · exact fun _ => rfl
                refine tr_plain (.pointer (some ⟨rp, 0, none⟩)) rfl ?_ (by simp only [nthOp, Act.put, List.setIfInBounds_toArray, List.set_cons_succ, List.set_cons_zero]; rfl) ?_
                · (intro w'; simp only [nthOp]; go_simp)
                refine tr_plain (.int .i64 0) rfl ?_ (by simp only [nthOp, Act.put, List.setIfInBounds_toArray, List.set_cons_succ, List.set_cons_zero]; rfl) ?_
                · (intro w'; simp only [nthOp]; go_simp)
                refine tr_plain (.pointer (some ⟨rp, 0, none⟩)) rfl ?_ (by simp only [nthOp, Act.put, List.setIfInBounds_toArray, List.set_cons_succ, List.set_cons_zero]; rfl) ?_
                · exact fun _ => rfl
                refine tr_plain (.int .i64 0) rfl ?_ (by simp only [nthOp, Act.put, List.setIfInBounds_toArray, List.set_cons_succ, List.set_cons_zero]; rfl) ?_
                · exact fun _ => rfl
                refine tr_done ?_
                obtain ⟨-, -, -, -, c4⟩ := hc
                go_wp2_with fail
                exact ⟨⟨i + 1, hin, by omega⟩, by simp [intOf]; omega⟩
            · have h6 := hq.alloc (.cells #[kS ym, kS yp, .int .i64 yk, kS yt] 40 (0, 0))
              obtain ⟨sb, hsb⟩ : ∃ z, w4.heap.size = z := ⟨_, rfl⟩
              rw [hsb] at h6
              simp only [nthOp]
              go_wp2_with fail
              simp only [Reg.Next]
              refine ⟨HC.out _ _ h6.right, ?_⟩
              clear hsb hq
              generalize w4.alloc (.cells #[kS ym, kS yp, .int .i64 yk, kS yt] 40 (0, 0)) = w5 at *
              unfold tr17b
              have h7 := St.mkRow (size := 4) (n := 1) (cap := 1) (xs := rsV [⟨ym, yp, yk, yt⟩]) h6 (Nat.le_refl _) (by unfold maxLen; omega) rfl rfl
              have HRo := Lib.hid (routes_any h7)
              clear h6 h7
              refine tr_one ?_
              simp only [nthOp]
              go_wp2_with fail
              refine HRo.out.mono ?_
              rintro e w6 ⟨rfl, hs⟩
              obtain ⟨rb, hrb⟩ : ∃ z, w5.heap.size = z := ⟨_, rfl⟩
              rw [hrb] at hs ⊢
              have h8 := hs.eq (B := star (Row 40 4 (.slice (some ⟨rb, 0, none⟩) 5 5) 5 (rsV chap)) (star (Row 48 5 (.slice (some ⟨mb, 0, none⟩) 11 11) 11 (moreR.flatMap mE)) (star (Row 40 4 (.slice (some ⟨sb, 0, none⟩) 1 1) 1 (rsV [⟨ym, yp, yk, yt⟩])) (emp)))) (by ac_rfl)
              have hone : Sl w6 4 (.slice (some ⟨sb, 0, none⟩) 1 1) 1 (rsV [⟨ym, yp, yk, yt⟩]) := hs.right.rowSl
              clear HRo hrb hs
              go_wp2_with fail
              simp only [Reg.Next]
              refine ⟨fun _ => HC.out _ _ h8.right, ?_⟩
              refine tr_one ?_
              obtain ⟨i0, hi0, hz0, hz1, hz2⟩ := info_parts infoR
              simp only [nthOp]
              go_wp2_with (at_builtin; refine wpList_append_Sl rfl (.tmp 138) (.tmp 144) 33 rfl 40 i0 zR 4 56 Tryz.underlying33 hi0 hz0 hz1 hz2 rfl _ 5 (rsV chap) rfl h8 _ 1 (rsV [⟨ym, yp, yk, yt⟩]) rfl hone (rsV_one _) (by unfold maxLen; omega) (by omega) ?_; intro v7 w7 k7 _)
              clear h8 hone hi0 hz0 hz1 hz2
              simp only [Reg.Next]
              refine ⟨HC.out _ _ k7.right, ?_⟩
              have hsl := k7.rowSl
              rw [← rsV_append] at hsl
              obtain ⟨a7, c7, rfl⟩ : ∃ a c, v7 = .slice a 6 c := by obtain ⟨_, a, c, hv, _⟩ := hsl; exact ⟨a, c, hv⟩
              have HNw := Lib.hid (New_any a7 6 c7 (chap ++ [⟨ym, yp, yk, yt⟩]) rfl (by omega) k7.right hsl HM.out (fun r hr => by
                rcases List.mem_append.1 hr with h | h
                · have := chap_len r h; omega
                · have h1 := HOK.out.2
                  rw [List.mem_singleton.1 h]
                  dsimp only at h1 ⊢
                  omega))
              clear hsl k7
              refine tr_one ?_
              simp only [nthOp]
              go_wp2_with fail
              refine HNw.out.mono ?_
              have HE : Hid (newN (chap ++ [⟨ym, yp, yk, yt⟩]) = ye) := Lib.hid HOK.out.1
              rintro e w8 (⟨-, he, h9⟩ | ⟨hne, rp, he, h9⟩)
              · rw [HE.out] at he
                subst he
                have hend := fin2 (h9)
                have hc := HC.out _ _ (h9)
                clear h9 HNw
                go_wp2_with fail
                simp only [Reg.Next]
                refine ⟨fun _ => hc, ?_⟩
                refine tr_plain (.tuple #[.pointer none, .int .i64 ye]) rfl ?_ (by simp only [nthOp, Act.put, List.setIfInBounds_toArray, List.set_cons_succ, List.set_cons_zero]; rfl) ?_
                · exact fun _ => rfl
                refine tr_plain (.pointer none) rfl ?_ (by simp only [nthOp, Act.put, List.setIfInBounds_toArray, List.set_cons_succ, List.set_cons_zero]; rfl) ?_
                · (intro w'; simp only [nthOp]; go_simp)
                refine tr_plain (.int .i64 ye) rfl ?_ (by simp only [nthOp, Act.put, List.setIfInBounds_toArray, List.set_cons_succ, List.set_cons_zero]; rfl) ?_
                · (intro w'; simp only [nthOp]; go_simp)
                refine tr_plain (.pointer none) rfl ?_ (by simp only [nthOp, Act.put, List.setIfInBounds_toArray, List.set_cons_succ, List.set_cons_zero]; rfl) ?_
                · exact fun _ => rfl
                refine tr_plain (.int .i64 ye) rfl ?_ (by simp only [nthOp, Act.put, List.setIfInBounds_toArray, List.set_cons_succ, List.set_cons_zero]; rfl) ?_
                · exact fun _ => rfl
                refine tr_done ?_
                obtain ⟨-, -, -, -, c4⟩ := hc
                go_wp2_with fail
                exact ⟨⟨i + 1, hin, by omega⟩, by simp [intOf]; omega⟩
              · obtain rfl : ye = 0 := by rw [← HE.out]; exact hne
                subst he
                have hend := fin2 (h9.right)
                have hc := HC.out _ _ (h9.right)
                clear h9 HNw
                go_wp2_with fail
                simp only [Reg.Next]
                refine ⟨fun _ => hc, ?_⟩
                refine tr_plain (.tuple #[.pointer (some ⟨rp, 0, none⟩), .int .i64 0]) rfl ?_ (by simp only [nthOp, Act.put, List.setIfInBounds_toArray, List.set_cons_succ, List.set_cons_zero]; rfl) ?_
                · exact fun _ => rfl
                refine tr_plain (.pointer (some ⟨rp, 0, none⟩)) rfl ?_ (by simp only [nthOp, Act.put, List.setIfInBounds_toArray, List.set_cons_succ, List.set_cons_zero]; rfl) ?_
                · (intro w'; simp only [nthOp]; go_simp)
                refine tr_plain (.int .i64 0) rfl ?_ (by simp only [nthOp, Act.put, List.setIfInBounds_toArray, List.set_cons_succ, List.set_cons_zero]; rfl) ?_
                · (intro w'; simp only [nthOp]; go_simp)
                refine tr_plain (.pointer (some ⟨rp, 0, none⟩)) rfl ?_ (by simp only [nthOp, Act.put, List.setIfInBounds_toArray, List.set_cons_succ, List.set_cons_zero]; rfl) ?_
                · exact fun _ => rfl
                refine tr_plain (.int .i64 0) rfl ?_ (by simp only [nthOp, Act.put, List.setIfInBounds_toArray, List.set_cons_succ, List.set_cons_zero]; rfl) ?_
                · exact fun _ => rfl
                refine tr_done ?_
                obtain ⟨-, -, -, -, c4⟩ := hc
                go_wp2_with fail
                exact ⟨⟨i + 1, hin, by omega⟩, by simp [intOf]; omega⟩
          · obtain rfl : i = 11 := by omega
            have hf := fin hS
            clear hS hin hi
            have hmk := mkR wr
            have hz := zrow hf
            obtain ⟨hb, hhb⟩ : ∃ z, wr.heap.size = z := ⟨_, rfl⟩
            rw [hhb] at hz hmk
            obtain ⟨Z1, hZ1⟩ : ∃ z, ZR = z := ⟨_, rfl⟩
            rw [hZ1] at hz hmk
            have HF : Hid (newN (List.replicate 33 (⟨[], [], 0, []⟩ : Rt)) = 6) := Lib.hid (full33 _ (List.length_replicate ..))
            have HLR : Hid ((List.replicate 33 (⟨[], [], 0, []⟩ : Rt)).length = 33 ∧ ∀ r ∈ List.replicate 33 (⟨[], [], 0, []⟩ : Rt), r.m.length ≤ 1000000 ∧ r.p.length ≤ 1000000) := Lib.hid ⟨List.length_replicate .., fun r hr => by rw [List.eq_of_mem_replicate hr]; exact ⟨by decide, by decide⟩⟩
            generalize List.replicate 33 (⟨[], [], 0, []⟩ : Rt) = l0 at *
            have HNw := Lib.hid (New_any _ 33 33 l0 HLR.out.1 (by omega) hz hz.rowSl HM.out HLR.out.2)
            clear hZ1 hf
            go_wp2_with fail
            refine HNw.out.mono ?_
            rintro e w5 (⟨-, he, h5⟩ | ⟨hne, -⟩)
            · rw [HF.out] at he
              subst he
              have HWk := Lib.hid (wakes_any HM.out (RtN.path_max HM.out) h5)
              clear h5 hz hmk HNw hhb
              go_wp2_with fail
              refine HWk.out.mono ?_
              rintro e wx ⟨rfl, hx⟩
              go_wp2
              go_ret
              exact ⟨rfl, fin hx⟩
            · exact absurd hne (by rw [HF.out]; decide)
end Go.Proofs.YtlofiaaacepgmaaGreatDoor.RtK
