import Derived.Test.YtedkkcbdhbbegaaTmI2
import Derived.Test.YtedkkcbdhbbegaaFork
import Derived.WalkLawsBesides
import Derived.WalkSpells
import Derived.Test.YtedkkcbdhbbegaaRng
import Derived.OwnWalkIn
import Derived.TacticsInMore
import Derived.LoopNIn
import Derived.LoopIn
namespace Go.Proofs.Ytedkkcbdhbbegaa.TmI3
open Go Go.RowKit Go.Proofs Go.Proofs.Ytedkkcbdhbbegaa.Sep Go.Proofs.Ytedkkcbdhbbegaa.Reg Go.Proofs.Ytedkkcbdhbbegaa.Frame Go.Proofs.Ytedkkcbdhbbegaa.Slc Go.Proofs.Ytedkkcbdhbbegaa.Fork Go.Proofs.Ytedkkcbdhbbegaa.TmP Go.Proofs.Ytedkkcbdhbbegaa.TmQ Go.Proofs.Ytedkkcbdhbbegaa.Rng Go.Proofs.Ytedkkcbdhbbegaa.TmI Go.Proofs.Ytedkkcbdhbbegaa.TmI2

theorem ordK_ : Ordr ltK := ordK
def BPost (w : World) (k : Nat) (e : Ending) (w' : World) : Prop := (∃ b, e = .returned (.tuple #[.int .i64 k, .bool b])) ∧ Below w.heap.size w w'
set_option maxRecDepth 100000 in
set_option maxHeartbeats 8000000 in
theorem BS_any (a : Option Addr) (n c : Nat) (l : List (κ × Int)) (hl : l.length = n) (x1 : κ) (x2 : Int) (k : Nat) (hk : posP ltK (x1, x2) l = k) (hs : Srt ltK l) (hn : n ≤ 1000000) (w : World) (hsl : Sl w 2 (.slice a n c) n (tsV l)) :
    Calls Try.prog 26 #[.slice a n c, .agg #[kv x1, .int .i64 x2], .func (.func 27) #[] #[]] w (BPost w k) := by
  have hlc : n ≤ c := by obtain ⟨_, _, _, e, h1, _⟩ := hsl; cases e; exact h1
  obtain ⟨hp0, hp1, hp2⟩ := posP_spec ordK (x := (x1, x2)) hs
  rw [hk, hl] at hp0
  rw [hk] at hp1 hp2
  have h0 := (St.start w).alloc (.cells #[kv x1, .int .i64 x2] 61 (0, 0))
  have HSL := Lib.hid hsl
  have HL := Lib.hid hl
  have H1 := Lib.hid hp1
  have H2 := Lib.hid hp2
  have HO := Lib.hid fun (y1 : κ) (y2 : Int) (w : World) => order_any y1 y2 x1 x2 _ rfl w
  clear hsl hl hk hs hp1 hp2
  go_enter Try.func26, Try.ntmps26
  go_wp2_with fail
  generalize hwb : w.heap.size = bx at *
  go_loopw [9, 10] (fun iv jv wr => ∃ i j : Nat, i ≤ k ∧ k ≤ j ∧ j ≤ n ∧ iv = .int .i64 i ∧ jv = .int .i64 j ∧ St w wr (star (pt bx (.cells #[kv x1, .int .i64 x2] 61 (0, 0))) emp)) (fun iv jv _ => (intOf jv).toNat - (intOf iv).toNat)
  case atStart => exact ⟨0, n, by omega, by omega, by omega, rfl, rfl, h0⟩
  case round =>
    obtain ⟨i, j, hi, hj, hjn, rfl, rfl, hS⟩ := hrel
    by_cases hij : i < j
    · obtain ⟨h, hh⟩ : ∃ h, (i + j) / 2 = h := ⟨_, rfl⟩
      have hh1 : i ≤ h ∧ h < j := by omega
      have hhI : ((i : Int) + j) / 2 = (h : Int) := by omega
      obtain ⟨y, hy⟩ : ∃ y, l[h]? = some y := ⟨_, List.getElem?_eq_getElem (by rw [HL.out]; omega)⟩
      obtain ⟨ab, ao, rfl, hel⟩ := el_at HSL.out hy
      obtain ⟨y1, y2⟩ := y
      have hb := ordZ_bef (y1, y2) (x1, x2)
      go_wp2_with fail
      try rw [hhI]
      refine wp_region_canon [0, 1, 2, 3, 4, 5, 6, 7] (by kernel_rfl) (by kernel_rfl) ?_
      simp only [pickOps, nthOp]
      have hS2 := hS.drew
      have hS0 := (St.start w).past hS2.below
      obtain ⟨he0, he1⟩ := hel _ _ hS0
      have hx0 := hS2.cell 0 rfl
      have hx1 := hS2.cell 1 rfl
      have hhn : (h : Int) < n := by omega
      clear hel hhI
      cases hbe : bef ltK (y1, y2) (x1, x2)
      · have hge : ¬ ordZ (y1, y2) (x1, x2) < 0 := by rw [hb, hbe]; simp
        have hkh : k ≤ h := by
          rcases Nat.lt_or_ge h k with h3 | h3
          · have := H1.out h _ h3 hy
            rw [hbe] at this; cases this
          · exact h3
        have HC := Lib.hid (HO.out y1 y2 wr.drew)
        clear hb hbe hy
        generalize ordZ (y1, y2) (x1, x2) = z at *
        go_wp2_with fail
        refine HC.out.mono ?_
        rintro e w5 hq
        have h5 := hS2.makes hq
        obtain ⟨rfl, -⟩ := hq
        go_wp2_with fail
        simp only [Only]
        go_wp2_with fail
        exact ⟨⟨i, h, hi, hkh, by omega, rfl, rfl, h5⟩, by simp [intOf]; omega⟩
      · have hlt : ordZ (y1, y2) (x1, x2) < 0 := by rw [hb, hbe]
        have hkh : h + 1 ≤ k := by
          rcases Nat.lt_or_ge h k with h3 | h3
          · omega
          · have := H2.out h _ h3 hy
            rw [hbe] at this; cases this
        have HC := Lib.hid (HO.out y1 y2 wr.drew)
        clear hb hbe hy
        generalize ordZ (y1, y2) (x1, x2) = z at *
        go_wp2_with fail
        refine HC.out.mono ?_
        rintro e w5 hq
        have h5 := hS2.makes hq
        obtain ⟨rfl, -⟩ := hq
        go_wp2_with fail
        simp only [Only]
        go_wp2_with fail
        exact ⟨⟨h + 1, j, by omega, hj, hjn, by go_num, rfl, h5⟩, by simp [intOf]; omega⟩
    · obtain rfl : i = k := by omega
      obtain rfl : j = i := by omega
      by_cases hin : j < n
      · obtain ⟨y, hy⟩ : ∃ y, l[j]? = some y := ⟨_, List.getElem?_eq_getElem (by rw [HL.out]; omega)⟩
        obtain ⟨ab, ao, rfl, hel⟩ := el_at HSL.out hy
        obtain ⟨y1, y2⟩ := y
        go_wp2_with fail
        refine wp_region_canon [0, 1, 2, 3, 4, 5, 6, 7, 8, 9, 10, 11, 14, 12, 13, 15] (by kernel_rfl) (by kernel_rfl) ?_
        simp only [pickOps, nthOp]
        have hS2 := hS.drew
        have hS0 := (St.start w).past hS2.below
        obtain ⟨he0, he1⟩ := hel _ _ hS0
        have hx0 := hS2.cell 0 rfl
        have hx1 := hS2.cell 1 rfl
        have HC := Lib.hid (HO.out y1 y2 wr.drew)
        clear hel hy
        generalize ordZ (y1, y2) (x1, x2) = z at *
        go_wp2_with fail
        refine HC.out.mono ?_
        rintro e w5 hq
        have h5 := hS2.makes hq
        obtain ⟨rfl, -⟩ := hq
        go_wp2_with fail
        simp only [Only]
        go_wp2_with fail
        go_ret2
        exact ⟨⟨_, rfl⟩, h5.below⟩
      · go_wp2_with fail
        refine wp_region_canon [0, 1, 2, 3, 4, 5, 6, 7, 8, 9, 10, 11, 14, 12, 13, 15] (by kernel_rfl) (by kernel_rfl) ?_
        simp only [pickOps, nthOp]
        go_wp2_with fail
        simp only [Only]
        go_wp2_with fail
        go_ret2
        exact ⟨⟨_, rfl⟩, hS.drew.below⟩

end Go.Proofs.Ytedkkcbdhbbegaa.TmI3
