import Derived.Test.YtdobgebdlbckoaaGreatDoorWdN
namespace Go.Proofs.YtdobgebdlbckoaaGreatDoor.WdC
open Go Go.RowKit Go.Proofs Go.Proofs.YtdobgebdlbckoaaGreatDoor.Sep Go.Proofs.YtdobgebdlbckoaaGreatDoor.Reg Go.Proofs.YtdobgebdlbckoaaGreatDoor.Frame Go.Proofs.YtdobgebdlbckoaaGreatDoor.WdP Go.Proofs.YtdobgebdlbckoaaGreatDoor.WdT Go.Proofs.YtdobgebdlbckoaaGreatDoor.WdN

abbrev cmdA (k : Int) (t d : List UInt8) : Value := .agg #[.int .i64 k, .string ⟨t.toArray⟩, .string ⟨d.toArray⟩]
def cmdV : Option Cmd → Value
  | some (k, t, d) => .tuple #[cmdA k t d, .bool true]
  | none => .tuple #[cmdA 0 [] [], .bool false]
def rcmdV : Option Cmd → Value
  | some (k, t, d) => .tuple #[.int .i64 k, .string ⟨t.toArray⟩, .string ⟨d.toArray⟩]
  | none => .tuple #[.int .i64 0, .string ⟨#[]⟩, .string ⟨#[]⟩]

def kindW (a : List UInt8) : Nat := if a = wSUB then 1 else if a = wUNSUB then 2 else if a = wPUB then 3 else 0
set_option maxRecDepth 100000 in
theorem kind_any (a : List UInt8) (k : Nat) (hk : kindW a = k) (w : World) : Calls Tryz.prog 47 #[.string ⟨a.toArray⟩] w (Same w (.int .i64 k)) := by
  have HK := Lib.hid hk
  clear hk
  by_cases h1 : a = [83, 85, 66]
  · subst h1
    go_enter Tryz.func47, Tryz.ntmps47
    go_wp2
    go_ret
    exact ⟨by rw [← HK.out]; rfl, rfl⟩
  have h1b : (a == [83, 85, 66]) = false := by simpa using h1
  by_cases h2 : a = [85, 78, 83, 85, 66]
  · subst h2
    go_enter Tryz.func47, Tryz.ntmps47
    go_wp2
    go_ret
    exact ⟨by rw [← HK.out]; rfl, rfl⟩
  have h2b : (a == [85, 78, 83, 85, 66]) = false := by simpa using h2
  by_cases h3 : a = [80, 85, 66]
  · subst h3
    go_enter Tryz.func47, Tryz.ntmps47
    go_wp2
    go_ret
    exact ⟨by rw [← HK.out]; rfl, rfl⟩
  have h3b : (a == [80, 85, 66]) = false := by simpa using h3
  have HT : Hid (kindW a = 0) := Lib.hid (by unfold kindW wSUB wUNSUB wPUB; rw [if_neg h1, if_neg h2, if_neg h3])
  clear h1 h2 h3
  go_enter Tryz.func47, Tryz.ntmps47
  go_wp2
  go_ret
  exact ⟨by rw [← HK.out, HT.out]; rfl, rfl⟩

set_option maxRecDepth 100000 in
set_option maxHeartbeats 4000000 in
theorem Parse_any (s : List UInt8) (q : Value) (hq : cmdV (parseW s) = q) (W : World) (hG : Gl W) (hs : s.length ≤ 1000000) : Calls Tryz.prog 27 #[.string ⟨s.toArray⟩] W (Makes W q) := by
  have HQ := Lib.hid hq
  clear hq
  have HS := St.start W
  rcases hx : cutB s with ⟨a, r, k⟩
  have HX := Lib.hid hx
  have hlen := (cutB_len s)
  rw [hx] at hlen
  simp only at hlen
  have hrl := hlen.2.1
  clear hlen hx
  have h1 := HS.alloc (.cells #[.int .i64 0, .string ⟨#[]⟩, .string ⟨#[]⟩] 60 (0, 0))
  have HC := Lib.hid fun w h => cut_any HX.out w h hs
  go_enter Tryz.func27, Tryz.ntmps27
  go_wp2_with fail
  refine (HC.out _ (hG.st h1)).mono ?_
  rintro e w1 hq
  have h2 := h1.quiet hq
  obtain ⟨rfl, -⟩ := hq
  have hc0 := h2.cell 0 rfl
  have hc1 := h2.cell 1 rfl
  have hc2 := h2.cell 2 rfl
  by_cases e1 : a = wSUB
  · have HK := Lib.hid fun w => kind_any a 1 (by unfold kindW; rw [if_pos e1]) w
    have E1 := Lib.hid e1
    clear e1
    cases ht : topic r
    · have HT := Lib.hid fun w => (Topic_any r w (by omega)).mono fun e w' h => h.eq (v := .bool false) (by rw [ht])
      have HP : Hid (parseW s = none) := Lib.hid (by unfold parseW; rw [HX.out]; simp only; rw [if_pos E1.out, ht]; rfl)
      clear ht
      go_wp2_with fail
      refine (HK.out _).mono ?_
      rintro e w' ⟨rfl, rfl⟩
      go_wp2_with fail
      have h3 := h2.alloc (.cells #[.int .i64 1, .string ⟨r.toArray⟩, .string ⟨#[]⟩] 60 (0, 0))
      have hd0 := h3.cell 0 rfl
      have hd1 := h3.cell 1 rfl
      have hd2 := h3.cell 2 rfl
      have hf0 := h3.swap.free 0
      have hf1 := h3.swap.free 1
      have hf2 := h3.swap.free 2
      have hc0 := h3.swap.cell 0 rfl
      have hc1 := h3.swap.cell 1 rfl
      have hc2 := h3.swap.cell 2 rfl
      refine (HT.out _).mono ?_
      rintro e w' ⟨rfl, rfl⟩
      go_wp2
      refine bodyPost_ret (v := .tuple #[cmdA 0 [] [], .bool false]) (by simp [results, Tryz.results27, go_sem, hc0, hc1, hc2]) rfl ⟨by rw [← HQ.out, HP.out]; rfl, ?_⟩
      exact (((h3.swap.setCell 0 _).setCell 1 _).setCell 2 _).below
    · have HT := Lib.hid fun w => (Topic_any r w (by omega)).mono fun e w' h => h.eq (v := .bool true) (by rw [ht])
      have HP : Hid (parseW s = some (1, r, [])) := Lib.hid (by unfold parseW; rw [HX.out]; simp only; rw [if_pos E1.out, ht]; rfl)
      clear ht
      go_wp2_with fail
      refine (HK.out _).mono ?_
      rintro e w' ⟨rfl, rfl⟩
      go_wp2_with fail
      have h3 := h2.alloc (.cells #[.int .i64 1, .string ⟨r.toArray⟩, .string ⟨#[]⟩] 60 (0, 0))
      have hd0 := h3.cell 0 rfl
      have hd1 := h3.cell 1 rfl
      have hd2 := h3.cell 2 rfl
      have hf0 := h3.swap.free 0
      have hf1 := h3.swap.free 1
      have hf2 := h3.swap.free 2
      have hc0 := h3.swap.cell 0 rfl
      have hc1 := h3.swap.cell 1 rfl
      have hc2 := h3.swap.cell 2 rfl
      refine (HT.out _).mono ?_
      rintro e w' ⟨rfl, rfl⟩
      go_wp2
      refine bodyPost_ret (v := .tuple #[cmdA 1 r [], .bool true]) (by simp [results, Tryz.results27, go_sem, hc0, hc1, hc2, hd0, hd1, hd2]) rfl ⟨by rw [← HQ.out, HP.out]; rfl, ?_⟩
      exact (((h3.swap.setCell 0 _).setCell 1 _).setCell 2 _).below
  by_cases e2 : a = wUNSUB
  · have HK := Lib.hid fun w => kind_any a 2 (by unfold kindW; rw [if_neg e1, if_pos e2]) w
    have E1 := Lib.hid e1
    have E2 := Lib.hid e2
    clear e1 e2
    cases ht : topic r
    · have HT := Lib.hid fun w => (Topic_any r w (by omega)).mono fun e w' h => h.eq (v := .bool false) (by rw [ht])
      have HP : Hid (parseW s = none) := Lib.hid (by unfold parseW; rw [HX.out]; simp only; rw [if_neg E1.out, if_pos E2.out, ht]; rfl)
      clear ht
      go_wp2_with fail
      refine (HK.out _).mono ?_
      rintro e w' ⟨rfl, rfl⟩
      go_wp2_with fail
      have h3 := h2.alloc (.cells #[.int .i64 2, .string ⟨r.toArray⟩, .string ⟨#[]⟩] 60 (0, 0))
      have hd0 := h3.cell 0 rfl
      have hd1 := h3.cell 1 rfl
      have hd2 := h3.cell 2 rfl
      have hf0 := h3.swap.free 0
      have hf1 := h3.swap.free 1
      have hf2 := h3.swap.free 2
      have hc0 := h3.swap.cell 0 rfl
      have hc1 := h3.swap.cell 1 rfl
      have hc2 := h3.swap.cell 2 rfl
      refine (HT.out _).mono ?_
      rintro e w' ⟨rfl, rfl⟩
      go_wp2
      refine bodyPost_ret (v := .tuple #[cmdA 0 [] [], .bool false]) (by simp [results, Tryz.results27, go_sem, hc0, hc1, hc2]) rfl ⟨by rw [← HQ.out, HP.out]; rfl, ?_⟩
      exact (((h3.swap.setCell 0 _).setCell 1 _).setCell 2 _).below
    · have HT := Lib.hid fun w => (Topic_any r w (by omega)).mono fun e w' h => h.eq (v := .bool true) (by rw [ht])
      have HP : Hid (parseW s = some (2, r, [])) := Lib.hid (by unfold parseW; rw [HX.out]; simp only; rw [if_neg E1.out, if_pos E2.out, ht]; rfl)
      clear ht
      go_wp2_with fail
      refine (HK.out _).mono ?_
      rintro e w' ⟨rfl, rfl⟩
      go_wp2_with fail
      have h3 := h2.alloc (.cells #[.int .i64 2, .string ⟨r.toArray⟩, .string ⟨#[]⟩] 60 (0, 0))
      have hd0 := h3.cell 0 rfl
      have hd1 := h3.cell 1 rfl
      have hd2 := h3.cell 2 rfl
      have hf0 := h3.swap.free 0
      have hf1 := h3.swap.free 1
      have hf2 := h3.swap.free 2
      have hc0 := h3.swap.cell 0 rfl
      have hc1 := h3.swap.cell 1 rfl
      have hc2 := h3.swap.cell 2 rfl
      refine (HT.out _).mono ?_
      rintro e w' ⟨rfl, rfl⟩
      go_wp2
      refine bodyPost_ret (v := .tuple #[cmdA 2 r [], .bool true]) (by simp [results, Tryz.results27, go_sem, hc0, hc1, hc2, hd0, hd1, hd2]) rfl ⟨by rw [← HQ.out, HP.out]; rfl, ?_⟩
      exact (((h3.swap.setCell 0 _).setCell 1 _).setCell 2 _).below
  by_cases e3 : a = wPUB
  · have HK := Lib.hid fun w => kind_any a 3 (by unfold kindW; rw [if_neg e1, if_neg e2, if_pos e3]) w
    have E1 := Lib.hid e1
    have E2 := Lib.hid e2
    have E3 := Lib.hid e3
    clear e1 e2 e3
    rcases hy : cutB r with ⟨b, d, k2⟩
    have HY := Lib.hid hy
    have hlen2 := (cutB_len r)
    rw [hy] at hlen2
    simp only at hlen2
    have hbl := hlen2.1
    clear hlen2 hy
    have HC2 := Lib.hid fun w h => cut_any HY.out w h (by omega)
    have HP0 : Hid (parseW s = if k2 && topic b then some (3, b, d) else none) := Lib.hid (by unfold parseW; rw [HX.out]; simp only; rw [if_neg E1.out, if_neg E2.out, if_pos E3.out, HY.out])
    cases ht : topic b
    · rw [ht] at HP0
      have HT := Lib.hid fun w => (Topic_any b w (by omega)).mono fun e w' h => h.eq (v := .bool false) (by rw [ht])
      clear ht
      have HP : Hid (parseW s = none) := Lib.hid (by rw [HP0.out]; simp)
      go_wp2_with fail
      refine (HK.out _).mono ?_
      rintro e w' ⟨rfl, rfl⟩
      go_wp2_with fail
      have h3 := h2.alloc (.cells #[.int .i64 3, .string ⟨r.toArray⟩, .string ⟨#[]⟩] 60 (0, 0))
      refine (HC2.out _ (hG.st h3)).mono ?_
      rintro e w3 hq
      have h4 := h3.quiet hq
      obtain ⟨rfl, -⟩ := hq
      have hd0 := h4.cell 0 rfl
      have hd1 := h4.cell 1 rfl
      have hd2 := h4.cell 2 rfl
      have hg1 := h4.free 1
      have hg2 := h4.free 2
      have h5 := (h4.setCell 1 (.string ⟨b.toArray⟩)).setCell 2 (.string ⟨d.toArray⟩)
      go_wp2_with fail
      refine (HT.out _).mono ?_
      rintro e w' ⟨rfl, rfl⟩
      clear hd0 hd1 hd2
      have hd0 := h5.cell 0 rfl
      have hd1 := h5.cell 1 rfl
      have hd2 := h5.cell 2 rfl
      have hf0 := h5.swap.free 0
      have hf1 := h5.swap.free 1
      have hf2 := h5.swap.free 2
      have hc0 := h5.swap.cell 0 rfl
      have hc1 := h5.swap.cell 1 rfl
      have hc2 := h5.swap.cell 2 rfl
      go_wp2
      refine bodyPost_ret (v := .tuple #[cmdA 0 [] [], .bool false]) (by simp [results, Tryz.results27, go_sem, hc0, hc1, hc2]) rfl ⟨by rw [← HQ.out, HP.out]; rfl, ?_⟩
      exact (((h5.swap.setCell 0 _).setCell 1 _).setCell 2 _).below
    · rw [ht] at HP0
      have HT := Lib.hid fun w => (Topic_any b w (by omega)).mono fun e w' h => h.eq (v := .bool true) (by rw [ht])
      clear ht
      cases k2
      · have HP : Hid (parseW s = none) := Lib.hid (by rw [HP0.out]; rfl)
        go_wp2_with fail
        refine (HK.out _).mono ?_
        rintro e w' ⟨rfl, rfl⟩
        go_wp2_with fail
        have h3 := h2.alloc (.cells #[.int .i64 3, .string ⟨r.toArray⟩, .string ⟨#[]⟩] 60 (0, 0))
        refine (HC2.out _ (hG.st h3)).mono ?_
        rintro e w3 hq
        have h4 := h3.quiet hq
        obtain ⟨rfl, -⟩ := hq
        have hd0 := h4.cell 0 rfl
        have hd1 := h4.cell 1 rfl
        have hd2 := h4.cell 2 rfl
        have hg1 := h4.free 1
        have hg2 := h4.free 2
        have h5 := (h4.setCell 1 (.string ⟨b.toArray⟩)).setCell 2 (.string ⟨d.toArray⟩)
        go_wp2_with fail
        refine (HT.out _).mono ?_
        rintro e w' ⟨rfl, rfl⟩
        clear hd0 hd1 hd2
        have hd0 := h5.cell 0 rfl
        have hd1 := h5.cell 1 rfl
        have hd2 := h5.cell 2 rfl
        have hf0 := h5.swap.free 0
        have hf1 := h5.swap.free 1
        have hf2 := h5.swap.free 2
        have hc0 := h5.swap.cell 0 rfl
        have hc1 := h5.swap.cell 1 rfl
        have hc2 := h5.swap.cell 2 rfl
        go_wp2
        refine bodyPost_ret (v := .tuple #[cmdA 0 [] [], .bool false]) (by simp [results, Tryz.results27, go_sem, hc0, hc1, hc2]) rfl ⟨by rw [← HQ.out, HP.out]; rfl, ?_⟩
        exact (((h5.swap.setCell 0 _).setCell 1 _).setCell 2 _).below
      · have HP : Hid (parseW s = some (3, b, d)) := Lib.hid (by rw [HP0.out]; rfl)
        go_wp2_with fail
        refine (HK.out _).mono ?_
        rintro e w' ⟨rfl, rfl⟩
        go_wp2_with fail
        have h3 := h2.alloc (.cells #[.int .i64 3, .string ⟨r.toArray⟩, .string ⟨#[]⟩] 60 (0, 0))
        refine (HC2.out _ (hG.st h3)).mono ?_
        rintro e w3 hq
        have h4 := h3.quiet hq
        obtain ⟨rfl, -⟩ := hq
        have hd0 := h4.cell 0 rfl
        have hd1 := h4.cell 1 rfl
        have hd2 := h4.cell 2 rfl
        have hg1 := h4.free 1
        have hg2 := h4.free 2
        have h5 := (h4.setCell 1 (.string ⟨b.toArray⟩)).setCell 2 (.string ⟨d.toArray⟩)
        go_wp2_with fail
        refine (HT.out _).mono ?_
        rintro e w' ⟨rfl, rfl⟩
        clear hd0 hd1 hd2
        have hd0 := h5.cell 0 rfl
        have hd1 := h5.cell 1 rfl
        have hd2 := h5.cell 2 rfl
        have hf0 := h5.swap.free 0
        have hf1 := h5.swap.free 1
        have hf2 := h5.swap.free 2
        have hc0 := h5.swap.cell 0 rfl
        have hc1 := h5.swap.cell 1 rfl
        have hc2 := h5.swap.cell 2 rfl
        go_wp2
        refine bodyPost_ret (v := .tuple #[cmdA 3 b d, .bool true]) (by simp [results, Tryz.results27, go_sem, hc0, hc1, hc2, hd0, hd1, hd2]) rfl ⟨by rw [← HQ.out, HP.out]; rfl, ?_⟩
        exact (((h5.swap.setCell 0 _).setCell 1 _).setCell 2 _).below
  have HK := Lib.hid fun w => kind_any a 0 (by unfold kindW; rw [if_neg e1, if_neg e2, if_neg e3]) w
  have HP : Hid (parseW s = none) := Lib.hid (by unfold parseW; rw [HX.out]; simp only; rw [if_neg e1, if_neg e2, if_neg e3])
  clear e1 e2 e3
  go_wp2_with fail
  refine (HK.out _).mono ?_
  rintro e w' ⟨rfl, rfl⟩
  have h3 := h2.alloc (.cells #[.int .i64 0, .string ⟨r.toArray⟩, .string ⟨#[]⟩] 60 (0, 0))
  have hd0 := h3.cell 0 rfl
  have hd1 := h3.cell 1 rfl
  have hd2 := h3.cell 2 rfl
  have hf0 := h3.swap.free 0
  have hf1 := h3.swap.free 1
  have hf2 := h3.swap.free 2
  have hc0 := h3.swap.cell 0 rfl
  have hc1 := h3.swap.cell 1 rfl
  have hc2 := h3.swap.cell 2 rfl
  go_wp2
  refine bodyPost_ret (v := .tuple #[cmdA 0 [] [], .bool false]) (by simp [results, Tryz.results27, go_sem, hc0, hc1, hc2]) rfl ⟨by rw [← HQ.out, HP.out]; rfl, ?_⟩
  exact (((h3.swap.setCell 0 _).setCell 1 _).setCell 2 _).below

end Go.Proofs.YtdobgebdlbckoaaGreatDoor.WdC
