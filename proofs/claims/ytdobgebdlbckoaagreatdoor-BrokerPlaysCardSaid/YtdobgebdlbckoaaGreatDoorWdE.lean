import Derived.Test.YtdobgebdlbckoaaGreatDoorWdD
import Derived.Test.YtdobgebdlbckoaaGreatDoorStrs
namespace Go.Proofs.YtdobgebdlbckoaaGreatDoor.WdE
open Go Go.RowKit Go.Proofs Go.Proofs.YtdobgebdlbckoaaGreatDoor.Sep Go.Proofs.YtdobgebdlbckoaaGreatDoor.Reg Go.Proofs.YtdobgebdlbckoaaGreatDoor.Frame Go.Proofs.YtdobgebdlbckoaaGreatDoor.Strs Go.Proofs.YtdobgebdlbckoaaGreatDoor.WdP Go.Proofs.YtdobgebdlbckoaaGreatDoor.WdT Go.Proofs.YtdobgebdlbckoaaGreatDoor.WdN Go.Proofs.YtdobgebdlbckoaaGreatDoor.WdC Go.Proofs.YtdobgebdlbckoaaGreatDoor.WdD

theorem parse_nob {s a r : List UInt8} (h : cutB s = (a, r, false)) : parseW s = none := by
  rcases cutB_cases s with ⟨x, q, rfl, hx, e⟩ | ⟨hx, e⟩
  · rw [h] at e; simp at e
  · unfold parseW
    rw [e]
    simp [topic, isTok, cutB]

set_option maxRecDepth 100000 in
set_option maxHeartbeats 4000000 in
theorem rParse_any (s : List UInt8) (q : Value) (hq : rcmdV (parseW s) = q) (w : World) (hs : s.length ≤ 1000000) : Calls Tryz.prog 41 #[.string ⟨s.toArray⟩] w (Quiet w q) := by
  have HQ := Lib.hid hq
  clear hq
  rcases hx : cutB s with ⟨a, r, k⟩
  have HX := Lib.hid hx
  have hlen := (cutB_len s)
  rw [hx] at hlen
  simp only at hlen
  have hrl := hlen.2.1
  have HC := Lib.hid (rcut_any hx w hs)
  clear hlen
  cases k
  · have HP := Lib.hid (parse_nob hx)
    clear hx
    go_enter Tryz.func41, Tryz.ntmps41
    go_wp2_with fail
    refine HC.out.mono ?_
    rintro e w' ⟨rfl, n, rfl⟩
    go_wp2
    go_ret3
    exact ⟨by rw [← HQ.out, HP.out]; rfl, n, rfl⟩
  clear hx
  rcases hy : cutB r with ⟨b, d, k2⟩
  have HY := Lib.hid hy
  have hlen2 := (cutB_len r)
  rw [hy] at hlen2
  simp only at hlen2
  have hbl := hlen2.1
  have HC2 := Lib.hid fun w => rcut_any hy w (by omega)
  clear hlen2 hy
  have HP0 : Hid (parseW s = if a = wSUB then (if topic r then some (1, r, []) else none) else if a = wUNSUB then (if topic r then some (2, r, []) else none) else if a = wPUB then (if k2 && topic b then some (3, b, d) else none) else none) := Lib.hid (by unfold parseW; rw [HX.out]; simp only; rw [HY.out])
  have hd : (∃ z, topic r = z) := ⟨_, rfl⟩
  obtain ⟨z, hz⟩ := hd
  have hd : (∃ z, topic b = z) := ⟨_, rfl⟩
  obtain ⟨y, hy⟩ := hd
  have HT := Lib.hid fun w => (rTopic_any r w (by omega)).mono fun e w' h => h.eq (v := .bool z) (by rw [hz])
  have HT2 := Lib.hid fun w => (rTopic_any b w (by omega)).mono fun e w' h => h.eq (v := .bool y) (by rw [hy])
  rw [hz, hy] at HP0
  clear hz hy
  by_cases e1 : a = [83, 85, 66]
  · subst e1
    cases z
    · have HP : Hid (parseW s = none) := Lib.hid (by rw [HP0.out]; rfl)
      go_enter Tryz.func41, Tryz.ntmps41
      go_wp2_with fail
      refine HC.out.mono ?_
      rintro e w' ⟨rfl, n, rfl⟩
      go_wp2_with fail
      refine (HT.out _).mono ?_
      rintro e w' ⟨rfl, rfl⟩
      go_wp2_with fail
      refine (HC2.out _).mono ?_
      rintro e w' ⟨rfl, n2, rfl⟩
      go_wp2
      go_ret3
      exact ⟨by rw [← HQ.out, HP.out]; rfl, n + n2, rfl⟩
    · have HP : Hid (parseW s = some (1, r, [])) := Lib.hid (by rw [HP0.out]; rfl)
      go_enter Tryz.func41, Tryz.ntmps41
      go_wp2_with fail
      refine HC.out.mono ?_
      rintro e w' ⟨rfl, n, rfl⟩
      go_wp2_with fail
      refine (HT.out _).mono ?_
      rintro e w' ⟨rfl, rfl⟩
      go_wp2
      go_ret3
      exact ⟨by rw [← HQ.out, HP.out]; rfl, n, rfl⟩
  have e1b : (a == [83, 85, 66]) = false := by simpa using e1
  by_cases e2 : a = [85, 78, 83, 85, 66]
  · subst e2
    clear e1
    cases z
    · have HP : Hid (parseW s = none) := Lib.hid (by rw [HP0.out]; rfl)
      go_enter Tryz.func41, Tryz.ntmps41
      go_wp2_with fail
      refine HC.out.mono ?_
      rintro e w' ⟨rfl, n, rfl⟩
      go_wp2_with fail
      refine (HT.out _).mono ?_
      rintro e w' ⟨rfl, rfl⟩
      go_wp2_with fail
      refine (HC2.out _).mono ?_
      rintro e w' ⟨rfl, n2, rfl⟩
      go_wp2
      go_ret3
      exact ⟨by rw [← HQ.out, HP.out]; rfl, n + n2, rfl⟩
    · have HP : Hid (parseW s = some (2, r, [])) := Lib.hid (by rw [HP0.out]; rfl)
      go_enter Tryz.func41, Tryz.ntmps41
      go_wp2_with fail
      refine HC.out.mono ?_
      rintro e w' ⟨rfl, n, rfl⟩
      go_wp2_with fail
      refine (HT.out _).mono ?_
      rintro e w' ⟨rfl, rfl⟩
      go_wp2
      go_ret3
      exact ⟨by rw [← HQ.out, HP.out]; rfl, n, rfl⟩
  have e2b : (a == [85, 78, 83, 85, 66]) = false := by simpa using e2
  by_cases e3 : a = [80, 85, 66]
  · subst e3
    clear e1 e2
    cases k2
    · have HP : Hid (parseW s = none) := Lib.hid (by rw [HP0.out]; rfl)
      go_enter Tryz.func41, Tryz.ntmps41
      go_wp2_with fail
      refine HC.out.mono ?_
      rintro e w' ⟨rfl, n, rfl⟩
      go_wp2_with fail
      refine (HC2.out _).mono ?_
      rintro e w' ⟨rfl, n2, rfl⟩
      go_wp2
      go_ret3
      exact ⟨by rw [← HQ.out, HP.out]; rfl, n + n2, rfl⟩
    · cases y
      · have HP : Hid (parseW s = none) := Lib.hid (by rw [HP0.out]; rfl)
        go_enter Tryz.func41, Tryz.ntmps41
        go_wp2_with fail
        refine HC.out.mono ?_
        rintro e w' ⟨rfl, n, rfl⟩
        go_wp2_with fail
        refine (HC2.out _).mono ?_
        rintro e w' ⟨rfl, n2, rfl⟩
        go_wp2_with fail
        refine (HT2.out _).mono ?_
        rintro e w' ⟨rfl, rfl⟩
        go_wp2
        go_ret3
        exact ⟨by rw [← HQ.out, HP.out]; rfl, n + n2, rfl⟩
      · have HP : Hid (parseW s = some (3, b, d)) := Lib.hid (by rw [HP0.out]; rfl)
        go_enter Tryz.func41, Tryz.ntmps41
        go_wp2_with fail
        refine HC.out.mono ?_
        rintro e w' ⟨rfl, n, rfl⟩
        go_wp2_with fail
        refine (HC2.out _).mono ?_
        rintro e w' ⟨rfl, n2, rfl⟩
        go_wp2_with fail
        refine (HT2.out _).mono ?_
        rintro e w' ⟨rfl, rfl⟩
        go_wp2
        go_ret3
        exact ⟨by rw [← HQ.out, HP.out]; rfl, n + n2, rfl⟩
  have e3b : (a == [80, 85, 66]) = false := by simpa using e3
  have HP : Hid (parseW s = none) := Lib.hid (by rw [HP0.out]; unfold wSUB wUNSUB wPUB; rw [if_neg e1, if_neg e2, if_neg e3])
  clear e1 e2 e3
  go_enter Tryz.func41, Tryz.ntmps41
  go_wp2_with fail
  refine HC.out.mono ?_
  rintro e w' ⟨rfl, n, rfl⟩
  go_wp2_with fail
  refine (HC2.out _).mono ?_
  rintro e w' ⟨rfl, n2, rfl⟩
  go_wp2
  go_ret3
  exact ⟨by rw [← HQ.out, HP.out]; rfl, n + n2, rfl⟩

end Go.Proofs.YtdobgebdlbckoaaGreatDoor.WdE
