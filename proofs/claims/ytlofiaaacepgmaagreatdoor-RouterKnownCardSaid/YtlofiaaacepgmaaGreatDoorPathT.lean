import Derived.Test.YtlofiaaacepgmaaGreatDoorPathM
namespace Go.Proofs.YtlofiaaacepgmaaGreatDoor.PathT
open Go Go.RowKit Go.Proofs Go.Proofs.YtlofiaaacepgmaaGreatDoor.Sep Go.Proofs.YtlofiaaacepgmaaGreatDoor.Reg Go.Proofs.YtlofiaaacepgmaaGreatDoor.Frame Go.Proofs.YtlofiaaacepgmaaGreatDoor.PathP Go.Proofs.YtlofiaaacepgmaaGreatDoor.PathQ Go.Proofs.YtlofiaaacepgmaaGreatDoor.PathW Go.Proofs.YtlofiaaacepgmaaGreatDoor.PathL Go.Proofs.YtlofiaaacepgmaaGreatDoor.PathM

/-- bytealg's variable holds some number. -/
def MaxLen (w : World) : Prop := ∃ m, w.cell? ⟨0, 0, none⟩ = some (.int .i64 m)
theorem MaxLen.st {W w : World} {A : Asn} (h : MaxLen W) (hS : St W w A) : MaxLen w := by
  obtain ⟨m, hm⟩ := h
  exact ⟨m, (hS.old (World.block_lt_of_cell? W _ hm)).trans hm⟩

theorem drewN_below (w : World) (n : Nat) : Below w.heap.size w (w.drewN n) := (St.drewN (St.start w) n).below
theorem Cut_any (s : List UInt8) (w : World) (hs : s.length ≤ 1000000) (hm : MaxLen w) : Calls Tryz.prog 47 #[.string ⟨s.toArray⟩, .string ⟨#[63]⟩] w fun e w' => ∃ b, Makes w (.tuple #[.string ⟨(cutQ s).1.toArray⟩, .string ⟨(cutQ s).2.toArray⟩, .bool b]) e w' := by
  obtain ⟨m, hm⟩ := hm
  refine (Tryz.strings_Cut ⟨s.toArray⟩ ⟨#[63]⟩ m w (by simp [ByteArray.size]; omega) hm).mono ?_
  rintro e w' ⟨rfl, n, rfl⟩
  obtain ⟨h1, h2⟩ := cut_eq s
  refine ⟨(Lib.cut s [63]).2.2, ?_, drewN_below w n⟩
  rw [← h1, ← h2]

def targV (s : List UInt8) : Value := match target s with
  | some (p, q) => .tuple #[.string ⟨p.toArray⟩, .string ⟨q.toArray⟩, .bool true]
  | none => .tuple #[.string ⟨#[]⟩, .string ⟨#[]⟩, .bool false]
theorem targV_none {s : List UInt8} (h : target s = none) : targV s = .tuple #[.string ⟨#[]⟩, .string ⟨#[]⟩, .bool false] := by unfold targV; rw [h]
theorem targV_some {s p q : List UInt8} (h : target s = some (p, q)) : targV s = .tuple #[.string ⟨p.toArray⟩, .string ⟨q.toArray⟩, .bool true] := by unfold targV; rw [h]
theorem hasPrefix_head (s : List UInt8) : Lib.hasPrefix s [47] = decide (s.head? = some 47) := by
  cases s with
  | nil => rfl
  | cons c r =>
    by_cases h : c = 47
    · subst h; simp [Lib.hasPrefix, List.isPrefixOf]
    · have h2 : (47 == c) = false := by simpa using fun e => h e.symm
      simp [Lib.hasPrefix, List.isPrefixOf, h2, h]
theorem cutQ_len (s : List UInt8) : (cutQ s).1.length ≤ s.length ∧ (cutQ s).2.length ≤ s.length := by
  have h := congrArg List.length (List.takeWhile_append_dropWhile (p := (· != 63)) (l := s))
  simp only [List.length_append] at h
  refine ⟨by show (s.takeWhile _).length ≤ _; omega, ?_⟩
  show ((s.dropWhile _).drop 1).length ≤ _
  rw [List.length_drop]; omega

set_option maxRecDepth 100000 in
set_option maxHeartbeats 1600000 in
theorem Target_any (s : List UInt8) (w : World) (hs : s.length ≤ 1000000) (hm : MaxLen w) : Calls Tryz.prog 27 #[.string ⟨s.toArray⟩] w (Makes w (targV s)) := by
  have HC := Lib.hid (Cut_any s w hs hm)
  obtain ⟨hl1, hl2⟩ := cutQ_len s
  have HT : Hid (target s = if s.length ≤ 512 ∧ (cutQ s).1.head? = some 47 ∧ plainB [] (cutQ s).1 = true ∧ plainB [63] (cutQ s).2 = true then some (cutQ s) else none) := Lib.hid rfl
  have HP := Lib.hid fun w => lplain_any (cutQ s).1 [] w (by omega) (by decide) (by decide)
  have HQ := Lib.hid fun w => lplain_any (cutQ s).2 [63] w (by omega) (by decide) (by decide)
  have HH := Lib.hid fun w => (show Calls Tryz.prog 48 #[.string ⟨(cutQ s).1.toArray⟩, .string ⟨#[47]⟩] w (Same w (.bool (decide ((cutQ s).1.head? = some 47)))) from
    (Tryz.strings_HasPrefix ⟨(cutQ s).1.toArray⟩ ⟨#[47]⟩ w).mono fun e w' ⟨h1, h2⟩ => ⟨by rw [h1]; exact congrArg _ (congrArg _ (hasPrefix_head _)), h2⟩)
  generalize hx : cutQ s = x at *
  obtain ⟨p, q⟩ := x
  simp only at *
  have h0 := St.start w
  by_cases h512 : s.length ≤ 512
  · by_cases hhd : p.head? = some 47
    · have e1 : decide (p.head? = some 47) = true := by simpa using hhd
      rw [e1] at HH
      clear e1
      cases hp : plainB [] p
      · rw [hp] at HP
        have HF : Hid (targV s = _) := Lib.hid (targV_none (by rw [HT.out, if_neg (by rintro ⟨_, _, h, _⟩; rw [hp] at h; cases h)]))
        clear hp hhd
        go_enter Tryz.func27, Tryz.ntmps27
        go_wp2_with fail
        refine HC.out.mono ?_
        rintro e w1 ⟨b, hq⟩
        have h1 := h0.makes hq
        obtain ⟨rfl, -⟩ := hq
        go_wp2_with fail
        refine (HH.out _).mono ?_
        rintro e w' ⟨rfl, rfl⟩
        go_wp2_with fail
        refine (HP.out _).mono ?_
        rintro e w' ⟨rfl, rfl⟩
        go_wp2
        go_ret3
        exact ⟨congrArg Ending.returned HF.out.symm, h1.below⟩
      · rw [hp] at HP
        cases hq : plainB [63] q
        · rw [hq] at HQ
          have HF : Hid (targV s = _) := Lib.hid (targV_none (by rw [HT.out, if_neg (by rintro ⟨_, _, _, h⟩; rw [hq] at h; cases h)]))
          clear hp hhd hq
          go_enter Tryz.func27, Tryz.ntmps27
          go_wp2_with fail
          refine HC.out.mono ?_
          rintro e w1 ⟨b, hq⟩
          have h1 := h0.makes hq
          obtain ⟨rfl, -⟩ := hq
          go_wp2_with fail
          refine (HH.out _).mono ?_
          rintro e w' ⟨rfl, rfl⟩
          go_wp2_with fail
          refine (HP.out _).mono ?_
          rintro e w' ⟨rfl, rfl⟩
          go_wp2_with fail
          refine (HQ.out _).mono ?_
          rintro e w' ⟨rfl, rfl⟩
          go_wp2
          go_ret3
          exact ⟨congrArg Ending.returned HF.out.symm, h1.below⟩
        · rw [hq] at HQ
          have HF : Hid (targV s = _) := Lib.hid (targV_some (by rw [HT.out, if_pos ⟨h512, hhd, hp, hq⟩]))
          clear hp hhd hq
          go_enter Tryz.func27, Tryz.ntmps27
          go_wp2_with fail
          refine HC.out.mono ?_
          rintro e w1 ⟨b, hq⟩
          have h1 := h0.makes hq
          obtain ⟨rfl, -⟩ := hq
          go_wp2_with fail
          refine (HH.out _).mono ?_
          rintro e w' ⟨rfl, rfl⟩
          go_wp2_with fail
          refine (HP.out _).mono ?_
          rintro e w' ⟨rfl, rfl⟩
          go_wp2_with fail
          refine (HQ.out _).mono ?_
          rintro e w' ⟨rfl, rfl⟩
          go_wp2
          go_ret3
          exact ⟨congrArg Ending.returned HF.out.symm, h1.below⟩
    · have e1 : decide (p.head? = some 47) = false := by simpa using hhd
      rw [e1] at HH
      have HF : Hid (targV s = _) := Lib.hid (targV_none (by rw [HT.out, if_neg (by rintro ⟨_, h, _⟩; exact hhd h)]))
      clear e1 hhd
      go_enter Tryz.func27, Tryz.ntmps27
      go_wp2_with fail
      refine HC.out.mono ?_
      rintro e w1 ⟨b, hq⟩
      have h1 := h0.makes hq
      obtain ⟨rfl, -⟩ := hq
      go_wp2_with fail
      refine (HH.out _).mono ?_
      rintro e w' ⟨rfl, rfl⟩
      go_wp2
      go_ret3
      exact ⟨congrArg Ending.returned HF.out.symm, h1.below⟩
  · have HF : Hid (targV s = _) := Lib.hid (targV_none (by rw [HT.out, if_neg (by rintro ⟨h, _⟩; exact h512 h)]))
    go_enter Tryz.func27, Tryz.ntmps27
    go_wp2_with fail
    refine HC.out.mono ?_
    rintro e w1 ⟨b, hq⟩
    have h1 := h0.makes hq
    obtain ⟨rfl, -⟩ := hq
    go_wp2
    go_ret3
    exact ⟨congrArg Ending.returned HF.out.symm, h1.below⟩

end Go.Proofs.YtlofiaaacepgmaaGreatDoor.PathT
