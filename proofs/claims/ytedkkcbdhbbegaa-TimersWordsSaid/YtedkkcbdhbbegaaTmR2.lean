import Derived.Test.YtedkkcbdhbbegaaTmR
import Derived.Deep.QuietTactic
import Derived.BigQuiet
namespace Go.Proofs.Ytedkkcbdhbbegaa.TmR2
open Go Go.RowKit Go.Proofs Go.Proofs.Ytedkkcbdhbbegaa.Sep Go.Proofs.Ytedkkcbdhbbegaa.Reg Go.Proofs.Ytedkkcbdhbbegaa.Frame Go.Proofs.Ytedkkcbdhbbegaa.Slc Go.Proofs.Ytedkkcbdhbbegaa.TmP Go.Proofs.Ytedkkcbdhbbegaa.TmQ Go.Proofs.Ytedkkcbdhbbegaa.TmI Go.Proofs.Ytedkkcbdhbbegaa.TmI2 Go.Proofs.Ytedkkcbdhbbegaa.TmI3 Go.Proofs.Ytedkkcbdhbbegaa.TmI4 Go.Proofs.Ytedkkcbdhbbegaa.TmI5 Go.Proofs.Ytedkkcbdhbbegaa.TmK Go.Proofs.Ytedkkcbdhbbegaa.TmK3 Go.Proofs.Ytedkkcbdhbbegaa.TmR

def firstZ (l : List (κ × Int)) (i : Nat) : Int := if i = 0 then -1 else (bestTo ltK l i : Nat)
set_option maxRecDepth 100000 in
set_option maxHeartbeats 8000000 in
theorem rFirst_any (a : Option Addr) (n c : Nat) (l : List (κ × Int)) (hn : l.length = n) (hn1 : n ≤ 1000000) (w : World) (hsl : Sl w 2 (.slice a n c) n (tsV l)) :
    Calls Try.prog 15 #[.slice a n c] w (Makes w (.int .i64 (firstZ l n))) := by
  have h0 := St.start w
  have HSL := Lib.hid hsl
  have HL := Lib.hid hn
  clear hsl hn
  go_enter Try.func15, Try.ntmps15
  go_wp2_with fail
  go_loopw [3, 4] (fun bv iv wr => ∃ i : Nat, i ≤ n ∧ iv = .int .i64 i ∧ bv = .int .i64 (firstZ l i) ∧ St w wr emp) (fun _ iv _ => n - (intOf iv).toNat)
  case atStart => exact ⟨0, Nat.zero_le _, rfl, rfl, h0⟩
  case round =>
    obtain ⟨i, hi, rfl, rfl, hS⟩ := hrel
    by_cases hin : i < n
    · obtain ⟨x, hx⟩ : ∃ x, l[i]? = some x := ⟨_, List.getElem?_eq_getElem (by rw [HL.out]; exact hin)⟩
      obtain ⟨ab, ao, rfl, hel⟩ := el_at HSL.out hx
      obtain ⟨x1, x2⟩ := x
      obtain ⟨he0, he1⟩ := hel _ _ hS
      by_cases h00 : i = 0
      · subst h00
        have e1 : firstZ l 0 = -1 := rfl
        have e2 : Hid (firstZ l 1 = 0) := Lib.hid rfl
        rw [e1]
        clear hx hel
        go_wp2_with fail
        go_big_quiet (fail)
        have hS2 := hS.drewN nq
        go_wp2_with fail
        exact ⟨⟨1, hin, rfl, by rw [e2.out], hS2⟩, by simp [intOf]; omega⟩
      · obtain ⟨b, hb⟩ : ∃ b, bestTo ltK l i = b := ⟨_, rfl⟩
        have hbl : b < i := hb ▸ bestTo_lt l i (by omega) (by rw [HL.out]; exact hi)
        have e1 : firstZ l i = (b : Nat) := by unfold firstZ; rw [if_neg h00, hb]
        obtain ⟨y, hy⟩ : ∃ y, l[b]? = some y := ⟨_, List.getElem?_eq_getElem (by rw [HL.out]; omega)⟩
        obtain ⟨ab', ao', e', hel'⟩ := el_at HSL.out hy
        cases e'
        obtain ⟨y1, y2⟩ := y
        obtain ⟨he2, he3⟩ := hel' _ _ hS
        have hst := bestTo_step (lt := ltK) (w := l) (i := i) (by omega) (by rw [HL.out]; exact hin) (by rw [hb, HL.out]; omega)
        have hxi : l[i]'(by rw [HL.out]; exact hin) = (x1, x2) := by
          have := List.getElem?_eq_getElem (show i < l.length by rw [HL.out]; exact hin)
          rw [this] at hx; exact Option.some.inj hx
        have hyi : l[bestTo ltK l i]'(by rw [hb, HL.out]; omega) = (y1, y2) := by
          have h1 := List.getElem?_eq_getElem (show bestTo ltK l i < l.length by rw [hb, HL.out]; omega)
          have h2 : l[bestTo ltK l i]? = some (y1, y2) := by rw [hb]; exact hy
          rw [h1] at h2; exact Option.some.inj h2
        have HST : Hid (firstZ l (i + 1) = if (decide (x2 < y2) || (decide (x2 = y2) && ltK x1 y1)) = true then (i : Int) else (b : Int)) := Lib.hid (by
          unfold firstZ
          rw [if_neg (by omega), hst, hxi, hyi, hb]
          unfold bef
          dsimp only
          split <;> rfl)
        rw [e1]
        have hb0 : decide ((b : Int) < 0) = false := by simp
        have hbn : b < n := by omega
        clear hst hxi hyi hx hy hel hel' e1 hb h00
        by_cases c1 : x2 < y2
        · have HV : Hid (firstZ l (i + 1) = (i : Int)) := Lib.hid (by rw [HST.out, if_pos (by simp [c1])])
          have c1b : decide (x2 < y2) = true := by simpa using c1
          clear HST c1
          go_wp2_with fail
          go_big_quiet (fail)
          have hS2 := hS.drewN nq
          go_wp2_with fail
          exact ⟨⟨i + 1, hin, by go_num, by rw [HV.out], hS2⟩, by simp [intOf]; omega⟩
        · have c1b : decide (x2 < y2) = false := by simpa using c1
          by_cases c2 : x2 = y2
          · by_cases c3 : x1 < y1
            · have HV : Hid (firstZ l (i + 1) = (i : Int)) := Lib.hid (by rw [HST.out, if_pos (by simp [c2, ltK, c3])])
              clear HST
              subst c2
              go_wp2_with fail
              go_big_quiet (fail)
              have hS2 := hS.drewN nq
              go_wp2_with fail
              exact ⟨⟨i + 1, hin, by go_num, by rw [HV.out], hS2⟩, by simp [intOf]; omega⟩
            · have HV : Hid (firstZ l (i + 1) = (b : Int)) := Lib.hid (by rw [HST.out, if_neg (by simp [c2, ltK, c3])])
              have c3b : decide (x1 < y1) = false := by simpa using c3
              clear HST
              subst c2
              go_wp2_with fail
              go_big_quiet (fail)
              have hS2 := hS.drewN nq
              go_wp2_with fail
              exact ⟨⟨i + 1, hin, by go_num, by rw [HV.out], hS2⟩, by simp [intOf]; omega⟩
          · have HV : Hid (firstZ l (i + 1) = (b : Int)) := Lib.hid (by rw [HST.out, if_neg (by simp [c1, c2])])
            have c2b : (x2 == y2) = false := by simpa using c2
            clear HST c2
            go_wp2_with fail
            go_big_quiet (fail)
            have hS2 := hS.drewN nq
            go_wp2_with fail
            exact ⟨⟨i + 1, hin, by go_num, by rw [HV.out], hS2⟩, by simp [intOf]; omega⟩
    · obtain rfl : i = n := by omega
      go_wp2
      go_ret
      exact ⟨rfl, hS.below⟩
end Go.Proofs.Ytedkkcbdhbbegaa.TmR2
