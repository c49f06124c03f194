import Derived.Test.YtedkkcbdhbbegaaTmI5
import Derived.Test.YtedkkcbdhbbegaaFork
import Derived.WalkLawsBesides
import Derived.WalkSpells
import Derived.Test.YtedkkcbdhbbegaaRng
import Derived.OwnWalkIn
import Derived.TacticsInMore
import Derived.LoopNIn
import Derived.LoopIn
namespace Go.Proofs.Ytedkkcbdhbbegaa.TmI6
open Go Go.RowKit Go.Proofs Go.Proofs.Ytedkkcbdhbbegaa.Sep Go.Proofs.Ytedkkcbdhbbegaa.Reg Go.Proofs.Ytedkkcbdhbbegaa.Frame Go.Proofs.Ytedkkcbdhbbegaa.Slc Go.Proofs.Ytedkkcbdhbbegaa.Fork Go.Proofs.Ytedkkcbdhbbegaa.TmP Go.Proofs.Ytedkkcbdhbbegaa.TmQ Go.Proofs.Ytedkkcbdhbbegaa.Rng Go.Proofs.Ytedkkcbdhbbegaa.TmI Go.Proofs.Ytedkkcbdhbbegaa.TmI2 Go.Proofs.Ytedkkcbdhbbegaa.TmI3 Go.Proofs.Ytedkkcbdhbbegaa.TmI4 Go.Proofs.Ytedkkcbdhbbegaa.TmI5

set_option maxRecDepth 100000 in
set_option maxHeartbeats 8000000 in
theorem Clone_any (v : Value) (l : List (κ × Int)) (n : Nat) (hn : l.length = n) (hn1 : n ≤ 1000000) {W w : World} {A : Asn} (h : St W w A) (hsl : Sl w 2 v n (tsV l)) :
    Calls Try.prog 43 #[v] w fun e w' => ∃ v', e = .returned v' ∧ St W w' (star (Row 61 2 v' n (tsV l)) A) := by
  obtain ⟨i0, hi0, hz0, hz1, hz2⟩ := info_parts infoT3
  have U := Try.underlying56
  obtain ⟨hxl, a, c, rfl, hnc, hcm, hc0, hcs⟩ := id hsl
  have q := fun (w : World) (a : Option Addr) (n c : Nat) => Lib.run_eql_slice_nil (P := Try.prog) w 56 61 a n c 0 0 U
  cases a with
  | none =>
    obtain rfl := hc0 rfl
    obtain rfl : n = 0 := by omega
    obtain rfl : l = [] := List.length_eq_zero_iff.1 hn
    clear hsl hcs
    go_enter Try.func43, Try.ntmps43
    go_wp2
    go_ret
    exact ⟨_, rfl, h.nilRow⟩
  | some ad =>
    have h1 := h.alloc (.cells #[] 61)
    have h2 := St.mkRow (size := 2) (n := 0) (cap := 0) (xs := []) h1 (Nat.le_refl _) (Nat.zero_le _) rfl rfl
    have hsl2 : Sl (w.alloc (.cells #[] 61)) 2 (.slice (some ad) n c) n (tsV l) := ⟨hxl, _, _, rfl, hnc, hcm, hc0, fun ad hd i u hu => (World.cell?_alloc_lt _ _ _ (World.block_lt_of_cell? w _ (hcs ad hd i u hu))).trans (hcs ad hd i u hu)⟩
    clear hcs hsl
    go_enter Try.func43, Try.ntmps43
    go_wp2_with (at_builtin; refine wpList_append_Sl rfl (.tmp 5) (.tmp 6) 56 rfl 61 i0 zV 2 16 U hi0 hz0 hz1 hz2 rfl _ 0 [] rfl h2 _ n (tsV l) rfl hsl2 (tsV_one _) (by unfold maxLen; omega) (by omega) ?_; intro v9 w9 hS9 hv9)
    obtain ⟨_, a9, c9, rfl, _⟩ := id hS9.rowSl
    rw [Nat.zero_add, List.nil_append] at hS9
    have HZ : Hid (Value.slice a9 (0 + n) c9 = .slice a9 n c9) := Lib.hid (by rw [Nat.zero_add])
    rw [HZ.out]
    go_wp2
    go_ret
    exact ⟨_, rfl, hS9⟩

/-- One that hands on a yield's word. -/
theorem All_any (p : Nat) {W w : World} {A : Asn} (h : St W w A) :
    Calls Try.prog 30 #[.pointer (some ⟨p, 0, none⟩)] w fun e w' => ∃ b, e = .returned (.func (.func 42) #[] #[.pointer (some ⟨b, 0, none⟩)]) ∧ St W w' (star (pt b (.cells #[.pointer (some ⟨p, 0, none⟩)] 24 (0, 0))) A) := by
  have h1 := h.alloc (.cells #[.pointer (some ⟨p, 0, none⟩)] 24)
  go_enter Try.func30, Try.ntmps30
  go_wp2
  go_ret
  exact ⟨_, rfl, h1⟩

end Go.Proofs.Ytedkkcbdhbbegaa.TmI6
