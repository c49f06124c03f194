import Derived.Test.YtdobgebdlbckoaaGreatDoorProg
import Derived.Test.YtdobgebdlbckoaaGreatDoorSlc
import Derived.Test.YtdobgebdlbckoaaGreatDoorReg
import Derived.Test.YtdobgebdlbckoaaGreatDoorMs
import Derived.Test.YtdobgebdlbckoaaGreatDoorTpP
import Derived.Test.YtdobgebdlbckoaaGreatDoorStrs
import Derived.Lib.Overlaps
import Derived.WalkLawsBesides
import Derived.WalkSpells
namespace Go.Proofs.YtdobgebdlbckoaaGreatDoor.TpA
open Go Go.RowKit Go.Proofs Go.Proofs.YtdobgebdlbckoaaGreatDoor.Sep Go.Proofs.YtdobgebdlbckoaaGreatDoor.Reg Go.Proofs.YtdobgebdlbckoaaGreatDoor.Frame Go.Proofs.YtdobgebdlbckoaaGreatDoor.Slc Go.Proofs.YtdobgebdlbckoaaGreatDoor.Mp Go.Proofs.YtdobgebdlbckoaaGreatDoor.Ms Go.Proofs.YtdobgebdlbckoaaGreatDoor.TpP

abbrev kI (k : Int) : Value := .int .i64 k
/-- An index, or none. -/
def ixV (o : Option Nat) : Int := match o with
  | some i => i
  | none => -1
abbrev kS (s : Tx) : Value := .string ⟨s.toArray⟩

theorem infoI : (Tryz.prog.info? 3).map (fun i => (i.zero, i.size, i.bytes)) = some (some (.int .i64 0), 1, 8) := by kernel_rfl
theorem oneI (l : List Int) : ∀ u ∈ l.map kI, u.oneCell' = true := by
  intro u hu
  obtain ⟨x, _, rfl⟩ := List.mem_map.1 hu
  rfl
/-- The element i of a slice, in every later world. -/
theorem elI {W : World} {a : Option Addr} {n c : Nat} {l : List Int} (h : Sl W 1 (.slice a n c) n (l.map kI)) {i : Nat} {x : Int} (hx : l[i]? = some x) :
    ∃ ab ao, a = some ⟨ab, ao, none⟩ ∧ ∀ w A, St W w A → w.cell? ⟨ab, ao + i, none⟩ = some (kI x) := by
  have hg : (l.map kI)[i]? = some (kI x) := by rw [List.getElem?_map, hx]; rfl
  obtain ⟨ab, ao, rfl, hc⟩ := sl_addr h (by have := (List.getElem?_eq_some_iff.1 hg).1; omega)
  have hc := hc i _ hg
  exact ⟨ab, ao, rfl, fun w A hS => (hS.old (World.block_lt_of_cell? W _ hc)).trans hc⟩
set_option maxRecDepth 100000 in
set_option maxHeartbeats 8000000 in
theorem CloneI_any (v : Value) (l : List Int) (n : Nat) (hn : l.length = n) (hn1 : n ≤ 1000000) {W w : World} {A : Asn} (h : St W w A) (hsl : Sl w 1 v n (l.map kI)) :
    Calls Tryz.prog 68 #[v] w fun e w' => ∃ v', e = .returned v' ∧ St W w' (star (Row 3 1 v' n (l.map kI)) A) := by
  obtain ⟨i0, hi0, hz0, hz1, hz2⟩ := info_parts infoI
  have U := Tryz.underlying33
  obtain ⟨hxl, a, c, rfl, hnc, hcm, hc0, hcs⟩ := id hsl
  have q := fun (w : World) (a : Option Addr) (n c : Nat) => Lib.run_eql_slice_nil (P := Tryz.prog) w 33 3 a n c 0 0 U
  cases a with
  | none =>
    obtain rfl := hc0 rfl
    obtain rfl : n = 0 := by omega
    obtain rfl : l = [] := List.length_eq_zero_iff.1 hn
    clear hsl hcs
    go_enter Tryz.func68, Tryz.ntmps68
    go_wp2
    go_ret
    exact ⟨_, rfl, h.nilRow⟩
  | some ad =>
    have h1 := h.alloc (.cells #[] 3)
    have h2 := St.mkRow (size := 1) (n := 0) (cap := 0) (xs := []) h1 (Nat.le_refl _) (Nat.zero_le _) rfl rfl
    have hsl2 : Sl (w.alloc (.cells #[] 3)) 1 (.slice (some ad) n c) n (l.map kI) := ⟨hxl, _, _, rfl, hnc, hcm, hc0, fun ad hd i u hu => (World.cell?_alloc_lt _ _ _ (World.block_lt_of_cell? w _ (hcs ad hd i u hu))).trans (hcs ad hd i u hu)⟩
    clear hcs hsl
    go_enter Tryz.func68, Tryz.ntmps68
    go_wp2_with (at_builtin; refine wpList_append_Sl rfl (.tmp 5) (.tmp 6) 33 rfl 3 i0 (.int .i64 0) 1 8 U hi0 hz0 hz1 hz2 rfl _ 0 [] rfl h2 _ n (l.map kI) rfl hsl2 (oneI _) (by unfold maxLen; omega) (by omega) ?_; intro v9 w9 hS9 hv9)
    obtain ⟨_, a9, c9, rfl, _⟩ := id hS9.rowSl
    rw [Nat.zero_add, List.nil_append] at hS9
    have HZ : Hid (Value.slice a9 (0 + n) c9 = .slice a9 n c9) := Lib.hid (by rw [Nat.zero_add])
    rw [HZ.out]
    go_wp2
    go_ret
    exact ⟨_, rfl, hS9⟩
set_option maxRecDepth 100000 in
theorem isI_any (x y : Int) (b : Bool) (hb : (x == y) = b) (bx : Nat) (w : World) (h : w.cell? ⟨bx, 0, none⟩ = some (kI y)) :
    Calls Tryz.prog 77 #[kI x, .pointer (some ⟨bx, 0, none⟩)] w (Makes w (.bool b)) := by
  have HB := Lib.hid hb
  clear hb
  go_enter Tryz.func77, Tryz.ntmps77
  go_wp2
  go_ret
  refine ⟨?_, Below.refl _ _⟩
  show Ending.returned (Value.bool _) = _
  rw [← HB.out]
/-- Where one first stands. -/
def atI (l : List Int) (y : Int) : Option Nat := l.findIdx? fun x => decide (x = y)
set_option maxRecDepth 100000 in
set_option maxHeartbeats 8000000 in
theorem IndexI_any (v : Value) (l : List Int) (n : Nat) (hn : l.length = n) (hn1 : n ≤ 1000000) (y : Int) (bx : Nat) (q : Int) (hq : ixV (atI l y) = q) (w : World) (hsl : Sl w 1 v n (l.map kI)) (h : w.cell? ⟨bx, 0, none⟩ = some (kI y)) :
    Calls Tryz.prog 97 #[v, .func (.func 77) #[] #[.pointer (some ⟨bx, 0, none⟩)]] w (Makes w (.int .i64 q)) := by
  have h0 := St.start w
  obtain ⟨_, a, c, rfl, _⟩ := id hsl
  have HSL := Lib.hid hsl
  have HL := Lib.hid hn
  have HQ := Lib.hid hq
  have HH := Lib.hid (fun w' A (hS : St w w' A) => (hS.old (World.block_lt_of_cell? w _ h)).trans h)
  clear hsl hn h hq
  go_enter Tryz.func97, Tryz.ntmps97
  go_wp2_with fail
  go_loopw [8] (fun iv wr => ∃ i : Nat, i ≤ n ∧ iv = .int .i64 i ∧ (∀ x ∈ l.take i, x ≠ y) ∧ St w wr emp) (fun iv _ => n - (intOf iv).toNat)
  case atStart => exact ⟨0, Nat.zero_le _, rfl, by simp, h0⟩
  case round =>
    obtain ⟨i, hi, rfl, htk, hS⟩ := hrel
    have HT := Lib.hid htk
    clear htk
    by_cases hin : i < n
    · obtain ⟨x, hx⟩ : ∃ x, l[i]? = some x := ⟨_, List.getElem?_eq_getElem (by rw [HL.out]; exact hin)⟩
      obtain ⟨ab, ao, rfl, hel⟩ := elI HSL.out hx
      have he := hel _ _ hS
      have HI := fun b hb => isI_any x y b hb bx wr (HH.out _ _ hS)
      have HX := Lib.hid hx
      clear hel hx
      by_cases hxy : x = y
      · have HV : Hid (atI l y = some i) := Lib.hid (by
          unfold atI
          rw [List.findIdx?_eq_some_iff_getElem]
          obtain ⟨hil, e1⟩ := List.getElem?_eq_some_iff.1 HX.out
          refine ⟨hil, by simp [e1, hxy], fun j hj => ?_⟩
          have := HT.out (l[j]'(by omega)) (List.mem_take_iff_getElem.2 ⟨j, by omega, rfl⟩)
          simp [this])
        have HI2 := Lib.hid (HI true (by simpa using hxy))
        clear HI hxy
        go_wp2_with fail
        refine HI2.out.mono ?_
        rintro e w2 hq
        have h2 := hS.makes hq
        obtain ⟨rfl, -⟩ := hq
        go_wp2
        go_ret
        exact ⟨by rw [← HQ.out, HV.out]; rfl, h2.below⟩
      · have HK := Lib.hid hxy
        have HI2 := Lib.hid (HI false (by simpa using hxy))
        clear HI hxy
        go_wp2_with fail
        refine HI2.out.mono ?_
        rintro e w2 hq
        have h2 := hS.makes hq
        obtain ⟨rfl, -⟩ := hq
        go_wp2_with fail
        exact ⟨⟨i + 1, by omega, by go_num, by
          rw [List.take_add_one, HX.out]
          intro z hz
          rcases List.mem_append.1 hz with h | h
          · exact HT.out z h
          · simp at h; subst h; exact HK.out, h2⟩, by simp [intOf]; omega⟩
    · obtain rfl : i = n := by omega
      have HV : Hid (atI l y = none) := Lib.hid (by
        unfold atI
        rw [List.findIdx?_eq_none_iff]
        intro x hx
        have := HT.out x (by rw [List.take_of_length_le (by rw [HL.out]; omega)]; exact hx)
        simpa using this)
      go_wp2
      go_ret
      exact ⟨by rw [← HQ.out, HV.out]; rfl, hS.below⟩

theorem infoS : (Tryz.prog.info? 9).map (fun i => (i.zero, i.size, i.bytes)) = some (some (.string ByteArray.empty), 1, 16) := by kernel_rfl
theorem oneS (l : List Tx) : ∀ u ∈ l.map kS, u.oneCell' = true := by
  intro u hu
  obtain ⟨x, _, rfl⟩ := List.mem_map.1 hu
  rfl
/-- The element i of a slice, in every later world. -/
theorem elS {W : World} {a : Option Addr} {n c : Nat} {l : List Tx} (h : Sl W 1 (.slice a n c) n (l.map kS)) {i : Nat} {x : Tx} (hx : l[i]? = some x) :
    ∃ ab ao, a = some ⟨ab, ao, none⟩ ∧ ∀ w A, St W w A → w.cell? ⟨ab, ao + i, none⟩ = some (kS x) := by
  have hg : (l.map kS)[i]? = some (kS x) := by rw [List.getElem?_map, hx]; rfl
  obtain ⟨ab, ao, rfl, hc⟩ := sl_addr h (by have := (List.getElem?_eq_some_iff.1 hg).1; omega)
  have hc := hc i _ hg
  exact ⟨ab, ao, rfl, fun w A hS => (hS.old (World.block_lt_of_cell? W _ hc)).trans hc⟩
set_option maxRecDepth 100000 in
set_option maxHeartbeats 8000000 in
theorem CloneS_any (v : Value) (l : List Tx) (n : Nat) (hn : l.length = n) (hn1 : n ≤ 1000000) {W w : World} {A : Asn} (h : St W w A) (hsl : Sl w 1 v n (l.map kS)) :
    Calls Tryz.prog 62 #[v] w fun e w' => ∃ v', e = .returned v' ∧ St W w' (star (Row 9 1 v' n (l.map kS)) A) := by
  obtain ⟨i0, hi0, hz0, hz1, hz2⟩ := info_parts infoS
  have U := Tryz.underlying36
  obtain ⟨hxl, a, c, rfl, hnc, hcm, hc0, hcs⟩ := id hsl
  have q := fun (w : World) (a : Option Addr) (n c : Nat) => Lib.run_eql_slice_nil (P := Tryz.prog) w 36 9 a n c 0 0 U
  cases a with
  | none =>
    obtain rfl := hc0 rfl
    obtain rfl : n = 0 := by omega
    obtain rfl : l = [] := List.length_eq_zero_iff.1 hn
    clear hsl hcs
    go_enter Tryz.func62, Tryz.ntmps62
    go_wp2
    go_ret
    exact ⟨_, rfl, h.nilRow⟩
  | some ad =>
    have h1 := h.alloc (.cells #[] 9)
    have h2 := St.mkRow (size := 1) (n := 0) (cap := 0) (xs := []) h1 (Nat.le_refl _) (Nat.zero_le _) rfl rfl
    have hsl2 : Sl (w.alloc (.cells #[] 9)) 1 (.slice (some ad) n c) n (l.map kS) := ⟨hxl, _, _, rfl, hnc, hcm, hc0, fun ad hd i u hu => (World.cell?_alloc_lt _ _ _ (World.block_lt_of_cell? w _ (hcs ad hd i u hu))).trans (hcs ad hd i u hu)⟩
    clear hcs hsl
    go_enter Tryz.func62, Tryz.ntmps62
    go_wp2_with (at_builtin; refine wpList_append_Sl rfl (.tmp 5) (.tmp 6) 36 rfl 9 i0 (.string ByteArray.empty) 1 16 U hi0 hz0 hz1 hz2 rfl _ 0 [] rfl h2 _ n (l.map kS) rfl hsl2 (oneS _) (by unfold maxLen; omega) (by omega) ?_; intro v9 w9 hS9 hv9)
    obtain ⟨_, a9, c9, rfl, _⟩ := id hS9.rowSl
    rw [Nat.zero_add, List.nil_append] at hS9
    have HZ : Hid (Value.slice a9 (0 + n) c9 = .slice a9 n c9) := Lib.hid (by rw [Nat.zero_add])
    rw [HZ.out]
    go_wp2
    go_ret
    exact ⟨_, rfl, hS9⟩
set_option maxRecDepth 100000 in
theorem isS_any (x y : Tx) (b : Bool) (hb : (x == y) = b) (bx : Nat) (w : World) (h : w.cell? ⟨bx, 0, none⟩ = some (kS y)) :
    Calls Tryz.prog 79 #[kS x, .pointer (some ⟨bx, 0, none⟩)] w (Makes w (.bool b)) := by
  have HB := Lib.hid hb
  clear hb
  go_enter Tryz.func79, Tryz.ntmps79
  go_wp2
  go_ret
  refine ⟨?_, Below.refl _ _⟩
  show Ending.returned (Value.bool _) = _
  rw [← HB.out]
/-- Where one first stands. -/
def atS (l : List Tx) (y : Tx) : Option Nat := l.findIdx? fun x => decide (x = y)
set_option maxRecDepth 100000 in
set_option maxHeartbeats 8000000 in
theorem IndexS_any (v : Value) (l : List Tx) (n : Nat) (hn : l.length = n) (hn1 : n ≤ 1000000) (y : Tx) (bx : Nat) (q : Int) (hq : ixV (atS l y) = q) (w : World) (hsl : Sl w 1 v n (l.map kS)) (h : w.cell? ⟨bx, 0, none⟩ = some (kS y)) :
    Calls Tryz.prog 98 #[v, .func (.func 79) #[] #[.pointer (some ⟨bx, 0, none⟩)]] w (Makes w (.int .i64 q)) := by
  have h0 := St.start w
  obtain ⟨_, a, c, rfl, _⟩ := id hsl
  have HSL := Lib.hid hsl
  have HL := Lib.hid hn
  have HQ := Lib.hid hq
  have HH := Lib.hid (fun w' A (hS : St w w' A) => (hS.old (World.block_lt_of_cell? w _ h)).trans h)
  clear hsl hn h hq
  go_enter Tryz.func98, Tryz.ntmps98
  go_wp2_with fail
  go_loopw [8] (fun iv wr => ∃ i : Nat, i ≤ n ∧ iv = .int .i64 i ∧ (∀ x ∈ l.take i, x ≠ y) ∧ St w wr emp) (fun iv _ => n - (intOf iv).toNat)
  case atStart => exact ⟨0, Nat.zero_le _, rfl, by simp, h0⟩
  case round =>
    obtain ⟨i, hi, rfl, htk, hS⟩ := hrel
    have HT := Lib.hid htk
    clear htk
    by_cases hin : i < n
    · obtain ⟨x, hx⟩ : ∃ x, l[i]? = some x := ⟨_, List.getElem?_eq_getElem (by rw [HL.out]; exact hin)⟩
      obtain ⟨ab, ao, rfl, hel⟩ := elS HSL.out hx
      have he := hel _ _ hS
      have HI := fun b hb => isS_any x y b hb bx wr (HH.out _ _ hS)
      have HX := Lib.hid hx
      clear hel hx
      by_cases hxy : x = y
      · have HV : Hid (atS l y = some i) := Lib.hid (by
          unfold atS
          rw [List.findIdx?_eq_some_iff_getElem]
          obtain ⟨hil, e1⟩ := List.getElem?_eq_some_iff.1 HX.out
          refine ⟨hil, by simp [e1, hxy], fun j hj => ?_⟩
          have := HT.out (l[j]'(by omega)) (List.mem_take_iff_getElem.2 ⟨j, by omega, rfl⟩)
          simp [this])
        have HI2 := Lib.hid (HI true (by simpa using hxy))
        clear HI hxy
        go_wp2_with fail
        refine HI2.out.mono ?_
        rintro e w2 hq
        have h2 := hS.makes hq
        obtain ⟨rfl, -⟩ := hq
        go_wp2
        go_ret
        exact ⟨by rw [← HQ.out, HV.out]; rfl, h2.below⟩
      · have HK := Lib.hid hxy
        have HI2 := Lib.hid (HI false (by simpa using hxy))
        clear HI hxy
        go_wp2_with fail
        refine HI2.out.mono ?_
        rintro e w2 hq
        have h2 := hS.makes hq
        obtain ⟨rfl, -⟩ := hq
        go_wp2_with fail
        exact ⟨⟨i + 1, by omega, by go_num, by
          rw [List.take_add_one, HX.out]
          intro z hz
          rcases List.mem_append.1 hz with h | h
          · exact HT.out z h
          · simp at h; subst h; exact HK.out, h2⟩, by simp [intOf]; omega⟩
    · obtain rfl : i = n := by omega
      have HV : Hid (atS l y = none) := Lib.hid (by
        unfold atS
        rw [List.findIdx?_eq_none_iff]
        intro x hx
        have := HT.out x (by rw [List.take_of_length_le (by rw [HL.out]; omega)]; exact hx)
        simpa using this)
      go_wp2
      go_ret
      exact ⟨by rw [← HQ.out, HV.out]; rfl, hS.below⟩
end Go.Proofs.YtdobgebdlbckoaaGreatDoor.TpA
