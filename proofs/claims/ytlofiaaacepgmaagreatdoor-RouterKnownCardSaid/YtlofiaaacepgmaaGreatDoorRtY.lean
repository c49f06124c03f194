/-
  RtA, RtM, RtB, RtC, RtD, RtE, RtR, RtS, RtT in one text.
-/
import Derived.Test.YtlofiaaacepgmaaGreatDoorRtP
import Derived.Test.YtlofiaaacepgmaaGreatDoorWdT
import Derived.Test.YtlofiaaacepgmaaGreatDoorTrT
import Derived.Test.YtlofiaaacepgmaaGreatDoorGen
import Derived.Test.YtlofiaaacepgmaaGreatDoorTrEm
import Derived.Test.YtlofiaaacepgmaaGreatDoorMs
import Derived.Test.YtlofiaaacepgmaaGreatDoorHeld
import Derived.Test.YtlofiaaacepgmaaGreatDoorSlc
import Derived.Deep.Cut
import Derived.BigQuiet
import Derived.WalkSpells
import Derived.Test.YtlofiaaacepgmaaGreatDoorBld
import Derived.Test.YtlofiaaacepgmaaGreatDoorMpR
import Derived.Test.YtlofiaaacepgmaaGreatDoorRng
import Derived.Test.YtlofiaaacepgmaaGreatDoorRngA
import Derived.Test.YtlofiaaacepgmaaGreatDoorRngB
import Derived.Sort.MapsRangeIn
import Derived.Test.YtlofiaaacepgmaaGreatDoorShelf
import Derived.Test.YtlofiaaacepgmaaGreatDoorReg
import Derived.Deep.Draws
namespace Go.Proofs.YtlofiaaacepgmaaGreatDoor.RtA
open Go Go.RowKit Go.Proofs Go.Proofs.YtlofiaaacepgmaaGreatDoor.Sep Go.Proofs.YtlofiaaacepgmaaGreatDoor.Reg Go.Proofs.YtlofiaaacepgmaaGreatDoor.Frame Go.Proofs.YtlofiaaacepgmaaGreatDoor.Strs Go.Proofs.YtlofiaaacepgmaaGreatDoor.Mp Go.Proofs.YtlofiaaacepgmaaGreatDoor.TrP Go.Proofs.YtlofiaaacepgmaaGreatDoor.WdP Go.Proofs.YtlofiaaacepgmaaGreatDoor.WdT Go.Proofs.YtlofiaaacepgmaaGreatDoor.RtP
abbrev kS (t : Tx) : Value := .string ⟨t.toArray⟩
set_option maxRecDepth 100000 in
set_option maxHeartbeats 8000000 in
theorem Right_core {W : World} (m p : Tx) (k : Int) (t : Tx) (hml : m.length ≤ 1000000) (hpl : p.length ≤ 1000000) (hM : TrS.MaxLen W) (a b c d e f g h i : Bool) (ha : isTok m = a) (hb : (splitP p).isSome = b) (hc : decide (k < 1) = c) (hd : decide (4 < k) = d)
    (he : (k == 4) = e) (hf : (m == [71, 69, 84]) = f) (hg : (k == 1) = g) (hh : decide ((t.length : Int) ≤ 4096) = h) (hi : (t == []) = i) :
    Calls Tryz.prog 16 #[.agg #[kS m, kS p, .int .i64 k, kS t]] W (Makes W (.bool (a && (b && (!c && (!d && (!(e && !f) && ((g && h) || i)))))))) := by
  have HT := Lib.hid fun w => Token_any m w hml
  have HP := Lib.hid fun w hm => TrT.Right_any p w hpl hm
  rw [ha] at HT
  rw [hb] at HP
  have h1 := Lib.hid ((St.start W).alloc (.cells #[kS m, kS p, .int .i64 k, kS t] 40 (0, 0)))
  have hS := Lib.hid (hM.st h1.out)
  have c0 := h1.out.cell 0 (v := kS m) rfl
  have c1 := h1.out.cell 1 (v := kS p) rfl
  have c2 := h1.out.cell 2 (v := .int .i64 k) rfl
  have c3 := h1.out.cell 3 (v := kS t) rfl
  have hf2 : (m != [71, 69, 84]) = !f := by rw [← hf]; rfl
  clear ha hb hM
  cases a with
  | false =>
    go_enter Tryz.func16, Tryz.ntmps16
    go_wp2_with fail
    refine (HT.out _).mono ?_
    rintro e w1 ⟨rfl, rfl⟩
    go_wp2
    go_ret
    exact ⟨rfl, h1.out.right.below⟩
  | true =>
    cases b with
    | false =>
      go_enter Tryz.func16, Tryz.ntmps16
      go_wp2_with fail
      refine (HT.out _).mono ?_
      rintro e w1 ⟨rfl, rfl⟩
      go_wp2_with fail
      refine (HP.out _ (hS.out)).mono ?_
      rintro e w2 hq
      have h2 := h1.out.makes hq
      obtain ⟨rfl, -⟩ := hq
      have d0 := h2.cell 0 (v := kS m) rfl
      have d1 := h2.cell 1 (v := kS p) rfl
      have d2 := h2.cell 2 (v := .int .i64 k) rfl
      have d3 := h2.cell 3 (v := kS t) rfl
      clear c0 c1 c2 c3
      go_wp2
      go_ret
      exact ⟨rfl, h2.right.below⟩
    | true =>
      cases c with
      | false =>
        cases d with
        | false =>
          cases e with
          | false =>
            cases g with
            | false =>
              cases i with
              | false =>
                go_enter Tryz.func16, Tryz.ntmps16
                go_wp2_with fail
                refine (HT.out _).mono ?_
                rintro e w1 ⟨rfl, rfl⟩
                go_wp2_with fail
                refine (HP.out _ (hS.out)).mono ?_
                rintro e w2 hq
                have h2 := h1.out.makes hq
                obtain ⟨rfl, -⟩ := hq
                have d0 := h2.cell 0 (v := kS m) rfl
                have d1 := h2.cell 1 (v := kS p) rfl
                have d2 := h2.cell 2 (v := .int .i64 k) rfl
                have d3 := h2.cell 3 (v := kS t) rfl
                clear c0 c1 c2 c3
                go_wp2
                go_ret
                exact ⟨rfl, h2.right.below⟩
              | true =>
                go_enter Tryz.func16, Tryz.ntmps16
                go_wp2_with fail
                refine (HT.out _).mono ?_
                rintro e w1 ⟨rfl, rfl⟩
                go_wp2_with fail
                refine (HP.out _ (hS.out)).mono ?_
                rintro e w2 hq
                have h2 := h1.out.makes hq
                obtain ⟨rfl, -⟩ := hq
                have d0 := h2.cell 0 (v := kS m) rfl
                have d1 := h2.cell 1 (v := kS p) rfl
                have d2 := h2.cell 2 (v := .int .i64 k) rfl
                have d3 := h2.cell 3 (v := kS t) rfl
                clear c0 c1 c2 c3
                go_wp2
                go_ret
                exact ⟨rfl, h2.right.below⟩
            | true =>
              cases h with
              | false =>
                cases i with
                | false =>
                  go_enter Tryz.func16, Tryz.ntmps16
                  go_wp2_with fail
                  refine (HT.out _).mono ?_
                  rintro e w1 ⟨rfl, rfl⟩
                  go_wp2_with fail
                  refine (HP.out _ (hS.out)).mono ?_
                  rintro e w2 hq
                  have h2 := h1.out.makes hq
                  obtain ⟨rfl, -⟩ := hq
                  have d0 := h2.cell 0 (v := kS m) rfl
                  have d1 := h2.cell 1 (v := kS p) rfl
                  have d2 := h2.cell 2 (v := .int .i64 k) rfl
                  have d3 := h2.cell 3 (v := kS t) rfl
                  clear c0 c1 c2 c3
                  go_wp2
                  go_ret
                  exact ⟨rfl, h2.right.below⟩
                | true =>
                  go_enter Tryz.func16, Tryz.ntmps16
                  go_wp2_with fail
                  refine (HT.out _).mono ?_
                  rintro e w1 ⟨rfl, rfl⟩
                  go_wp2_with fail
                  refine (HP.out _ (hS.out)).mono ?_
                  rintro e w2 hq
                  have h2 := h1.out.makes hq
                  obtain ⟨rfl, -⟩ := hq
                  have d0 := h2.cell 0 (v := kS m) rfl
                  have d1 := h2.cell 1 (v := kS p) rfl
                  have d2 := h2.cell 2 (v := .int .i64 k) rfl
                  have d3 := h2.cell 3 (v := kS t) rfl
                  clear c0 c1 c2 c3
                  go_wp2
                  go_ret
                  exact ⟨rfl, h2.right.below⟩
              | true =>
                go_enter Tryz.func16, Tryz.ntmps16
                go_wp2_with fail
                refine (HT.out _).mono ?_
                rintro e w1 ⟨rfl, rfl⟩
                go_wp2_with fail
                refine (HP.out _ (hS.out)).mono ?_
                rintro e w2 hq
                have h2 := h1.out.makes hq
                obtain ⟨rfl, -⟩ := hq
                have d0 := h2.cell 0 (v := kS m) rfl
                have d1 := h2.cell 1 (v := kS p) rfl
                have d2 := h2.cell 2 (v := .int .i64 k) rfl
                have d3 := h2.cell 3 (v := kS t) rfl
                clear c0 c1 c2 c3
                go_wp2
                go_ret
                exact ⟨rfl, h2.right.below⟩
          | true =>
            cases f with
            | false =>
              go_enter Tryz.func16, Tryz.ntmps16
              go_wp2_with fail
              refine (HT.out _).mono ?_
              rintro e w1 ⟨rfl, rfl⟩
              go_wp2_with fail
              refine (HP.out _ (hS.out)).mono ?_
              rintro e w2 hq
              have h2 := h1.out.makes hq
              obtain ⟨rfl, -⟩ := hq
              have d0 := h2.cell 0 (v := kS m) rfl
              have d1 := h2.cell 1 (v := kS p) rfl
              have d2 := h2.cell 2 (v := .int .i64 k) rfl
              have d3 := h2.cell 3 (v := kS t) rfl
              clear c0 c1 c2 c3
              go_wp2
              go_ret
              exact ⟨rfl, h2.right.below⟩
            | true =>
              cases g with
              | false =>
                cases i with
                | false =>
                  go_enter Tryz.func16, Tryz.ntmps16
                  go_wp2_with fail
                  refine (HT.out _).mono ?_
                  rintro e w1 ⟨rfl, rfl⟩
                  go_wp2_with fail
                  refine (HP.out _ (hS.out)).mono ?_
                  rintro e w2 hq
                  have h2 := h1.out.makes hq
                  obtain ⟨rfl, -⟩ := hq
                  have d0 := h2.cell 0 (v := kS m) rfl
                  have d1 := h2.cell 1 (v := kS p) rfl
                  have d2 := h2.cell 2 (v := .int .i64 k) rfl
                  have d3 := h2.cell 3 (v := kS t) rfl
                  clear c0 c1 c2 c3
                  go_wp2
                  go_ret
                  exact ⟨rfl, h2.right.below⟩
                | true =>
                  go_enter Tryz.func16, Tryz.ntmps16
                  go_wp2_with fail
                  refine (HT.out _).mono ?_
                  rintro e w1 ⟨rfl, rfl⟩
                  go_wp2_with fail
                  refine (HP.out _ (hS.out)).mono ?_
                  rintro e w2 hq
                  have h2 := h1.out.makes hq
                  obtain ⟨rfl, -⟩ := hq
                  have d0 := h2.cell 0 (v := kS m) rfl
                  have d1 := h2.cell 1 (v := kS p) rfl
                  have d2 := h2.cell 2 (v := .int .i64 k) rfl
                  have d3 := h2.cell 3 (v := kS t) rfl
                  clear c0 c1 c2 c3
                  go_wp2
                  go_ret
                  exact ⟨rfl, h2.right.below⟩
              | true =>
                cases h with
                | false =>
                  cases i with
                  | false =>
                    go_enter Tryz.func16, Tryz.ntmps16
                    go_wp2_with fail
                    refine (HT.out _).mono ?_
                    rintro e w1 ⟨rfl, rfl⟩
                    go_wp2_with fail
                    refine (HP.out _ (hS.out)).mono ?_
                    rintro e w2 hq
                    have h2 := h1.out.makes hq
                    obtain ⟨rfl, -⟩ := hq
                    have d0 := h2.cell 0 (v := kS m) rfl
                    have d1 := h2.cell 1 (v := kS p) rfl
                    have d2 := h2.cell 2 (v := .int .i64 k) rfl
                    have d3 := h2.cell 3 (v := kS t) rfl
                    clear c0 c1 c2 c3
                    go_wp2
                    go_ret
                    exact ⟨rfl, h2.right.below⟩
                  | true =>
                    go_enter Tryz.func16, Tryz.ntmps16
                    go_wp2_with fail
                    refine (HT.out _).mono ?_
                    rintro e w1 ⟨rfl, rfl⟩
                    go_wp2_with fail
                    refine (HP.out _ (hS.out)).mono ?_
                    rintro e w2 hq
                    have h2 := h1.out.makes hq
                    obtain ⟨rfl, -⟩ := hq
                    have d0 := h2.cell 0 (v := kS m) rfl
                    have d1 := h2.cell 1 (v := kS p) rfl
                    have d2 := h2.cell 2 (v := .int .i64 k) rfl
                    have d3 := h2.cell 3 (v := kS t) rfl
                    clear c0 c1 c2 c3
                    go_wp2
                    go_ret
                    exact ⟨rfl, h2.right.below⟩
                | true =>
                  go_enter Tryz.func16, Tryz.ntmps16
                  go_wp2_with fail
                  refine (HT.out _).mono ?_
                  rintro e w1 ⟨rfl, rfl⟩
                  go_wp2_with fail
                  refine (HP.out _ (hS.out)).mono ?_
                  rintro e w2 hq
                  have h2 := h1.out.makes hq
                  obtain ⟨rfl, -⟩ := hq
                  have d0 := h2.cell 0 (v := kS m) rfl
                  have d1 := h2.cell 1 (v := kS p) rfl
                  have d2 := h2.cell 2 (v := .int .i64 k) rfl
                  have d3 := h2.cell 3 (v := kS t) rfl
                  clear c0 c1 c2 c3
                  go_wp2
                  go_ret
                  exact ⟨rfl, h2.right.below⟩
        | true =>
          go_enter Tryz.func16, Tryz.ntmps16
          go_wp2_with fail
          refine (HT.out _).mono ?_
          rintro e w1 ⟨rfl, rfl⟩
          go_wp2_with fail
          refine (HP.out _ (hS.out)).mono ?_
          rintro e w2 hq
          have h2 := h1.out.makes hq
          obtain ⟨rfl, -⟩ := hq
          have d0 := h2.cell 0 (v := kS m) rfl
          have d1 := h2.cell 1 (v := kS p) rfl
          have d2 := h2.cell 2 (v := .int .i64 k) rfl
          have d3 := h2.cell 3 (v := kS t) rfl
          clear c0 c1 c2 c3
          go_wp2
          go_ret
          exact ⟨rfl, h2.right.below⟩
      | true =>
        go_enter Tryz.func16, Tryz.ntmps16
        go_wp2_with fail
        refine (HT.out _).mono ?_
        rintro e w1 ⟨rfl, rfl⟩
        go_wp2_with fail
        refine (HP.out _ (hS.out)).mono ?_
        rintro e w2 hq
        have h2 := h1.out.makes hq
        obtain ⟨rfl, -⟩ := hq
        have d0 := h2.cell 0 (v := kS m) rfl
        have d1 := h2.cell 1 (v := kS p) rfl
        have d2 := h2.cell 2 (v := .int .i64 k) rfl
        have d3 := h2.cell 3 (v := kS t) rfl
        clear c0 c1 c2 c3
        go_wp2
        go_ret
        exact ⟨rfl, h2.right.below⟩
theorem right_eq (r : Rt) : (isTok r.m && ((splitP r.p).isSome && (!decide (r.k < 1) && (!decide (4 < r.k) && (!((r.k == 4) && !(r.m == [71, 69, 84])) && (((r.k == 1) && decide ((r.t.length : Int) ≤ 4096)) || (r.t == []))))))) = right r := by
  unfold right wGET
  rw [Bool.eq_iff_iff]
  simp only [Bool.and_eq_true, Bool.or_eq_true, Bool.not_eq_true', decide_eq_true_eq, decide_eq_false_iff_not, beq_iff_eq, Bool.and_eq_false_iff, beq_eq_false_iff_ne, ne_eq, Int.not_lt]
  constructor
  · rintro ⟨h1, h2, h3, h4, h5, h6⟩
    exact ⟨⟨⟨⟨⟨h1, h2⟩, h3⟩, h4⟩, h5.imp id (fun h => by simpa using h)⟩, h6.imp (fun h => ⟨h.1, by omega⟩) id⟩
  · rintro ⟨⟨⟨⟨⟨h1, h2⟩, h3⟩, h4⟩, h5⟩, h6⟩
    exact ⟨h1, h2, h3, h4, h5.imp id (fun h => by simpa using h), h6.imp (fun h => ⟨h.1, by omega⟩) id⟩
theorem Right_any {W : World} (r : Rt) (hml : r.m.length ≤ 1000000) (hpl : r.p.length ≤ 1000000) (hM : TrS.MaxLen W) :
    Calls Tryz.prog 16 #[.agg #[kS r.m, kS r.p, .int .i64 r.k, kS r.t]] W (Makes W (.bool (right r))) := by
  rw [← right_eq r]
  exact Right_core r.m r.p r.k r.t hml hpl hM _ _ _ _ _ _ _ _ _ rfl rfl rfl rfl rfl rfl rfl rfl rfl
end Go.Proofs.YtlofiaaacepgmaaGreatDoor.RtA
namespace Go.Proofs.YtlofiaaacepgmaaGreatDoor.RtM
open Go Go.RowKit Go.Proofs Go.Proofs.YtlofiaaacepgmaaGreatDoor.Sep Go.Proofs.YtlofiaaacepgmaaGreatDoor.Reg Go.Proofs.YtlofiaaacepgmaaGreatDoor.Frame Go.Proofs.YtlofiaaacepgmaaGreatDoor.Strs Go.Proofs.YtlofiaaacepgmaaGreatDoor.Mp Go.Proofs.YtlofiaaacepgmaaGreatDoor.TrP Go.Proofs.YtlofiaaacepgmaaGreatDoor.TrM Go.Proofs.YtlofiaaacepgmaaGreatDoor.RtP

section
variable {α β : Type}
def mapE (f : α → β) (E : Ents α) : Ents β := E.map fun e => (e.1, e.2.1, f e.2.2)
theorem mapE_keys (f : α → β) (E : Ents α) : (mapE f E).map (·.1) = E.map (·.1) := by unfold mapE; rw [List.map_map]; rfl
theorem mapE_len (f : α → β) (E : Ents α) : (mapE f E).length = E.length := by unfold mapE; rw [List.length_map]
theorem mapE_get (f : α → β) (E : Ents α) (k : List Key) : getM k (mapE f E) = (getM k E).map fun v => (v.1, f v.2) := by
  induction E with
  | nil => rfl
  | cons e E ih =>
    show getM k ((e.1, e.2.1, f e.2.2) :: mapE f E) = _
    rw [getM_cons, getM_cons, ih]
    split <;> rfl
theorem mapE_isSome (f : α → β) (E : Ents α) (k : List Key) : (getM k (mapE f E)).isSome = (getM k E).isSome := by
  rw [mapE_get]; cases getM k E <;> rfl
theorem mapE_getT (f : α → β) (E : Ents α) (p : Tx) : getT (mapE f E) p = (getT E p).map f := by
  unfold getT
  cases splitP p with
  | none => rfl
  | some l =>
    simp only [mapE_get]
    cases getM (keysOf l) E with
    | none => rfl
    | some v =>
      simp only [Option.map_some]
      split <;> rfl
theorem mapE_addT (f : α → β) (E : Ents α) (max : Int) (p : Tx) (x : α) : addT (mapE f E) max p (f x) = ((addT E max p x).1, mapE f (addT E max p x).2) := by
  unfold addT
  cases splitP p with
  | none => rfl
  | some l =>
    simp only [mapE_isSome, mapE_len]
    split
    · rfl
    · split
      · rfl
      · simp [mapE]
theorem mapE_findT (f : α → β) (E : Ents α) (path : List Tx) : findT (mapE f E) path = (findT E path).map fun v => (v.1, f v.2.1, v.2.2) := by
  unfold findT
  rw [best_congr (mapE f E) E (mapE_isSome f E)]
  cases bestE E [] path with
  | none => rfl
  | some k =>
    simp only [mapE_get]
    cases getM k E with
    | none => rfl
    | some v => rfl
theorem mapE_put (f : α → β) (E : Ents α) (k : List Key) (p : Tx) (x : α) : mapE f (putM k (p, x) E) = putM k (p, f x) (mapE f E) := by
  unfold putM
  rw [mapE_keys]
  split
  · unfold mapE
    rw [List.map_map, List.map_map]
    refine List.map_congr_left fun e _ => ?_
    simp only [Function.comp]
    split <;> rfl
  · simp [mapE]
end
theorem putM_id {κ α : Type} [DecidableEq κ] {k : κ} {v : α} {es : List (κ × α)} (hn : (es.map (·.1)).Nodup) (h : getM k es = some v) : putM k v es = es := by
  unfold putM
  rw [if_pos (List.mem_map_of_mem (f := (·.1)) (getM_mem h))]
  conv => rhs; rw [← List.map_id es]
  refine List.map_congr_left fun e he => ?_
  split
  · rename_i hk
    have := getM_of_mem hn (show (k, e.2) ∈ es by rw [← hk]; exact he)
    rw [h] at this
    cases this
    rw [← hk]; rfl
  · rfl
/-- A route, as a value. -/
def rtV (r : Rt) : Value := .agg #[.string ⟨r.m.toArray⟩, .string ⟨r.p.toArray⟩, .int .i64 r.k, .string ⟨r.t.toArray⟩]
def msV (ms : Ms) : List (Tx × Value) := ms.map fun e => (e.1, rtV e.2)
theorem msV_put (m : Tx) (r : Rt) (ms : Ms) : putM m (rtV r) (msV ms) = msV (putM m r ms) := by
  have hk : (msV ms).map (·.1) = ms.map (·.1) := by unfold msV; rw [List.map_map]; rfl
  unfold putM
  rw [hk]
  split
  · unfold msV
    rw [List.map_map, List.map_map]
    refine List.map_congr_left fun e _ => ?_
    simp only [Function.comp]
    split <;> rfl
  · simp [msV]
theorem msV_get (m : Tx) (ms : Ms) : getM m (msV ms) = (getM m ms).map rtV := by
  induction ms with
  | nil => rfl
  | cons e ms ih =>
    show getM m ((e.1, rtV e.2) :: msV ms) = _
    rw [getM_cons, getM_cons, ih]
    split <;> rfl
abbrev ME := TrP.Ents (Nat × Ms)
def vB (x : Nat × Ms) : Value := .map (some x.1)
def MB : ME → Asn
  | [] => emp
  | e :: E => star (Mp TrM.kS e.2.2.1 (msV e.2.2.2)) (MB E)
theorem MB_snoc (E : ME) (e : List Key × Tx × Nat × Ms) : MB (E ++ [e]) = star (Mp TrM.kS e.2.2.1 (msV e.2.2.2)) (MB E) := by
  induction E with
  | nil => rfl
  | cons x E ih =>
    show star _ (MB (E ++ [e])) = star _ (star _ _)
    rw [ih, star_left_comm]
theorem MB_take {E : ME} {k : List Key} {v : Tx × Nat × Ms} (hn : (E.map (·.1)).Nodup) (h : getM k E = some v) : MB E = star (Mp TrM.kS v.2.1 (msV v.2.2)) (MB (delM k E)) := by
  induction E with
  | nil => cases h
  | cons e E ih =>
    obtain ⟨k2, n⟩ := e
    rw [List.map_cons, List.nodup_cons] at hn
    rw [getM_cons] at h
    split at h
    · rename_i hk
      simp only at hk
      subst hk
      cases h
      rw [delM_cons_eq, delM_none hn.1]
      rfl
    · rename_i hk
      rw [delM_cons_ne hk]
      show star _ (MB E) = _
      rw [ih hn.2 h]
      show _ = star _ (star _ _)
      rw [star_left_comm]
theorem MB_put {E : ME} {k : List Key} {v : Tx × Nat × Ms} (hn : (E.map (·.1)).Nodup) (h : getM k E = some v) (v' : Tx × Nat × Ms) : MB (putM k v' E) = star (Mp TrM.kS v'.2.1 (msV v'.2.2)) (MB (delM k E)) := by
  induction E with
  | nil => cases h
  | cons e E ih =>
    obtain ⟨k2, n⟩ := e
    rw [List.map_cons, List.nodup_cons] at hn
    rw [getM_cons] at h
    split at h
    · rename_i hk
      simp only at hk
      subst hk
      rw [putM_cons_eq hn.1, delM_cons_eq, delM_none hn.1]
      rfl
    · rename_i hk
      rw [delM_cons_ne hk, putM_cons_ne hk]
      show star _ (MB (putM k v' E)) = _
      rw [ih hn.2 h]
      show _ = star _ (star _ _)
      rw [star_left_comm]
/-- The plain entries. -/
def pE (E : ME) : RE := mapE (·.2) E
theorem putM_self_addR {E : ME} {r : Rt} {ks : List Tx} {b : Nat} {ms : Ms} (hr : right r = true) (hs : splitP r.p = some ks) (hg : getM (keysOf ks) E = some (r.p, b, ms)) (hm : getM r.m ms = none) :
    addR (pE E) r = (0, pE (putM (keysOf ks) (r.p, b, putM r.m r ms) E)) := by
  have h1 : getT (pE E) r.p = some ms := by unfold pE; rw [mapE_getT]; unfold getT; rw [hs]; simp [hg]
  have h2 : getM (keysOf ks) (pE E) = some (r.p, ms) := by unfold pE; rw [mapE_get, hg]; rfl
  unfold addR
  rw [if_pos hr, h1]
  simp only [hm, Option.isSome_none, Bool.false_eq_true, if_false]
  unfold setT
  rw [hs]
  simp only [h2, if_true]
  unfold pE
  rw [mapE_put]
end Go.Proofs.YtlofiaaacepgmaaGreatDoor.RtM
namespace Go.Proofs.YtlofiaaacepgmaaGreatDoor.RtB
open Go Go.RowKit Go.Proofs Go.Proofs.YtlofiaaacepgmaaGreatDoor.Sep Go.Proofs.YtlofiaaacepgmaaGreatDoor.Reg Go.Proofs.YtlofiaaacepgmaaGreatDoor.Frame Go.Proofs.YtlofiaaacepgmaaGreatDoor.Strs Go.Proofs.YtlofiaaacepgmaaGreatDoor.Held Go.Proofs.YtlofiaaacepgmaaGreatDoor.Mp Go.Proofs.YtlofiaaacepgmaaGreatDoor.TrP Go.Proofs.YtlofiaaacepgmaaGreatDoor.WdP Go.Proofs.YtlofiaaacepgmaaGreatDoor.WdT Go.Proofs.YtlofiaaacepgmaaGreatDoor.RtP Go.Proofs.YtlofiaaacepgmaaGreatDoor.RtA Go.Proofs.YtlofiaaacepgmaaGreatDoor.RtM

theorem exec_lookup {P : Program} {ρ : Operand → Value} {o : Oper} {t : TypeId} {m x : Operand} {ok : Bool} {mv xv v : Value} {w : World} (hop : o.op = .lookup t m x ok) (hm : ρ m = mv) (hx : ρ x = xv) (hr : (Instr.lookup t mv xv ok).run P w = .ok v w) : (execOp ρ o).run P w = .ok (.value v) w := by
  simp [execOp, hop, hm, hx, hr, Result.andThen]
section
variable {κ : Type} [DecidableEq κ] {P : Program} {W w : World} {d : TypeDesc} {enc : κ → Value} {b : Nat} {es : List (κ × Value)} {R : Asn} {t kt et : TypeId} {ops : Array Oper} {rest : List Oper} {o : Oper} {a : Act} {Q : Exit → Act → World → Prop}
theorem wpList_insert (C : KeyC d enc) (hg : o.guard = none) (m x v : Operand) (hop : o.op = Op.insert t m x v) (ht : P.underlying t = some (.map kt et)) (hk : P.underlying kt = some d)
    (hm : a.eval m = .map (some b)) (h : St W w (star (Mp enc b es) R)) (k : κ) (val : Value) (hx : a.eval x = enc k) (hv : a.eval v = val)
    (hK : ∀ w', St W w' (star (Mp enc b (putM k val es)) R) → wpList P ops Q rest (a.put o.dst undef) w') : wpList P ops Q (o :: rest) a w := by
  refine wpList_plain hg fun K' hK' => ?_
  obtain ⟨w', hrun, h'⟩ := run_mapUpdate C ht hk h k val
  unfold Oper.wp
  simp [execOp, hop, hm, hx, hv, hrun, Result.andThen]
  exact hK' _ _ (hK w' h')
end
def zR : Value := (.agg #[.string ByteArray.empty, .string ByteArray.empty, .int .i64 0, .string ByteArray.empty])
theorem zeroR (w : World) : (zeroValue 40).run Tryz.prog w = .ok zR w := Tryz.zeroValue40 w
/-- The cells of a router and of a route. -/
def CA (rp xb tp : Nat) (m p : Tx) (k : Int) (t : Tx) (w : World) : Prop :=
  w.cell? ⟨rp, 1, none⟩ = some (.pointer (some ⟨tp, 0, none⟩)) ∧ w.cell? ⟨xb, 0, none⟩ = some (kS m) ∧ w.cell? ⟨xb, 1, none⟩ = some (kS p) ∧ w.cell? ⟨xb, 2, none⟩ = some (.int .i64 k) ∧ w.cell? ⟨xb, 3, none⟩ = some (kS t)
/-- How adds ends, and what there is then. -/
def APst (W : World) (rp tp : Nat) (lv : Value) (r : Int × RE) (R : Asn) (e : Ending) (w' : World) : Prop :=
  ∃ E' : ME, e = .returned (.int .i64 r.1) ∧ pE E' = r.2 ∧ St W w' (star (pt rp (.cells #[lv, .pointer (some ⟨tp, 0, none⟩)] 54 (0, 0))) (star (TrCm.IsT tp 32 (mapE vB E')) (star (MB E') R)))
theorem APst.mk {W w' : World} {rp tp : Nat} {lv : Value} {r : Int × RE} {R : Asn} {e : Ending} {n : Int} {E' : ME} (h : r = (n, pE E')) (he : e = .returned (.int .i64 n)) (hS : St W w' (star (pt rp (.cells #[lv, .pointer (some ⟨tp, 0, none⟩)] 54 (0, 0))) (star (TrCm.IsT tp 32 (mapE vB E')) (star (MB E') R)))) : APst W rp tp lv r R e w' := by
  subst h; exact ⟨E', he, rfl, hS⟩
def tr3 : Tr := .plain 0 (.plain 1 (.plain 2 (.held 3 (.plain 4 (.held 5 (.one 6 (.plain 7 (.plain 8 (.plain 9 (.plain 10 (.plain 11 (.done))))))))))))
def tr5 : Tr := .plain 0 (.plain 1 (.plain 2 (.held 3 (.plain 4 (.held 5 (.plain 7 (.held 8 (.held 9 (.one 6 (.one 10 (.plain 11 (.one 12 (.plain 13 (.done))))))))))))))
attribute [local go_sem] Oper.semAt_some
theorem isT_nodup {W w : World} {tp : Nat} {max : Int} {es : TrM.EntsV} {R : Asn} (h : St W w (star (TrCm.IsT tp max es) R)) : (es.map (·.1)).Nodup := by
  obtain ⟨_, _, _, _, hg, _⟩ := TrCm.St.isT h
  exact hg.1
theorem addT_cases {α : Type} (E : Ents α) (max : Int) (p : Tx) (x : α) : (addT E max p x).2 = E ∨ ∃ ks, (addT E max p x).2 = E ++ [(ks, p, x)] := by
  unfold addT
  split
  · exact .inl rfl
  · split
    · exact .inl rfl
    · split
      · exact .inl rfl
      · exact .inr ⟨_, rfl⟩
theorem getT_some {α : Type} {E : Ents α} {p : Tx} {x : α} {ks : List Tx} (hs : splitP p = some ks) (h : getT E p = some x) : getM (keysOf ks) E = some (p, x) := by
  unfold getT at h
  rw [hs] at h
  simp only at h
  cases e : getM (keysOf ks) E with
  | none => rw [e] at h; cases h
  | some v =>
    rw [e] at h
    simp only at h
    split at h
    · rename_i hp; cases h; rw [← hp]
    · cases h
set_option maxRecDepth 100000 in
set_option maxHeartbeats 16000000 in
theorem adds_any {W w : World} {R : Asn} (rp tp : Nat) (lv : Value) (E : ME) (h : St W w (star (pt rp (.cells #[lv, .pointer (some ⟨tp, 0, none⟩)] 54 (0, 0))) (star (TrCm.IsT tp 32 (mapE vB E)) (star (MB E) R)))) (hE : E.length ≤ 1000000) (hMx : TrS.MaxLen W) (m p : Tx) (k : Int) (t : Tx) (hml : m.length ≤ 1000000) (hpl : p.length ≤ 1000000) :
    Calls Tryz.prog 24 #[.pointer (some ⟨rp, 0, none⟩), (.agg #[kS m, kS p, .int .i64 k, kS t])] w (APst W rp tp lv (addR (pE E) ⟨m, p, k, t⟩) R) := by
  have HRi := Lib.hid fun w hm => Right_any (W := w) ⟨m, p, k, t⟩ hml hpl hm
  obtain ⟨res, hres⟩ : ∃ res, addR (pE E) ⟨m, p, k, t⟩ = res := ⟨_, rfl⟩
  rw [hres]
  have HRES := Lib.hid hres
  have hnd := isT_nodup (h.eq (B := star (TrCm.IsT tp 32 (mapE vB E)) (star (pt rp (.cells #[lv, .pointer (some ⟨tp, 0, none⟩)] 54 (0, 0))) (star (MB E) R))) (by ac_rfl))
  rw [mapE_keys] at hnd
  have HND := Lib.hid hnd
  have HH := Lib.hid h
  have h1 := h.alloc (.cells #[kS m, kS p, .int .i64 k, kS t] 40 (0, 0))
  have HM0 := Lib.hid (hMx.st h1)
  obtain ⟨xb, hxb⟩ : ∃ xb, w.heap.size = xb := ⟨_, rfl⟩
  rw [hxb] at h1
  have HC : Hid (∀ w' A, St W w' (star (pt xb (.cells #[kS m, kS p, .int .i64 k, kS t] 40 (0, 0))) (star (pt rp (.cells #[lv, .pointer (some ⟨tp, 0, none⟩)] 54 (0, 0))) A)) → CA rp xb tp m p k t w') := Lib.hid fun w' A h => ⟨h.right.cell 1 rfl, h.cell 0 rfl, h.cell 1 rfl, h.cell 2 rfl, h.cell 3 rfl⟩
  obtain ⟨-, c0, c1, c2, c3⟩ := HC.out _ _ h1
  have HM := Lib.hid hMx
  clear h hres hnd hMx
  cases hr : right ⟨m, p, k, t⟩ with
  | false =>
    have HE : Hid (res = (1, pE E)) := Lib.hid (by rw [← HRES.out]; unfold addR; rw [hr]; rfl)
    rw [hr] at HRi
    clear hr
    go_enter Tryz.func24, Tryz.ntmps24
    go_wp2_with fail
    clear hxb
    generalize w.alloc (.cells #[kS m, kS p, .int .i64 k, kS t] 40 (0, 0)) = w1 at *
    refine (HRi.out _ HM0.out).mono ?_
    rintro e w2 hq
    have h2 := h1.makes hq
    obtain ⟨rfl, -⟩ := hq
    go_wp2
    go_ret
    exact APst.mk HE.out rfl h2.right
  | true =>
    rw [hr] at HRi
    obtain ⟨ks, hks⟩ := right_split hr
    have HKS := Lib.hid hks
    have HRT := Lib.hid hr
    clear hks hr
    cases hgt : getT E p with
    | none =>
      have HGT : Hid ((getT E p).map vB = none) := Lib.hid (by rw [hgt]; rfl)
      have HGP : Hid (getT (pE E) p = none) := Lib.hid (by unfold pE; rw [mapE_getT, hgt]; rfl)
      clear hgt
      have HE1 : Hid (res = addT (pE E) 32 p [(m, ⟨m, p, k, t⟩)]) := Lib.hid (by
        rw [← HRES.out]; unfold addR; rw [HRT.out, if_pos rfl]; simp only [HGP.out])
      go_enter Tryz.func24, Tryz.ntmps24
      go_wp2_with fail
      clear hxb
      generalize w.alloc (.cells #[kS m, kS p, .int .i64 k, kS t] 40 (0, 0)) = w1 at *
      refine (HRi.out _ HM0.out).mono ?_
      rintro e w2 hq
      have h2 := h1.makes hq
      obtain ⟨rfl, -⟩ := hq
      clear h1 HM0 c0 c1 c2 c3
      go_upto_region 3 with fail
      have h2 := h2.drew
      refine Go.Proofs.YtlofiaaacepgmaaGreatDoor.Held.wp_region_held (CA rp xb tp m p k t) [] tr3 (by kernel_rfl) (by kernel_rfl) (HC.out _ _ h2) ?_
      generalize w2.drew = w3 at *
      unfold tr3
      refine tr_plain (.pointer (some ⟨rp, 0, none⟩)) rfl ?_ (by simp only [nthOp, Act.put, List.setIfInBounds_toArray, List.set_cons_succ, List.set_cons_zero]; rfl) ?_
      · exact fun _ => rfl
      refine tr_plain (.pointer (some ⟨rp, 0, none⟩)) rfl ?_ (by simp only [nthOp, Act.put, List.setIfInBounds_toArray, List.set_cons_succ, List.set_cons_zero]; rfl) ?_
      · (intro w'; simp only [nthOp]; go_simp)
      refine tr_plain (.pointer (some ⟨rp, 1, none⟩)) rfl ?_ (by simp only [nthOp, Act.put, List.setIfInBounds_toArray, List.set_cons_succ, List.set_cons_zero]; rfl) ?_
      · (intro w'; simp only [nthOp]; go_simp)
      refine tr_held (.pointer (some ⟨tp, 0, none⟩)) rfl ?_ (by simp only [nthOp, Act.put, List.setIfInBounds_toArray, List.set_cons_succ, List.set_cons_zero]; rfl) ?_
      · (rintro w' ⟨hc0, hc1, hc2, hc3, hc4⟩; simp only [nthOp]; go_simp)
      refine tr_plain (.pointer (some ⟨xb, 1, none⟩)) rfl ?_ (by simp only [nthOp, Act.put, List.setIfInBounds_toArray, List.set_cons_succ, List.set_cons_zero]; rfl) ?_
      · (intro w'; simp only [nthOp]; go_simp)
      refine tr_held (kS p) rfl ?_ (by simp only [nthOp, Act.put, List.setIfInBounds_toArray, List.set_cons_succ, List.set_cons_zero]; rfl) ?_
      · (rintro w' ⟨hc0, hc1, hc2, hc3, hc4⟩; simp only [nthOp]; go_simp)
      refine tr_one ?_
      have HGet := Lib.hid (TrEm.Get_any tp 32 (mapE vB E) (h2.eq (B := star (TrCm.IsT tp 32 (mapE vB E)) (star (pt xb (.cells #[kS m, kS p, .int .i64 k, kS t] 40 (0, 0))) (star (pt rp (.cells #[lv, .pointer (some ⟨tp, 0, none⟩)] 54 (0, 0))) (star (MB E) R)))) (by ac_rfl)) (HM.out) p hpl)
      rw [mapE_getT, HGT.out] at HGet
      simp only [nthOp]
      go_wp2_with fail
      refine HGet.out.mono ?_
      rintro e w4 ⟨rfl, hb4⟩
      have h4 := h2.past hb4
      clear HGet h2 hb4
      go_wp2_with fail
      simp only [Reg.Next]
      refine ⟨fun _ => HC.out _ _ h4, ?_⟩
      refine tr_plain (.tuple #[.map none, .bool false]) rfl ?_ (by simp only [nthOp, Act.put, List.setIfInBounds_toArray, List.set_cons_succ, List.set_cons_zero]; rfl) ?_
      · exact fun _ => rfl
      refine tr_plain (.map none) rfl ?_ (by simp only [nthOp, Act.put, List.setIfInBounds_toArray, List.set_cons_succ, List.set_cons_zero]; rfl) ?_
      · exact fun _ => rfl
      refine tr_plain (.bool false) rfl ?_ (by simp only [nthOp, Act.put, List.setIfInBounds_toArray, List.set_cons_succ, List.set_cons_zero]; rfl) ?_
      · exact fun _ => rfl
      refine tr_plain (.map none) rfl ?_ (by simp only [nthOp, Act.put, List.setIfInBounds_toArray, List.set_cons_succ, List.set_cons_zero]; rfl) ?_
      · exact fun _ => rfl
      refine tr_plain (.bool false) rfl ?_ (by simp only [nthOp, Act.put, List.setIfInBounds_toArray, List.set_cons_succ, List.set_cons_zero]; rfl) ?_
      · exact fun _ => rfl
      refine tr_done ?_
      go_upto_region 5 with fail
      have h5 := h4.drew
      refine Go.Proofs.YtlofiaaacepgmaaGreatDoor.Held.wp_region_held (CA rp xb tp m p k t) [] tr5 (by kernel_rfl) (by kernel_rfl) (HC.out _ _ h5) ?_
      generalize w4.drew = w5 at *
      clear h4
      unfold tr5
      refine tr_plain (.pointer (some ⟨rp, 0, none⟩)) rfl ?_ (by simp only [nthOp, Act.put, List.setIfInBounds_toArray, List.set_cons_succ, List.set_cons_zero]; rfl) ?_
      · exact fun _ => rfl
      refine tr_plain (.pointer (some ⟨rp, 0, none⟩)) rfl ?_ (by simp only [nthOp, Act.put, List.setIfInBounds_toArray, List.set_cons_succ, List.set_cons_zero]; rfl) ?_
      · (intro w'; simp only [nthOp]; go_simp)
      refine tr_plain (.pointer (some ⟨rp, 1, none⟩)) rfl ?_ (by simp only [nthOp, Act.put, List.setIfInBounds_toArray, List.set_cons_succ, List.set_cons_zero]; rfl) ?_
      · (intro w'; simp only [nthOp]; go_simp)
      refine tr_held (.pointer (some ⟨tp, 0, none⟩)) rfl ?_ (by simp only [nthOp, Act.put, List.setIfInBounds_toArray, List.set_cons_succ, List.set_cons_zero]; rfl) ?_
      · (rintro w' ⟨hc0, hc1, hc2, hc3, hc4⟩; simp only [nthOp]; go_simp)
      refine tr_plain (.pointer (some ⟨xb, 1, none⟩)) rfl ?_ (by simp only [nthOp, Act.put, List.setIfInBounds_toArray, List.set_cons_succ, List.set_cons_zero]; rfl) ?_
      · (intro w'; simp only [nthOp]; go_simp)
      refine tr_held (kS p) rfl ?_ (by simp only [nthOp, Act.put, List.setIfInBounds_toArray, List.set_cons_succ, List.set_cons_zero]; rfl) ?_
      · (rintro w' ⟨hc0, hc1, hc2, hc3, hc4⟩; simp only [nthOp]; go_simp)
      refine tr_plain (.pointer (some ⟨xb, 0, none⟩)) rfl ?_ (by simp only [nthOp, Act.put, List.setIfInBounds_toArray, List.set_cons_succ, List.set_cons_zero]; rfl) ?_
      · (intro w'; simp only [nthOp]; go_simp)
      refine tr_held (kS m) rfl ?_ (by simp only [nthOp, Act.put, List.setIfInBounds_toArray, List.set_cons_succ, List.set_cons_zero]; rfl) ?_
      · (rintro w' ⟨hc0, hc1, hc2, hc3, hc4⟩; simp only [nthOp]; go_simp)
      refine tr_held (.agg #[kS m, kS p, .int .i64 k, kS t]) rfl ?_ (by simp only [nthOp, Act.put, List.setIfInBounds_toArray, List.set_cons_succ, List.set_cons_zero]; rfl) ?_
      · (rintro w' ⟨hc0, hc1, hc2, hc3, hc4⟩; simp only [nthOp]; go_simp)
      have h6 := St.newMp TrM.kS h5
      obtain ⟨nb, hnb⟩ : ∃ nb, w5.heap.size = nb := ⟨_, rfl⟩
      rw [hnb] at h6
      have hmm := @run_makeMap Tryz.prog
      refine tr_one ?_
      simp only [nthOp]
      go_wp2_with fail
      clear hnb hmm
      generalize w5.alloc (.map #[] 0) = w6 at *
      simp only [Reg.Next]
      refine ⟨fun _ => HC.out _ _ (h6.eq (B := star (pt xb (.cells #[kS m, kS p, .int .i64 k, kS t] 40 (0, 0))) (star (pt rp (.cells #[lv, .pointer (some ⟨tp, 0, none⟩)] 54 (0, 0))) (star (Mp TrM.kS nb []) (star (TrCm.IsT tp 32 (mapE vB E)) (star (MB E) R))))) (by ac_rfl)), tr_one ?_⟩
      simp only [nthOp]
      refine wpList_insert TrM.cS rfl (.tmp 30) (.tmp 32) (.tmp 33) rfl Tryz.underlying59 Tryz.underlying9 rfl h6 m (.agg #[kS m, kS p, .int .i64 k, kS t]) rfl rfl ?_
      intro w7 h7
      clear h5 h6
      have h7 : St W w7 (star (Mp TrM.kS nb (msV [(m, ⟨m, p, k, t⟩)])) (star (pt xb (.cells #[kS m, kS p, .int .i64 k, kS t] 40 (0, 0))) (star (pt rp (.cells #[lv, .pointer (some ⟨tp, 0, none⟩)] 54 (0, 0))) (star (TrCm.IsT tp 32 (mapE vB E)) (star (MB E) R))))) := h7
      go_wp2_with fail
      simp only [Reg.Next]
      refine ⟨HC.out _ _ (h7.eq (B := star (pt xb (.cells #[kS m, kS p, .int .i64 k, kS t] 40 (0, 0))) (star (pt rp (.cells #[lv, .pointer (some ⟨tp, 0, none⟩)] 54 (0, 0))) (star (Mp TrM.kS nb (msV [(m, ⟨m, p, k, t⟩)])) (star (TrCm.IsT tp 32 (mapE vB E)) (star (MB E) R))))) (by ac_rfl)), ?_⟩
      refine tr_plain (.map (some nb)) rfl ?_ (by simp only [nthOp, Act.put, List.setIfInBounds_toArray, List.set_cons_succ, List.set_cons_zero]; rfl) ?_
      · exact fun _ => rfl
      have HAdd := Lib.hid (TrCm.Add_any tp 32 (mapE vB E) (h7.eq (B := star (TrCm.IsT tp 32 (mapE vB E)) (star (pt xb (.cells #[kS m, kS p, .int .i64 k, kS t] 40 (0, 0))) (star (pt rp (.cells #[lv, .pointer (some ⟨tp, 0, none⟩)] 54 (0, 0))) (star (Mp TrM.kS nb (msV [(m, ⟨m, p, k, t⟩)])) (star (MB E) R))))) (by ac_rfl)) (by rw [mapE_len]; exact hE) HM.out p hpl (some nb))
      have hadd : addT (mapE vB E) 32 p (Value.map (some nb)) = ((addT E 32 p (nb, [(m, ⟨m, p, k, t⟩)])).1, mapE vB (addT E 32 p (nb, [(m, ⟨m, p, k, t⟩)])).2) := mapE_addT vB E 32 p (nb, [(m, ⟨m, p, k, t⟩)])
      have hadd2 : addT (pE E) 32 p [(m, ⟨m, p, k, t⟩)] = ((addT E 32 p (nb, [(m, ⟨m, p, k, t⟩)])).1, pE (addT E 32 p (nb, [(m, ⟨m, p, k, t⟩)])).2) := mapE_addT (fun x : Nat × Ms => x.2) E 32 p (nb, [(m, ⟨m, p, k, t⟩)])
      have hcs := addT_cases E 32 p (nb, [(m, ⟨m, p, k, t⟩)])
      rw [hadd] at HAdd
      rw [hadd2] at HE1
      generalize addT E 32 p (nb, [(m, ⟨m, p, k, t⟩)]) = ar at *
      obtain ⟨an, E'⟩ := ar
      have HCS := Lib.hid hcs
      clear hadd hadd2 hcs
      refine tr_one ?_
      simp only [nthOp]
      go_wp2_with fail
      refine HAdd.out.mono ?_
      rintro e w8 ⟨rfl, h8⟩
      clear h7 HAdd
      go_wp2_with fail
      simp only [Reg.Next]
      refine ⟨fun _ => HC.out _ _ (h8.eq (B := star (pt xb (.cells #[kS m, kS p, .int .i64 k, kS t] 40 (0, 0))) (star (pt rp (.cells #[lv, .pointer (some ⟨tp, 0, none⟩)] 54 (0, 0))) (star (TrCm.IsT tp 32 (mapE vB E')) (star (Mp TrM.kS nb (msV [(m, ⟨m, p, k, t⟩)])) (star (MB E) R))))) (by show star _ (star _ _) = _; ac_rfl)), ?_⟩
      refine tr_plain (.int .i64 an) rfl ?_ (by simp only [nthOp, Act.put, List.setIfInBounds_toArray, List.set_cons_succ, List.set_cons_zero]; rfl) ?_
      · exact fun _ => rfl
      refine tr_done ?_
      have HF : Hid (St W w8 (star (pt rp (.cells #[lv, .pointer (some ⟨tp, 0, none⟩)] 54 (0, 0))) (star (TrCm.IsT tp 32 (mapE vB E')) (star (MB E') R)))) := Lib.hid (by
        rcases HCS.out with hx | ⟨ks2, hx⟩
        · have hx := hx
          subst hx
          exact (h8.eq (B := star (star (Mp TrM.kS nb (msV [(m, ⟨m, p, k, t⟩)])) (pt xb (.cells #[kS m, kS p, .int .i64 k, kS t] 40 (0, 0)))) (star (pt rp (.cells #[lv, .pointer (some ⟨tp, 0, none⟩)] 54 (0, 0))) (star (TrCm.IsT tp 32 (mapE vB E')) (star (MB E') R)))) (by show star _ (star _ _) = _; ac_rfl)).right
        · have hx := hx
          subst hx
          rw [MB_snoc]
          exact (h8.eq (B := star (pt xb (.cells #[kS m, kS p, .int .i64 k, kS t] 40 (0, 0))) (star (pt rp (.cells #[lv, .pointer (some ⟨tp, 0, none⟩)] 54 (0, 0))) (star (TrCm.IsT tp 32 (mapE vB (E ++ [(ks2, p, nb, [(m, ⟨m, p, k, t⟩)])]))) (star (star (Mp TrM.kS nb (msV [(m, ⟨m, p, k, t⟩)])) (MB E)) R)))) (by show star _ (star _ _) = _; ac_rfl)).right)
      clear h8
      go_wp2
      go_ret
      exact APst.mk HE1.out rfl HF.out
    | some v =>
      obtain ⟨b, ms⟩ := v
      have hgm := getT_some HKS.out hgt
      simp only at hgm
      have HGM := Lib.hid hgm
      have HGT : Hid ((getT E p).map vB = some (.map (some b))) := Lib.hid (by rw [hgt]; rfl)
      have HMT := Lib.hid (MB_take HND.out hgm)
      simp only at HMT
      clear hgt hgm
      cases hgr : getM m ms with
      | some r2 =>
        obtain ⟨m2, p2, k2, t2⟩ := r2
        have HE : Hid (res = (5, pE E)) := Lib.hid (by
          rw [← HRES.out]; unfold addR; rw [HRT.out, if_pos rfl]
          have : getT (pE E) p = some ms := by unfold pE; rw [mapE_getT]; unfold getT; rw [HKS.out]; simp [HGM.out]
          simp only [this, hgr, Option.isSome_some, if_true])
        have HLK : Hid ((getM m (msV ms)).getD zR = .agg #[kS m2, kS p2, .int .i64 k2, kS t2] ∧ (getM m (msV ms)).isSome = true) := Lib.hid (by rw [msV_get, hgr]; exact ⟨rfl, rfl⟩)
        clear hgr
        go_enter Tryz.func24, Tryz.ntmps24
        go_wp2_with fail
        clear hxb
        generalize w.alloc (.cells #[kS m, kS p, .int .i64 k, kS t] 40 (0, 0)) = w1 at *
        refine (HRi.out _ HM0.out).mono ?_
        rintro e w2 hq
        have h2 := h1.makes hq
        obtain ⟨rfl, -⟩ := hq
        clear h1 HM0 c0 c1 c2 c3
        go_upto_region 3 with fail
        have h2 := h2.drew
        refine Go.Proofs.YtlofiaaacepgmaaGreatDoor.Held.wp_region_held (CA rp xb tp m p k t) [] tr3 (by kernel_rfl) (by kernel_rfl) (HC.out _ _ h2) ?_
        generalize w2.drew = w3 at *
        unfold tr3
        refine tr_plain (.pointer (some ⟨rp, 0, none⟩)) rfl ?_ (by simp only [nthOp, Act.put, List.setIfInBounds_toArray, List.set_cons_succ, List.set_cons_zero]; rfl) ?_
        · exact fun _ => rfl
        refine tr_plain (.pointer (some ⟨rp, 0, none⟩)) rfl ?_ (by simp only [nthOp, Act.put, List.setIfInBounds_toArray, List.set_cons_succ, List.set_cons_zero]; rfl) ?_
        · (intro w'; simp only [nthOp]; go_simp)
        refine tr_plain (.pointer (some ⟨rp, 1, none⟩)) rfl ?_ (by simp only [nthOp, Act.put, List.setIfInBounds_toArray, List.set_cons_succ, List.set_cons_zero]; rfl) ?_
        · (intro w'; simp only [nthOp]; go_simp)
        refine tr_held (.pointer (some ⟨tp, 0, none⟩)) rfl ?_ (by simp only [nthOp, Act.put, List.setIfInBounds_toArray, List.set_cons_succ, List.set_cons_zero]; rfl) ?_
        · (rintro w' ⟨hc0, hc1, hc2, hc3, hc4⟩; simp only [nthOp]; go_simp)
        refine tr_plain (.pointer (some ⟨xb, 1, none⟩)) rfl ?_ (by simp only [nthOp, Act.put, List.setIfInBounds_toArray, List.set_cons_succ, List.set_cons_zero]; rfl) ?_
        · (intro w'; simp only [nthOp]; go_simp)
        refine tr_held (kS p) rfl ?_ (by simp only [nthOp, Act.put, List.setIfInBounds_toArray, List.set_cons_succ, List.set_cons_zero]; rfl) ?_
        · (rintro w' ⟨hc0, hc1, hc2, hc3, hc4⟩; simp only [nthOp]; go_simp)
        refine tr_one ?_
        have HGet := Lib.hid (TrEm.Get_any tp 32 (mapE vB E) (h2.eq (B := star (TrCm.IsT tp 32 (mapE vB E)) (star (pt xb (.cells #[kS m, kS p, .int .i64 k, kS t] 40 (0, 0))) (star (pt rp (.cells #[lv, .pointer (some ⟨tp, 0, none⟩)] 54 (0, 0))) (star (MB E) R)))) (by ac_rfl)) (HM.out) p hpl)
        rw [mapE_getT, HGT.out] at HGet
        simp only [nthOp]
        go_wp2_with fail
        refine HGet.out.mono ?_
        rintro e w4 ⟨rfl, hb4⟩
        have h4 := h2.past hb4
        clear HGet h2 hb4
        go_wp2_with fail
        simp only [Reg.Next]
        refine ⟨fun _ => HC.out _ _ h4, ?_⟩
        refine tr_plain (.tuple #[.map (some b), .bool true]) rfl ?_ (by simp only [nthOp, Act.put, List.setIfInBounds_toArray, List.set_cons_succ, List.set_cons_zero]; rfl) ?_
        · exact fun _ => rfl
        refine tr_plain (.map (some b)) rfl ?_ (by simp only [nthOp, Act.put, List.setIfInBounds_toArray, List.set_cons_succ, List.set_cons_zero]; rfl) ?_
        · exact fun _ => rfl
        refine tr_plain (.bool true) rfl ?_ (by simp only [nthOp, Act.put, List.setIfInBounds_toArray, List.set_cons_succ, List.set_cons_zero]; rfl) ?_
        · exact fun _ => rfl
        refine tr_plain (.map (some b)) rfl ?_ (by simp only [nthOp, Act.put, List.setIfInBounds_toArray, List.set_cons_succ, List.set_cons_zero]; rfl) ?_
        · exact fun _ => rfl
        refine tr_plain (.bool true) rfl ?_ (by simp only [nthOp, Act.put, List.setIfInBounds_toArray, List.set_cons_succ, List.set_cons_zero]; rfl) ?_
        · exact fun _ => rfl
        refine tr_done ?_
        have h5 := h4.eq (B := star (Mp TrM.kS b (msV ms)) (star (pt xb (.cells #[kS m, kS p, .int .i64 k, kS t] 40 (0, 0))) (star (pt rp (.cells #[lv, .pointer (some ⟨tp, 0, none⟩)] 54 (0, 0))) (star (TrCm.IsT tp 32 (mapE vB E)) (star (MB (delM (keysOf ks) E)) R))))) (by rw [HMT.out]; ac_rfl)
        have hlk := run_lookup (P := Tryz.prog) (t := 59) TrM.cS Tryz.underlying59 Tryz.underlying9 (zeroR w4) h5 m true
        rw [if_pos rfl, HLK.out.1, HLK.out.2] at hlk
        have hlk : (Instr.lookup 59 (.map (some b)) (kS m) true).run Tryz.prog w4 = .ok (.tuple #[.agg #[kS m2, kS p2, .int .i64 k2, kS t2], .bool true]) w4 := hlk
        have c0 := h5.right.cell 0 (v := kS m) rfl
        have HF := Lib.hid (h4.right)
        clear h4 h5
        go_wp2
        go_ret
        exact APst.mk HE.out rfl (St.past HF.out ((St.start w4).alloc _).below)
      | none =>
        have HE : Hid (res = (0, pE (putM (keysOf ks) (p, b, putM m ⟨m, p, k, t⟩ ms) E))) := Lib.hid (by
          rw [← HRES.out]; exact putM_self_addR (r := ⟨m, p, k, t⟩) HRT.out HKS.out HGM.out hgr)
        have HLK : Hid ((getM m (msV ms)).getD zR = zR ∧ (getM m (msV ms)).isSome = false) := Lib.hid (by rw [msV_get, hgr]; exact ⟨rfl, rfl⟩)
        clear hgr
        go_enter Tryz.func24, Tryz.ntmps24
        go_wp2_with fail
        clear hxb
        generalize w.alloc (.cells #[kS m, kS p, .int .i64 k, kS t] 40 (0, 0)) = w1 at *
        refine (HRi.out _ HM0.out).mono ?_
        rintro e w2 hq
        have h2 := h1.makes hq
        obtain ⟨rfl, -⟩ := hq
        clear h1 HM0 c0 c1 c2 c3
        go_upto_region 3 with fail
        have h2 := h2.drew
        refine Go.Proofs.YtlofiaaacepgmaaGreatDoor.Held.wp_region_held (CA rp xb tp m p k t) [] tr3 (by kernel_rfl) (by kernel_rfl) (HC.out _ _ h2) ?_
        generalize w2.drew = w3 at *
        unfold tr3
        refine tr_plain (.pointer (some ⟨rp, 0, none⟩)) rfl ?_ (by simp only [nthOp, Act.put, List.setIfInBounds_toArray, List.set_cons_succ, List.set_cons_zero]; rfl) ?_
        · exact fun _ => rfl
        refine tr_plain (.pointer (some ⟨rp, 0, none⟩)) rfl ?_ (by simp only [nthOp, Act.put, List.setIfInBounds_toArray, List.set_cons_succ, List.set_cons_zero]; rfl) ?_
        · (intro w'; simp only [nthOp]; go_simp)
        refine tr_plain (.pointer (some ⟨rp, 1, none⟩)) rfl ?_ (by simp only [nthOp, Act.put, List.setIfInBounds_toArray, List.set_cons_succ, List.set_cons_zero]; rfl) ?_
        · (intro w'; simp only [nthOp]; go_simp)
        refine tr_held (.pointer (some ⟨tp, 0, none⟩)) rfl ?_ (by simp only [nthOp, Act.put, List.setIfInBounds_toArray, List.set_cons_succ, List.set_cons_zero]; rfl) ?_
        · (rintro w' ⟨hc0, hc1, hc2, hc3, hc4⟩; simp only [nthOp]; go_simp)
        refine tr_plain (.pointer (some ⟨xb, 1, none⟩)) rfl ?_ (by simp only [nthOp, Act.put, List.setIfInBounds_toArray, List.set_cons_succ, List.set_cons_zero]; rfl) ?_
        · (intro w'; simp only [nthOp]; go_simp)
        refine tr_held (kS p) rfl ?_ (by simp only [nthOp, Act.put, List.setIfInBounds_toArray, List.set_cons_succ, List.set_cons_zero]; rfl) ?_
        · (rintro w' ⟨hc0, hc1, hc2, hc3, hc4⟩; simp only [nthOp]; go_simp)
        refine tr_one ?_
        have HGet := Lib.hid (TrEm.Get_any tp 32 (mapE vB E) (h2.eq (B := star (TrCm.IsT tp 32 (mapE vB E)) (star (pt xb (.cells #[kS m, kS p, .int .i64 k, kS t] 40 (0, 0))) (star (pt rp (.cells #[lv, .pointer (some ⟨tp, 0, none⟩)] 54 (0, 0))) (star (MB E) R)))) (by ac_rfl)) (HM.out) p hpl)
        rw [mapE_getT, HGT.out] at HGet
        simp only [nthOp]
        go_wp2_with fail
        refine HGet.out.mono ?_
        rintro e w4 ⟨rfl, hb4⟩
        have h4 := h2.past hb4
        clear HGet h2 hb4
        go_wp2_with fail
        simp only [Reg.Next]
        refine ⟨fun _ => HC.out _ _ h4, ?_⟩
        refine tr_plain (.tuple #[.map (some b), .bool true]) rfl ?_ (by simp only [nthOp, Act.put, List.setIfInBounds_toArray, List.set_cons_succ, List.set_cons_zero]; rfl) ?_
        · exact fun _ => rfl
        refine tr_plain (.map (some b)) rfl ?_ (by simp only [nthOp, Act.put, List.setIfInBounds_toArray, List.set_cons_succ, List.set_cons_zero]; rfl) ?_
        · exact fun _ => rfl
        refine tr_plain (.bool true) rfl ?_ (by simp only [nthOp, Act.put, List.setIfInBounds_toArray, List.set_cons_succ, List.set_cons_zero]; rfl) ?_
        · exact fun _ => rfl
        refine tr_plain (.map (some b)) rfl ?_ (by simp only [nthOp, Act.put, List.setIfInBounds_toArray, List.set_cons_succ, List.set_cons_zero]; rfl) ?_
        · exact fun _ => rfl
        refine tr_plain (.bool true) rfl ?_ (by simp only [nthOp, Act.put, List.setIfInBounds_toArray, List.set_cons_succ, List.set_cons_zero]; rfl) ?_
        · exact fun _ => rfl
        refine tr_done ?_
        have h5 := h4.eq (B := star (Mp TrM.kS b (msV ms)) (star (pt xb (.cells #[kS m, kS p, .int .i64 k, kS t] 40 (0, 0))) (star (pt rp (.cells #[lv, .pointer (some ⟨tp, 0, none⟩)] 54 (0, 0))) (star (TrCm.IsT tp 32 (mapE vB E)) (star (MB (delM (keysOf ks) E)) R))))) (by rw [HMT.out]; ac_rfl)
        have hlk := run_lookup (P := Tryz.prog) (t := 59) TrM.cS Tryz.underlying59 Tryz.underlying9 (zeroR w4) h5 m true
        rw [if_pos rfl, HLK.out.1, HLK.out.2] at hlk
        have hlk : (Instr.lookup 59 (.map (some b)) (kS m) true).run Tryz.prog w4 = .ok (.tuple #[(.agg #[.string ByteArray.empty, .string ByteArray.empty, .int .i64 0, .string ByteArray.empty]), .bool false]) w4 := hlk
        have c0 := h5.right.cell 0 (v := kS m) rfl
        have h6 := (h5.alloc (.cells #[.string ByteArray.empty, .string ByteArray.empty, .int .i64 0, .string ByteArray.empty] 40 (0, 0))).right
        go_upto_region 9 with fail
        clear h4 h5 hlk c0
        generalize w4.alloc (.cells #[.string ByteArray.empty, .string ByteArray.empty, .int .i64 0, .string ByteArray.empty] 40 (0, 0)) = w5 at *
        have c0 := h6.right.cell 0 (v := kS m) rfl
        have c1 := h6.right.cell 1 (v := kS p) rfl
        have c2 := h6.right.cell 2 (v := .int .i64 k) rfl
        have c3 := h6.right.cell 3 (v := kS t) rfl
        go_wp2_with (at_mapUpdate; refine wpList_mapUpdate TrM.cS rfl (.tmp 44) (.tmp 46) (.tmp 47) rfl Tryz.underlying59 Tryz.underlying9 rfl h6 m (.agg #[kS m, kS p, .int .i64 k, kS t]) rfl rfl ?_; intro w6 h7)
        go_ret
        refine APst.mk HE.out rfl ?_
        have h7 : St W w6 (star (Mp TrM.kS b (putM m (rtV ⟨m, p, k, t⟩) (msV ms))) (star (pt xb (.cells #[kS m, kS p, .int .i64 k, kS t] 40 (0, 0))) (star (pt rp (.cells #[lv, .pointer (some ⟨tp, 0, none⟩)] 54 (0, 0))) (star (TrCm.IsT tp 32 (mapE vB E)) (star (MB (delM (keysOf ks) E)) R))))) := h7
        rw [msV_put] at h7
        have hv : mapE vB (putM (keysOf ks) (p, b, putM m ⟨m, p, k, t⟩ ms) E) = mapE vB E := by
          rw [mapE_put]
          refine putM_id (by rw [mapE_keys]; exact HND.out) ?_
          rw [mapE_get, HGM.out]; rfl
        rw [hv, MB_put HND.out HGM.out]
        exact (h7.eq (B := star (pt xb (.cells #[kS m, kS p, .int .i64 k, kS t] 40 (0, 0))) (star (pt rp (.cells #[lv, .pointer (some ⟨tp, 0, none⟩)] 54 (0, 0))) (star (TrCm.IsT tp 32 (mapE vB E)) (star (star (Mp TrM.kS b (msV (putM m ⟨m, p, k, t⟩ ms))) (MB (delM (keysOf ks) E))) R)))) (by ac_rfl)).right
end Go.Proofs.YtlofiaaacepgmaaGreatDoor.RtB
namespace Go.Proofs.YtlofiaaacepgmaaGreatDoor.RtC
open Go Go.RowKit Go.Proofs Go.Proofs.YtlofiaaacepgmaaGreatDoor.Sep Go.Proofs.YtlofiaaacepgmaaGreatDoor.Reg Go.Proofs.YtlofiaaacepgmaaGreatDoor.Frame Go.Proofs.YtlofiaaacepgmaaGreatDoor.Strs Go.Proofs.YtlofiaaacepgmaaGreatDoor.Mp Go.Proofs.YtlofiaaacepgmaaGreatDoor.TrP Go.Proofs.YtlofiaaacepgmaaGreatDoor.RtP Go.Proofs.YtlofiaaacepgmaaGreatDoor.RtA Go.Proofs.YtlofiaaacepgmaaGreatDoor.RtM Go.Proofs.YtlofiaaacepgmaaGreatDoor.RtB

theorem newR_append : ∀ (l m : List Rt) (es : RE), newR es (l ++ m) = if (newR es l).1 = 0 then newR (newR es l).2 m else newR es l
  | [], m, es => by simp [newR]
  | r :: l, m, es => by
    have ih := newR_append l m (addR es r).2
    show newR es (r :: (l ++ m)) = _
    have e1 : ∀ k : List Rt, newR es (r :: k) = if (addR es r).1 = 0 then newR (addR es r).2 k else addR es r := fun k => rfl
    rw [e1, e1]
    by_cases h : (addR es r).1 = 0
    · rw [if_pos h, if_pos h, ih]
    · rw [if_neg h, if_neg h, if_neg h]
theorem newR_one (es : RE) (r : Rt) : newR es [r] = addR es r := by
  unfold newR
  by_cases h : (addR es r).1 = 0
  · rw [if_pos h]
    unfold newR
    exact Prod.ext h.symm rfl
  · rw [if_neg h]
theorem newR_next {l : List Rt} {i : Nat} {r : Rt} (hr : l[i]? = some r) (h0 : (newR [] (l.take i)).1 = 0) : newR [] (l.take (i + 1)) = addR (newR [] (l.take i)).2 r := by
  rw [List.take_add_one, hr]
  show newR [] (l.take i ++ [r]) = _
  rw [newR_append, if_pos h0, newR_one]
theorem newR_stop {l : List Rt} {i : Nat} (h : (newR [] (l.take i)).1 ≠ 0) : newR [] l = newR [] (l.take i) := by
  conv => lhs; rw [← List.take_append_drop i l]
  rw [newR_append, if_neg h]
/-! ### Routes, as cells -/
def rE (r : Rt) : List Value := [.string ⟨r.m.toArray⟩, .string ⟨r.p.toArray⟩, .int .i64 r.k, .string ⟨r.t.toArray⟩]
def rsV (l : List Rt) : List Value := l.flatMap rE
theorem rsV_length (l : List Rt) : (rsV l).length = l.length * 4 := by
  induction l with
  | nil => rfl
  | cons x l ih => simp only [rsV, List.flatMap_cons, List.length_append, List.length_cons] at ih ⊢; rw [ih]; simp [rE]; omega
theorem rsV_append (l m : List Rt) : rsV (l ++ m) = rsV l ++ rsV m := by simp [rsV]
theorem rsV_one (l : List Rt) : ∀ u ∈ rsV l, u.oneCell' = true := by
  intro u hu
  obtain ⟨x, _, hx⟩ := List.mem_flatMap.1 hu
  simp only [rE, List.mem_cons, List.not_mem_nil, or_false] at hx
  rcases hx with rfl | rfl | rfl | rfl <;> rfl
theorem elR {W : World} {a : Option Addr} {n c : Nat} {l : List Rt} (h : Sl W 4 (.slice a n c) n (rsV l)) {i : Nat} {x : Rt} (hx : l[i]? = some x) :
    ∃ ab ao, a = some ⟨ab, ao, none⟩ ∧ ∀ w A, St W w A → w.cell? ⟨ab, ao + i * 4, none⟩ = some (kS x.m) ∧ w.cell? ⟨ab, ao + i * 4 + 1, none⟩ = some (kS x.p) ∧ w.cell? ⟨ab, ao + i * 4 + 2, none⟩ = some (.int .i64 x.k) ∧ w.cell? ⟨ab, ao + i * 4 + 3, none⟩ = some (kS x.t) := by
  have hg := flatMap_get (E := rE) (size := 4) (fun _ => rfl) l i x hx
  have hlen : 0 < (rsV l).length := by
    have := (List.getElem?_eq_some_iff.1 (show (rsV l)[i * 4 + 0]? = some (.string ⟨x.m.toArray⟩) from hg 0 (by omega))).1
    omega
  obtain ⟨ab, ao, rfl, hc⟩ := sl_addr h hlen
  refine ⟨ab, ao, rfl, fun w A hS => ?_⟩
  have key : ∀ (j : Nat) (hj : j < 4) (u : Value), (rE x)[j]? = some u → w.cell? ⟨ab, ao + (i * 4 + j), none⟩ = some u := fun j hj u hu => by
    have h0 := hc (i * 4 + j) u ((hg j hj).trans hu)
    exact (hS.old (World.block_lt_of_cell? W _ h0)).trans h0
  exact ⟨key 0 (by omega) _ rfl, key 1 (by omega) _ rfl, key 2 (by omega) _ rfl, key 3 (by omega) _ rfl⟩
theorem infoR : (Tryz.prog.info? 40).map (fun i => (i.zero, i.size, i.bytes)) = some (some zR, 4, 56) := by kernel_rfl
theorem sl_past {w w' : World} {A : Asn} {size : Nat} {v : Value} {n : Nat} {xs : List Value} (h : Sl w size v n xs) (hS : St w w' A) : Sl w' size v n xs := by
  obtain ⟨hl, a, c, hv, h1, h2, h3, h4⟩ := h
  exact ⟨hl, a, c, hv, h1, h2, h3, fun ad hd i u hu => (hS.old (World.block_lt_of_cell? w _ (h4 ad hd i u hu))).trans (h4 ad hd i u hu)⟩
/-- A router. -/
def IsRt (rp : Nat) (l : List Rt) (es : RE) : Asn := ex fun q : Nat × Value × ME => star (pu (pE q.2.2 = es)) (star (pt rp (.cells #[q.2.1, .pointer (some ⟨q.1, 0, none⟩)] 54 (0, 0))) (star (Row 40 4 q.2.1 l.length (rsV l)) (star (TrCm.IsT q.1 32 (mapE vB q.2.2)) (MB q.2.2))))
section
variable {W w : World} {rp : Nat} {l : List Rt} {es : RE} {R : Asn}
theorem St.isRt (h : St W w (star (IsRt rp l es) R)) : ∃ tp lv E, pE E = es ∧ St W w (star (pt rp (.cells #[lv, .pointer (some ⟨tp, 0, none⟩)] 54 (0, 0))) (star (Row 40 4 lv l.length (rsV l)) (star (TrCm.IsT tp 32 (mapE vB E)) (star (MB E) R)))) := by
  obtain ⟨⟨tp, lv, E⟩, h⟩ := St.ex_iff.1 h
  obtain ⟨hr, h⟩ := St.pu_iff.1 (h.eq (star_assoc _ _ _))
  exact ⟨tp, lv, E, hr, h.eq (by simp only [star_assoc])⟩
theorem St.toRt {tp : Nat} {lv : Value} {E : ME} {n : Nat} (hn : l.length = n) (he : pE E = es) (h : St W w (star (pt rp (.cells #[lv, .pointer (some ⟨tp, 0, none⟩)] 54 (0, 0))) (star (Row 40 4 lv n (rsV l)) (star (TrCm.IsT tp 32 (mapE vB E)) (star (MB E) R))))) : St W w (star (IsRt rp l es) R) := by
  subst hn
  refine St.ex_iff.2 ⟨(tp, lv, E), ?_⟩
  refine St.eq ?_ (star_assoc _ _ _).symm
  exact St.pu_iff.2 ⟨he, h.eq (by simp only [star_assoc])⟩
end
set_option maxRecDepth 100000 in
set_option maxHeartbeats 4000000 in
theorem CloneR_any {W w : World} {R : Asn} (a : Option Addr) (n c : Nat) (l : List Rt) (hn : l.length = n) (hn1 : n ≤ 1000000) (h : St W w R) (hsl : Sl w 4 (.slice a n c) n (rsV l)) :
    Calls Tryz.prog 22 #[.slice a n c] w fun e w' => ∃ v, e = .returned v ∧ St W w' (star (Row 40 4 v n (rsV l)) R) := by
  obtain ⟨i0, hi0, hz0, hz1, hz2⟩ := info_parts infoR
  have U := Tryz.underlying33
  have q := fun (w : World) (a : Option Addr) (n c : Nat) => Lib.run_eql_slice_nil (P := Tryz.prog) w 33 40 a n c 0 0 U
  cases a with
  | none =>
    obtain ⟨hl, hv⟩ := hsl
    have hn0 : n = 0 := by
      obtain ⟨a', c', hv, h1, h2, h3, h4⟩ := hv
      cases hv
      have := h3 rfl
      omega
    have hc0 : c = 0 := by
      obtain ⟨a', c', hv, h1, h2, h3, h4⟩ := hv
      cases hv
      exact h3 rfl
    subst hn0 hc0
    have e0 : l = [] := List.eq_nil_of_length_eq_zero hn
    subst e0
    have HF : Hid (St W w (star (Row 40 4 (.slice none 0 0) 0 (rsV [])) R)) := Lib.hid h.nilRow
    clear h hl hv
    go_enter Tryz.func22, Tryz.ntmps22
    go_wp2
    go_ret
    exact ⟨_, rfl, HF.out⟩
  | some ad =>
    have h2 := h.alloc (.cells #[] 40)
    have h3 := St.mkRow (size := 4) (n := 0) (cap := 0) (xs := []) h2 (Nat.le_refl _) (Nat.zero_le _) rfl rfl
    have hA : Sl (w.alloc (.cells #[] 40)) 4 (.slice (some ad) n c) n (rsV l) := sl_past hsl ((St.start w).alloc (.cells #[] 40))
    clear h h2 hsl
    go_enter Tryz.func22, Tryz.ntmps22
    go_wp2_with (at_builtin; refine wpList_append_Sl rfl (.tmp 5) (.tmp 6) 33 rfl 40 i0 zR 4 56 U hi0 hz0 hz1 hz2 rfl _ 0 [] rfl h3 _ n (rsV l) rfl hA (rsV_one _) (by unfold maxLen; omega) (by omega) ?_; intro v5 w5 h5 _)
    go_ret
    rw [Nat.zero_add, List.nil_append] at h5
    exact ⟨_, rfl, h5⟩
/-- How New ends. -/
def newN (l : List Rt) : Int := if 32 < l.length then 6 else (newR [] l).1
def NPst (W : World) (l : List Rt) (R : Asn) (e : Ending) (w' : World) : Prop :=
  (newN l ≠ 0 ∧ e = .returned (.tuple #[.pointer none, .int .i64 (newN l)]) ∧ St W w' R) ∨
  (newN l = 0 ∧ ∃ rp, e = .returned (.tuple #[.pointer (some ⟨rp, 0, none⟩), .int .i64 0]) ∧ St W w' (star (IsRt rp l (newR [] l).2) R))
theorem newR_len {l : List Rt} {i : Nat} (hi : i ≤ 32) (h : (newR [] (l.take i)).1 = 0) {E : ME} (hE : pE E = (newR [] (l.take i)).2) : E.length ≤ i := by
  have h1 : (l.take i).length ≤ i := by simp; omega
  have h2 := (new_ri (by omega : (l.take i).length ≤ 32) h).len
  rw [← hE] at h2
  have : (pE E).length = E.length := mapE_len _ _
  omega
set_option maxRecDepth 100000 in
set_option maxHeartbeats 8000000 in
theorem New_any {W w : World} {R : Asn} (a : Option Addr) (n c : Nat) (l : List Rt) (hn : l.length = n) (hn1 : n ≤ 1000000) (h : St W w R) (hsl : Sl w 4 (.slice a n c) n (rsV l)) (hM : TrS.MaxLen W) (hlen : ∀ r ∈ l, r.m.length ≤ 1000000 ∧ r.p.length ≤ 1000000) :
    Calls Tryz.prog 12 #[.slice a n c] w (NPst W l R) := by
  have HN := Lib.hid hn
  by_cases h32 : 32 < n
  · have hd : decide ((32 : Int) < (n : Nat)) = true := decide_eq_true (by omega)
    have HE : Hid (newN l = 6) := Lib.hid (by unfold newN; rw [hn, if_pos h32])
    have HH := Lib.hid h
    clear h hsl hlen h32 hn
    go_enter Tryz.func12, Tryz.ntmps12
    go_wp2
    go_ret2
    exact .inl ⟨by rw [HE.out]; decide, by rw [HE.out]; rfl, HH.out⟩
  · have hd : decide ((32 : Int) < (n : Nat)) = false := decide_eq_false (by omega)
    have HE : Hid (newN l = (newR [] l).1) := Lib.hid (by unfold newN; rw [hn, if_neg h32])
    have HCl := Lib.hid (CloneR_any a n c l hn hn1 h hsl)
    have HSL := Lib.hid hsl
    have HLEN := Lib.hid hlen
    have HM := Lib.hid hM
    have HH := Lib.hid h
    have hn32 : n ≤ 32 := by omega
    clear hsl hlen h32 hn hM
    have HCl2 := Lib.hid (CloneR_any a n c l HN.out hn1 (St.start w) HSL.out)
    clear h HCl
    go_enter Tryz.func12, Tryz.ntmps12
    go_wp2_with fail
    refine HCl2.out.mono ?_
    rintro e w1 ⟨lv, rfl, h1⟩
    obtain ⟨_, la, lc, rfl, _⟩ := _root_.id h1.rowSl
    have HT := Lib.hid (TrCm.New_any 32 h1)
    go_wp2_with fail
    refine HT.out.mono ?_
    rintro e w2 ⟨tp, rfl, h2⟩
    clear HCl2 HT h1
    have h3 := h2.alloc (.cells #[.slice la n lc, .pointer (some ⟨tp, 0, none⟩)] 54 (0, 0))
    go_wp2_with fail
    obtain ⟨rp, hrp⟩ : ∃ rp, w2.heap.size = rp := ⟨_, rfl⟩
    rw [hrp] at h3
    rw [hrp]
    generalize w2.alloc (.cells #[.slice la n lc, .pointer (some ⟨tp, 0, none⟩)] 54 (0, 0)) = w3 at *
    have h4 : St w w3 (star (pt rp (.cells #[.slice la n lc, .pointer (some ⟨tp, 0, none⟩)] 54 (0, 0))) (star (TrCm.IsT tp 32 (mapE vB [])) (star (MB []) (star (Row 40 4 (.slice la n lc) n (rsV l)) emp)))) := h3.eq (by show _ = star _ (star (TrCm.IsT tp 32 []) (star emp _)); rw [emp_star])
    clear h2 h3 hrp
    go_loopw [18] (fun iv wr => ∃ (i : Nat) (E : ME), i ≤ n ∧ iv = .int .i64 i ∧ Hid ((newR [] (l.take i)).1 = 0) ∧ Hid (pE E = (newR [] (l.take i)).2) ∧ St w wr (star (pt rp (.cells #[.slice la n lc, .pointer (some ⟨tp, 0, none⟩)] 54 (0, 0))) (star (TrCm.IsT tp 32 (mapE vB E)) (star (MB E) (star (Row 40 4 (.slice la n lc) n (rsV l)) emp))))) (fun iv _ => n - (intOf iv).toNat)
    case atStart => exact ⟨0, [], Nat.zero_le _, rfl, Lib.hid rfl, Lib.hid rfl, h4⟩
    case round =>
      obtain ⟨i, E, hi, rfl, H0, HPE, hS⟩ := hrel
      clear h4
      by_cases hin : i < n
      · obtain ⟨x, hx⟩ : ∃ x, l[i]? = some x := ⟨_, List.getElem?_eq_getElem (by rw [HN.out]; exact hin)⟩
        obtain ⟨ab, ao, rfl, hel⟩ := elR HSL.out hx
        have hxl := HLEN.out x (List.mem_of_getElem? hx)
        have HNX := Lib.hid (newR_next hx H0.out)
        have HEL : Hid (E.length ≤ i) := Lib.hid (newR_len (by omega) H0.out HPE.out)
        obtain ⟨xm, xp, xk, xt⟩ := x
        obtain ⟨e0, e1, e2, e3⟩ := hel _ _ hS
        dsimp only at e0 e1 e2 e3 hxl
        have hinI : (i : Int) < n := by omega
        clear hel hx
        have hA := hS.alloc (.cells #[kS xm, kS xp, .int .i64 xk, kS xt] 40 (0, 0))
        obtain ⟨xb, hxb⟩ : ∃ z, wr.heap.size = z := ⟨_, rfl⟩
        rw [hxb] at hA
        go_upto_region 7 with fail
        clear hxb hS e0 e1 e2 e3
        generalize wr.alloc (.cells #[kS xm, kS xp, .int .i64 xk, kS xt] 40 (0, 0)) = wa at *
        have c0 := hA.cell 0 (v := kS xm) rfl
        have c1 := hA.cell 1 (v := kS xp) rfl
        have c2 := hA.cell 2 (v := .int .i64 xk) rfl
        have c3 := hA.cell 3 (v := kS xt) rfl
        have hB := St.comp HH.out hA
        have HA2 := Lib.hid (adds_any rp tp (.slice la n lc) E (hA.right) (by have := HEL.out; omega) (HM.out.st HH.out) xm xp xk xt hxl.1 hxl.2)
        go_wp2_with fail
        refine HA2.out.mono ?_
        rintro e w5 ⟨E', rfl, hE', h5⟩
        rw [HPE.out, ← HNX.out] at hE' ⊢
        obtain ⟨⟨rn, res⟩, hr⟩ : ∃ r, newR [] (l.take (i + 1)) = r := ⟨_, rfl⟩
        rw [hr] at hE' ⊢
        dsimp only at hE' ⊢
        have HR := Lib.hid hr
        have HE2 := Lib.hid hE'
        clear hr hE' hA hB HA2 c0 c1 c2 c3
        by_cases hz : rn = 0
        · subst hz
          go_wp2_with fail
          exact ⟨⟨i + 1, E', hin, by go_num, Lib.hid (by rw [HR.out]), Lib.hid (by rw [HR.out]; exact HE2.out), h5⟩, by simp [intOf]; omega⟩
        · have hzb : (rn != 0) = true := by simpa using hz
          have HS : Hid (newN l = rn) := Lib.hid (by rw [HE.out, newR_stop (i := i + 1) (by rw [HR.out]; exact hz), HR.out])
          have HZ := Lib.hid hz
          have HF := Lib.hid (HH.out.past h5.below)
          clear hz h5
          go_wp2
          go_ret2
          exact .inl ⟨by rw [HS.out]; exact HZ.out, by rw [HS.out]; rfl, HF.out⟩
      · obtain rfl : n = i := by omega
        have e1 : l.take n = l := List.take_of_length_le (by rw [HN.out]; exact Nat.le_refl _)
        rw [e1] at H0 HPE
        have hS2 := St.comp HH.out hS
        have HF := Lib.hid (St.toRt (l := l) (es := (newR [] l).2) (R := R) HN.out HPE.out (hS2.eq (by rw [star_emp]; ac_rfl)))
        clear hS hS2 e1
        go_wp2
        go_ret2
        exact .inr ⟨by rw [HE.out]; exact H0.out, rp, rfl, HF.out⟩
end Go.Proofs.YtlofiaaacepgmaaGreatDoor.RtC
namespace Go.Proofs.YtlofiaaacepgmaaGreatDoor.RtD
open Go Go.RowKit Go.Proofs Go.Proofs.YtlofiaaacepgmaaGreatDoor.Sep Go.Proofs.YtlofiaaacepgmaaGreatDoor.Reg Go.Proofs.YtlofiaaacepgmaaGreatDoor.Frame Go.Proofs.YtlofiaaacepgmaaGreatDoor.Strs Go.Proofs.YtlofiaaacepgmaaGreatDoor.Mp Go.Proofs.YtlofiaaacepgmaaGreatDoor.TrP Go.Proofs.YtlofiaaacepgmaaGreatDoor.RtP Go.Proofs.YtlofiaaacepgmaaGreatDoor.RtA Go.Proofs.YtlofiaaacepgmaaGreatDoor.RtM Go.Proofs.YtlofiaaacepgmaaGreatDoor.RtB Go.Proofs.YtlofiaaacepgmaaGreatDoor.RtC

/-- What a lookup of a method tells. -/
def lkV : Option Rt → Value
  | some r => .tuple #[.agg #[kS r.m, kS r.p, .int .i64 r.k, kS r.t], .bool true]
  | none => .tuple #[.agg #[.string ByteArray.empty, .string ByteArray.empty, .int .i64 0, .string ByteArray.empty], .bool false]
theorem look {W w : World} {b : Nat} {ms : Ms} {R : Asn} (h : St W w (star (Mp TrM.kS b (msV ms)) R)) (m : Tx) : (Instr.lookup 59 (.map (some b)) (.string ⟨m.toArray⟩) true).run Tryz.prog w = .ok (lkV (getM m ms)) w := by
  have := run_lookup (P := Tryz.prog) (t := 59) TrM.cS Tryz.underlying59 Tryz.underlying9 (zeroR w) h m true
  rw [if_pos rfl, msV_get] at this
  cases e : getM m ms with
  | none => rw [e] at this; exact this
  | some r => rw [e] at this; exact this
def Z : Obj := .cells #[.string ⟨#[]⟩, .string ⟨#[]⟩, .int .i64 0, .string ⟨#[]⟩] 40 (0, 0)
def OfPst (w : World) (o : Option Rt) (e : Ending) (w' : World) : Prop := e = .returned (lkV o) ∧ Below w.heap.size w w'
set_option maxRecDepth 100000 in
set_option maxHeartbeats 4000000 in
theorem of_any {W w : World} {R : Asn} (b : Nat) (ms : Ms) (h : St W w (star (Mp TrM.kS b (msV ms)) R)) (m : Tx) :
    Calls Tryz.prog 19 #[.map (some b), kS m] w (OfPst w (ofM ms m)) := by
  have h0 := (h.alloc Z).right
  have hl1 := look h0 m
  obtain ⟨o, ho⟩ : ∃ o, ofM ms m = o := ⟨_, rfl⟩
  rw [ho]
  have HO := Lib.hid ho
  clear ho
  unfold Z at h0 hl1
  cases hm : getM m ms with
  | some r =>
    obtain ⟨rm, rp, rk, rt⟩ := r
    have HE : Hid (o = some ⟨rm, rp, rk, rt⟩) := Lib.hid (by rw [← HO.out]; unfold ofM; rw [hm]; rfl)
    rw [hm] at hl1
    simp only [lkV] at hl1
    clear hm h h0
    go_enter Tryz.func19, Tryz.ntmps19
    go_wp2
    have hf := ((St.start w).alloc (.cells #[kS rm, kS rp, .int .i64 rk, kS rt] 40 (0, 0))).alloc (.cells #[kS rm, kS rp, .int .i64 rk, kS rt] 40 (0, 0))
    have d0 := hf.right.cell 0 (v := kS rm) rfl
    have d1 := hf.right.cell 1 (v := kS rp) rfl
    have d2 := hf.right.cell 2 (v := .int .i64 rk) rfl
    have d3 := hf.right.cell 3 (v := kS rt) rfl
    exact bodyPost_ret (v := .tuple #[.agg #[kS rm, kS rp, .int .i64 rk, kS rt], .bool true]) (by simp [results, Tryz.results19, go_sem, d0, d1, d2, d3]) rfl ⟨by rw [HE.out]; rfl, hf.below⟩
  | none =>
    rw [hm] at hl1
    simp only [lkV] at hl1
    have h2 := (h0.alloc (.cells #[.string ByteArray.empty, .string ByteArray.empty, .int .i64 0, .string ByteArray.empty] 40 (0, 0))).right
    by_cases hh : m = [72, 69, 65, 68]
    · subst hh
      have hl2 := look h2 [71, 69, 84]
      cases hg : getM wGET ms with
      | some r =>
        obtain ⟨rm, rp, rk, rt⟩ := r
        have HE : Hid (o = some ⟨rm, rp, rk, rt⟩) := Lib.hid (by rw [← HO.out]; have e : ofM ms [72, 69, 65, 68] = (getM [72, 69, 65, 68] ms).or (getM wGET ms) := rfl; rw [e, hm, hg]; rfl)
        have hg : getM [71, 69, 84] ms = _ := hg
        rw [hg] at hl2
        simp only [lkV] at hl2
        clear hm hg h h0 h2
        go_enter Tryz.func19, Tryz.ntmps19
        go_wp2
        have hf := ((St.start w).alloc (.cells #[kS rm, kS rp, .int .i64 rk, kS rt] 40 (0, 0))).alloc (.cells #[kS rm, kS rp, .int .i64 rk, kS rt] 40 (0, 0))
        have d0 := hf.right.cell 0 (v := kS rm) rfl
        have d1 := hf.right.cell 1 (v := kS rp) rfl
        have d2 := hf.right.cell 2 (v := .int .i64 rk) rfl
        have d3 := hf.right.cell 3 (v := kS rt) rfl
        exact bodyPost_ret (v := .tuple #[.agg #[kS rm, kS rp, .int .i64 rk, kS rt], .bool true]) (by simp [results, Tryz.results19, go_sem, d0, d1, d2, d3]) rfl ⟨by rw [HE.out]; rfl, hf.below⟩
      | none =>
        have HE : Hid (o = none) := Lib.hid (by rw [← HO.out]; have e : ofM ms [72, 69, 65, 68] = (getM [72, 69, 65, 68] ms).or (getM wGET ms) := rfl; rw [e, hm, hg]; rfl)
        have hg : getM [71, 69, 84] ms = _ := hg
        rw [hg] at hl2
        simp only [lkV] at hl2
        clear hm hg h h0 h2
        go_enter Tryz.func19, Tryz.ntmps19
        go_wp2
        have hf := ((St.start w).alloc (.cells #[.string ByteArray.empty, .string ByteArray.empty, .int .i64 0, .string ByteArray.empty] 40 (0, 0))).alloc (.cells #[.string ByteArray.empty, .string ByteArray.empty, .int .i64 0, .string ByteArray.empty] 40 (0, 0))
        have d0 := hf.right.cell 0 (v := .string ByteArray.empty) rfl
        have d1 := hf.right.cell 1 (v := .string ByteArray.empty) rfl
        have d2 := hf.right.cell 2 (v := .int .i64 0) rfl
        have d3 := hf.right.cell 3 (v := .string ByteArray.empty) rfl
        exact bodyPost_ret (v := .tuple #[.agg #[.string ByteArray.empty, .string ByteArray.empty, .int .i64 0, .string ByteArray.empty], .bool false]) (by simp [results, Tryz.results19, go_sem, d0, d1, d2, d3]) rfl ⟨by rw [HE.out]; rfl, hf.below⟩
    · have hhb : (m == [72, 69, 65, 68]) = false := by simpa using hh
      have HE : Hid (o = none) := Lib.hid (by rw [← HO.out]; unfold ofM wHEAD; rw [hm, if_neg hh]; rfl)
      clear hm h h0 h2 hh
      go_enter Tryz.func19, Tryz.ntmps19
      go_wp2
      have hf := ((St.start w).alloc (.cells #[.string ByteArray.empty, .string ByteArray.empty, .int .i64 0, .string ByteArray.empty] 40 (0, 0))).alloc (.cells #[.string ByteArray.empty, .string ByteArray.empty, .int .i64 0, .string ByteArray.empty] 40 (0, 0))
      have d0 := hf.right.cell 0 (v := .string ByteArray.empty) rfl
      have d1 := hf.right.cell 1 (v := .string ByteArray.empty) rfl
      have d2 := hf.right.cell 2 (v := .int .i64 0) rfl
      have d3 := hf.right.cell 3 (v := .string ByteArray.empty) rfl
      exact bodyPost_ret (v := .tuple #[.agg #[.string ByteArray.empty, .string ByteArray.empty, .int .i64 0, .string ByteArray.empty], .bool false]) (by simp [results, Tryz.results19, go_sem, d0, d1, d2, d3]) rfl ⟨by rw [HE.out]; rfl, hf.below⟩
end Go.Proofs.YtlofiaaacepgmaaGreatDoor.RtD
namespace Go.Proofs.YtlofiaaacepgmaaGreatDoor.RtE
open Go Go.RowKit Go.Proofs Go.Proofs.YtlofiaaacepgmaaGreatDoor.Sep Go.Proofs.YtlofiaaacepgmaaGreatDoor.Reg Go.Proofs.YtlofiaaacepgmaaGreatDoor.Frame Go.Proofs.YtlofiaaacepgmaaGreatDoor.Strs Go.Proofs.YtlofiaaacepgmaaGreatDoor.Mp Go.Proofs.YtlofiaaacepgmaaGreatDoor.TrP Go.Proofs.YtlofiaaacepgmaaGreatDoor.TrQ Go.Proofs.YtlofiaaacepgmaaGreatDoor.Bld Go.Proofs.YtlofiaaacepgmaaGreatDoor.RtP Go.Proofs.YtlofiaaacepgmaaGreatDoor.RtA Go.Proofs.YtlofiaaacepgmaaGreatDoor.RtM Go.Proofs.YtlofiaaacepgmaaGreatDoor.RtB Go.Proofs.YtlofiaaacepgmaaGreatDoor.RtC Go.Proofs.YtlofiaaacepgmaaGreatDoor.RtD

def pvV (x : Rep) : Value := .agg #[.int .i64 x.1, .slice none 0 0, kS x.2.2]
def AnPst (w : World) (x : Rep) (e : Ending) (w' : World) : Prop := e = .returned (pvV x) ∧ Below w.heap.size w w'
theorem AnPst.mk {w w' : World} {x : Rep} {e : Ending} {n : Int} {t : Tx} (h : x = (n, [], t)) (he : e = .returned (.agg #[.int .i64 n, .slice none 0 0, kS t])) (hb : Below w.heap.size w w') : AnPst w x e w' := by subst h; exact ⟨he, hb⟩
theorem lines_snoc (ps : List (Tx × Tx)) (x : Tx × Tx) : lines (ps ++ [x]) = lines ps ++ (x.1 ++ [61] ++ x.2 ++ [10]) := by
  unfold lines
  rw [List.flatMap_append]
  simp
theorem lines_len {ps : List (Tx × Tx)} {K : Nat} (h : ∀ x ∈ ps, x.1.length ≤ K ∧ x.2.length ≤ K) : (lines ps).length ≤ ps.length * (2 * K + 2) := by
  induction ps with
  | nil => simp [lines]
  | cons x ps ih =>
    have h1 := ih fun y hy => h y (by simp [hy])
    have h2 := h x (by simp)
    have e : lines (x :: ps) = (x.1 ++ 61 :: (x.2 ++ [10])) ++ lines ps := by simp [lines]
    rw [e, List.length_append, List.length_cons, Nat.succ_mul]
    simp only [List.length_append, List.length_cons, List.length_nil]
    omega
set_option maxRecDepth 100000 in
set_option maxHeartbeats 16000000 in
theorem answers_any {w : World} (rm rp : Tx) (rk : Int) (rt : Tx) (qm qp qq : Tx) (qv : Int) (fa : Option Addr) (fn fc : Nat) (qb : Tx) (qc : Bool) (pa : Option Addr) (pn pc : Nat) (ps : List (Tx × Tx)) (hpn : ps.length = pn) (hp1 : pn ≤ 1000) (hpl : ∀ x ∈ ps, x.1.length ≤ 1000 ∧ x.2.length ≤ 100000)
    (hsl : Sl w 2 (.slice pa pn pc) pn (fldV ps)) :
    Calls Tryz.prog 21 #[.agg #[kS rm, kS rp, .int .i64 rk, kS rt], .agg #[kS qm, kS qp, kS qq, .int .i64 qv, .slice fa fn fc, kS qb, .bool qc], .slice pa pn pc] w (AnPst w (answers ⟨rm, rp, rk, rt⟩ qb ps)) := by
  obtain ⟨x, hx⟩ : ∃ x, answers ⟨rm, rp, rk, rt⟩ qb ps = x := ⟨_, rfl⟩
  rw [hx]
  have HX := Lib.hid hx
  have HSL := Lib.hid hsl
  have HPN := Lib.hid hpn
  have HPL := Lib.hid hpl
  clear hx hsl hpn hpl
  have h1 := ((St.start w).alloc (.cells #[kS rm, kS rp, .int .i64 rk, kS rt] 40 (0, 0))).alloc (.cells #[kS qm, kS qp, kS qq, .int .i64 qv, .slice fa fn fc, kS qb, .bool qc] 24 (0, 0))
  rw [World.size_alloc] at h1
  by_cases h2 : rk = 2
  · have HE : Hid (x = (200, [], qb)) := Lib.hid (by rw [← HX.out]; unfold answers; rw [if_pos h2])
    subst h2
    go_enter Tryz.func21, Tryz.ntmps21
    go_wp2
    have hf := (((St.start w).alloc (.cells #[kS rm, kS rp, .int .i64 2, kS rt] 40 (0, 0))).alloc (.cells #[kS qm, kS qp, kS qq, .int .i64 qv, .slice fa fn fc, kS qb, .bool qc] 24 (0, 0))).alloc (.cells #[.int .i64 200, .slice none 0 0, kS qb] 29 (0, 0))
    exact bodyPost_ret (v := .agg #[.int .i64 200, .slice none 0 0, kS qb]) (by simp [results, Tryz.results21, go_sem]) rfl (AnPst.mk HE.out rfl hf.below)
  · have h2b : (rk == 2) = false := by simpa using h2
    by_cases h3 : rk = 3
    · have HE : Hid (x = (200, [], lines ps)) := Lib.hid (by rw [← HX.out]; unfold answers; rw [if_neg h2, if_pos h3])
      subst h3
      clear h2 h2b
      have h4 := h1.alloc (.cells #[.int .i64 0, .slice none 0 0, .string ⟨#[]⟩] 29 (0, 0))
      rw [World.size_alloc, World.size_alloc] at h4
      obtain ⟨wz, hwz⟩ : ∃ z, w.heap.size = z := ⟨_, rfl⟩
      obtain ⟨rb, hrb⟩ : ∃ z, wz + 1 + 1 = z := ⟨_, rfl⟩
      rw [hwz, hrb] at h4
      have c2 := h4.right.right.cell 2 (v := .int .i64 3) rfl
      go_enter Tryz.func21, Tryz.ntmps21
      go_upto_region 5 with fail
      clear h1 c2
      generalize ((w.alloc (.cells #[kS rm, kS rp, .int .i64 3, kS rt] 40 (0, 0))).alloc (.cells #[kS qm, kS qp, kS qq, .int .i64 qv, .slice fa fn fc, kS qb, .bool qc] 24 (0, 0))).alloc (.cells #[.int .i64 0, .slice none 0 0, .string ⟨#[]⟩] 29 (0, 0)) = w1 at *
      have h5 := BldA.new (St.start w1)
      obtain ⟨bb, hbb⟩ : ∃ z, w1.heap.size = z := ⟨_, rfl⟩
      rw [hbb] at h5
      go_upto_region 6 with fail
      clear hbb hwz hrb
      generalize w1.alloc (.cells #[.pointer none, .slice none 0 0] 90 (0, 0)) = w2 at *
      go_wp2_with fail
      go_loopw [21] (fun iv wr => ∃ i : Nat, i ≤ pn ∧ iv = .int .i64 i ∧ St w1 wr (star (BldA bb (lines (ps.take i))) emp)) (fun iv _ => pn - (intOf iv).toNat)
      case atStart => exact ⟨0, Nat.zero_le _, rfl, h5⟩
      case round =>
        obtain ⟨i, hi, rfl, hS⟩ := hrel
        clear h5
        have hln := lines_len (ps := ps.take i) (K := 100000) (fun x hx => ⟨by have := (HPL.out x (List.mem_of_mem_take hx)).1; omega, (HPL.out x (List.mem_of_mem_take hx)).2⟩)
        have hlk : (ps.take i).length ≤ 1000 := by have := HPN.out; simp; omega
        have hll : (lines (ps.take i)).length ≤ 300000000 := by
          refine Nat.le_trans hln ?_
          have : (ps.take i).length * (2 * 100000 + 2) ≤ 1000 * (2 * 100000 + 2) := Nat.mul_le_mul_right _ hlk
          omega
        clear hln hlk
        by_cases hin : i < pn
        · obtain ⟨x, hx⟩ : ∃ x, ps[i]? = some x := ⟨_, List.getElem?_eq_getElem (by rw [HPN.out]; exact hin)⟩
          obtain ⟨ab, ao, rfl, e0, e1⟩ := elF HSL.out hx
          have hxl := HPL.out x (List.mem_of_getElem? hx)
          have HTS : Hid (lines (ps.take (i + 1)) = lines (ps.take i) ++ (x.1 ++ [61] ++ x.2 ++ [10])) := Lib.hid (by rw [List.take_add_one, hx]; exact lines_snoc _ _)
          obtain ⟨x1, x2⟩ := x
          dsimp only at e0 e1 hxl HTS
          have HB : Hid (∀ a v, w.cell? a = some v → wr.cell? a = some v) := Lib.hid fun a v h => by
            have h1 := (h4.old (World.block_lt_of_cell? w _ h)).trans h
            exact (hS.old (World.block_lt_of_cell? w1 _ h1)).trans h1
          have e0 := HB.out _ _ e0
          have e1 := HB.out _ _ e1
          have hinI : (i : Int) < pn := by omega
          have ha1 := run_str_add (P := Tryz.prog) x1 [61] (by simp; omega)
          have ha2 := run_str_add (P := Tryz.prog) (x1 ++ [61]) x2 (by simp; omega)
          have ha3 := run_str_add (P := Tryz.prog) (x1 ++ [61] ++ x2) [10] (by simp; omega)
          obtain ⟨s1, hs1⟩ : ∃ s, x1 ++ [61] = s := ⟨_, rfl⟩
          obtain ⟨s2, hs2⟩ : ∃ s, s1 ++ x2 = s := ⟨_, rfl⟩
          obtain ⟨s3, hs3⟩ : ∃ s, s2 ++ [10] = s := ⟨_, rfl⟩
          have hs3l : s3.length ≤ 200000 := by rw [← hs3, ← hs2, ← hs1]; simp; omega
          rw [hs1] at ha1 ha2 ha3 HTS
          rw [hs2] at ha2 ha3 HTS
          rw [hs3] at ha3 HTS
          clear hx hs1 hs2 hs3
          have hA := (hS.alloc (.cells #[kS x1, kS x2] 43 (0, 0))).right
          have HW := Lib.hid (WriteString_any s3 (by omega) (by omega) hA)
          go_wp2_with fail
          refine HW.out.mono ?_
          rintro e w5 ⟨rfl, h6⟩
          clear hA HW hS
          go_wp2_with fail
          go_roundw
          case rel =>
            first | exact ⟨i + 1, hin, by go_num, by rw [HTS.out]; exact h6⟩ | exact ⟨_, ⟨i + 1, hin, by go_num, by rw [HTS.out]; exact h6⟩, rfl⟩
          case measure => simp [intOf]; omega
        · obtain rfl : pn = i := by omega
          have e1 : ps.take pn = ps := List.take_of_length_le (by rw [HPN.out]; exact Nat.le_refl _)
          rw [e1] at hS
          have HSt := Lib.hid (String_any hS)
          have h7 := h4.past hS.below
          have HST := Lib.hid hS
          clear e1 hS
          go_wp2_with fail
          refine HSt.out.mono ?_
          rintro e w6 ⟨rfl, hb6⟩
          have h8 := h4.past (HST.out.below.trans hb6)
          have g0 := h8.free 0
          have g1 := h8.free 1
          have g2 := h8.free 2
          have d0 := h8.cell 0 (v := .int .i64 0) rfl
          have d1 := h8.cell 1 (v := .slice none 0 0) rfl
          have d2 := h8.cell 2 (v := .string ⟨#[]⟩) rfl
          go_wp2
          have hf := ((h8.setCell 0 (.int .i64 200)).setCell 1 (.slice none 0 0)).setCell 2 (kS (lines ps))
          have k0 := hf.cell 0 (v := .int .i64 200) rfl
          have k1 := hf.cell 1 (v := .slice none 0 0) rfl
          have k2 := hf.cell 2 (v := kS (lines ps)) rfl
          exact bodyPost_ret (v := .agg #[.int .i64 200, .slice none 0 0, kS (lines ps)]) (by simp [results, Tryz.results21, go_sem, k0, k1, k2]) rfl (AnPst.mk HE.out rfl hf.below)
    · have h3b : (rk == 3) = false := by simpa using h3
      by_cases h4 : rk = 4
      · have HE : Hid (x = (101, [], [])) := Lib.hid (by rw [← HX.out]; unfold answers; rw [if_neg h2, if_neg h3, if_pos h4])
        subst h4
        clear h2 h2b h3 h3b
        go_enter Tryz.func21, Tryz.ntmps21
        go_wp2
        have hf := (((St.start w).alloc (.cells #[kS rm, kS rp, .int .i64 4, kS rt] 40 (0, 0))).alloc (.cells #[kS qm, kS qp, kS qq, .int .i64 qv, .slice fa fn fc, kS qb, .bool qc] 24 (0, 0))).alloc (.cells #[.int .i64 101, .slice none 0 0, kS []] 29 (0, 0))
        exact bodyPost_ret (v := .agg #[.int .i64 101, .slice none 0 0, kS []]) (by simp [results, Tryz.results21, go_sem]) rfl (AnPst.mk HE.out rfl hf.below)
      · have h4b : (rk == 4) = false := by simpa using h4
        have HE : Hid (x = (200, [], rt)) := Lib.hid (by rw [← HX.out]; unfold answers; rw [if_neg h2, if_neg h3, if_neg h4])
        clear h2 h3 h4
        go_enter Tryz.func21, Tryz.ntmps21
        go_wp2
        have hf := (((St.start w).alloc (.cells #[kS rm, kS rp, .int .i64 rk, kS rt] 40 (0, 0))).alloc (.cells #[kS qm, kS qp, kS qq, .int .i64 qv, .slice fa fn fc, kS qb, .bool qc] 24 (0, 0))).alloc (.cells #[.int .i64 200, .slice none 0 0, kS rt] 29 (0, 0))
        exact bodyPost_ret (v := .agg #[.int .i64 200, .slice none 0 0, kS rt]) (by simp [results, Tryz.results21, go_sem]) rfl (AnPst.mk HE.out rfl hf.below)
end Go.Proofs.YtlofiaaacepgmaaGreatDoor.RtE
namespace Go.Proofs.YtlofiaaacepgmaaGreatDoor.RtR
open Go Go.RowKit Go.Proofs Go.Proofs.YtlofiaaacepgmaaGreatDoor.Sep Go.Proofs.YtlofiaaacepgmaaGreatDoor.Reg Go.Proofs.YtlofiaaacepgmaaGreatDoor.Frame Go.Proofs.YtlofiaaacepgmaaGreatDoor.Strs Go.Proofs.YtlofiaaacepgmaaGreatDoor.Rng Go.Proofs.YtlofiaaacepgmaaGreatDoor.RngA Go.Proofs.YtlofiaaacepgmaaGreatDoor.RngB Go.Proofs.YtlofiaaacepgmaaGreatDoor.Mp Go.Proofs.YtlofiaaacepgmaaGreatDoor.MpR Go.Proofs.YtlofiaaacepgmaaGreatDoor.Ms Go.Proofs.YtlofiaaacepgmaaGreatDoor.TrP Go.Proofs.YtlofiaaacepgmaaGreatDoor.RtP Go.Proofs.YtlofiaaacepgmaaGreatDoor.RtA Go.Proofs.YtlofiaaacepgmaaGreatDoor.RtM Go.Proofs.YtlofiaaacepgmaaGreatDoor.RtB Go.Proofs.YtlofiaaacepgmaaGreatDoor.RtC Go.Proofs.YtlofiaaacepgmaaGreatDoor.RtD Go.Proofs.YtlofiaaacepgmaaGreatDoor.RtE
theorem infoS : (Tryz.prog.info? 9).map (fun i => (i.zero, i.size, i.bytes)) = some (some (.string ByteArray.empty), 1, 16) := by kernel_rfl
theorem oneS (l : List Tx) : ∀ u ∈ l.map TrM.kS, u.oneCell' = true := by
  intro u hu
  obtain ⟨x, _, rfl⟩ := List.mem_map.1 hu
  rfl
section
variable {κ : Type} [DecidableEq κ] {F : Fence} {n : Nat} {P : Program} {W w : World} {d : TypeDesc} {enc : κ → Value} {b r : Nat} {es left : List (κ × Value)} {cur : Option (κ × Value)} {R : Asn} {t kt et : TypeId} {ops : Array Oper} {rest : List Oper} {o : Oper} {a : Act} {Q : Exit → Act → World → Prop}
theorem wpListIn_range (hg : o.guard = none) (m : Operand) (hop : o.op = Op.range t m) (ht : P.underlying t = some (.map kt et)) (hm : a.eval m = .map (some b)) (h : St W w (star (Mp enc b es) R))
    (hK : ∀ w', St W w' (star (Rg enc b w.heap.size es es none) R) → wpListIn F n P ops Q rest (a.put o.dst (.pointer (some ⟨w.heap.size, 0, none⟩))) w') : wpListIn F n P ops Q (o :: rest) a w := by
  refine wpListIn_plain hg fun K' hK' => ?_
  obtain ⟨w', hrun, h'⟩ := run_range ht h
  unfold Oper.wpIn
  refine ⟨?_, ?_⟩
  · simp [Oper.about, hop]
  · rw [Oper.semAt_plain F _ _ (by rw [hop]; intro c hc'; cases hc')]
    simp [execOp, hop, hm, hrun, Result.andThen]
    exact hK' _ _ (hK w' h')
theorem wpListIn_next (C : KeyC d enc) (hg : o.guard = none) (it : Operand) (hop : o.op = Op.next it false) (hm : a.eval it = .pointer (some ⟨r, 0, none⟩)) (h : St W w (star (Rg enc b r es left cur) R))
    (h0 : left = [] → wpListIn F n P ops Q rest (a.put o.dst (.tuple #[.bool false])) w)
    (h1 : ∀ (e : κ × Value) (left' : List (κ × Value)) (w' : World), e ∈ left → e ∈ es → left'.length < left.length → (∀ x, x ∈ left' ↔ x ∈ left ∧ x.1 ≠ e.1) → St W w' (star (Rg enc b r es left' (some e)) R) →
      (Instr.entry (.pointer (some ⟨r, 0, none⟩))).run P w' = .ok (.tuple #[enc e.1, e.2]) w' →
      wpListIn F n P ops Q rest (a.put o.dst (.tuple #[.bool true, enc e.1, e.2])) w') : wpListIn F n P ops Q (o :: rest) a w := by
  refine wpListIn_plain hg fun K' hK' => ?_
  rcases run_next (P := P) C h o.type with ⟨hl, hrun⟩ | ⟨e, left', w', he, hes, hlt, hlx, hrun, h'⟩
  · unfold Oper.wpIn
    refine ⟨?_, ?_⟩
    · simp [Oper.about, hop]
    · rw [Oper.semAt_plain F _ _ (by rw [hop]; intro c hc'; cases hc')]
      simp [execOp, hop, hm, hrun, Result.andThen]
      exact hK' _ _ (h0 hl)
  · unfold Oper.wpIn
    refine ⟨?_, ?_⟩
    · simp [Oper.about, hop]
    · rw [Oper.semAt_plain F _ _ (by rw [hop]; intro c hc'; cases hc')]
      simp [execOp, hop, hm, hrun, Result.andThen]
      exact hK' _ _ (h1 e left' w' he hes hlt hlx h' (run_entry h'))
end
theorem wpListIn_nextS {F : Fence} {n : Nat} {P : Program} {W w : World} {b r : Nat} {es left : List (Tx × Value)} {cur : Option (Tx × Value)} {R : Asn} {ops : Array Oper} {rest : List Oper} {o : Oper} {a : Act} {Q : Exit → Act → World → Prop}
    (hg : o.guard = none) (it : Operand) (hop : o.op = Op.next it false) (hm : a.eval it = .pointer (some ⟨r, 0, none⟩)) (h : St W w (star (Rg TrM.kS b r es left cur) R))
    (h0 : left = [] → wpListIn F n P ops Q rest (a.put o.dst (.tuple #[.bool false])) w)
    (h1 : ∀ (k : Tx) (v : Value) (left' : List (Tx × Value)) (w' : World), (k, v) ∈ left → (k, v) ∈ es → left'.length < left.length → (∀ x, x ∈ left' ↔ x ∈ left ∧ x.1 ≠ k) → St W w' (star (Rg TrM.kS b r es left' (some (k, v))) R) →
      (Instr.entry (.pointer (some ⟨r, 0, none⟩))).run P w' = .ok (.tuple #[.string ⟨k.toArray⟩, v]) w' →
      wpListIn F n P ops Q rest (a.put o.dst (.tuple #[.bool true, .string ⟨k.toArray⟩, v])) w') : wpListIn F n P ops Q (o :: rest) a w :=
  wpListIn_next TrM.cS hg it hop hm h h0 fun e left' w' he hes hlt hlx h' hen => h1 e.1 e.2 left' w' he hes hlt hlx h' hen
/-- Which keys came so far. -/
structure Half (es left : List (Tx × Value)) (pre : List Tx) : Prop where
  nd : pre.Nodup
  apart : ∀ k ∈ pre, ∀ x ∈ left, x.1 ≠ k
  all : ∀ x ∈ es, x.1 ∈ pre ∨ x ∈ left
  back : ∀ k ∈ pre, ∃ x ∈ es, x.1 = k
  few : pre.length + left.length ≤ es.length
theorem Half.start (es : List (Tx × Value)) : Half es es [] := ⟨List.nodup_nil, by simp, fun x hx => .inr hx, by simp, by simp⟩
theorem Half.step {es left left' : List (Tx × Value)} {pre : List Tx} (h : Half es left pre) {e : Tx × Value} (he : e ∈ left) (hes : e ∈ es) (hlx : ∀ x, x ∈ left' ↔ x ∈ left ∧ x.1 ≠ e.1) (hlt : left'.length < left.length) : Half es left' (pre ++ [e.1]) := by
  refine ⟨List.nodup_append.2 ⟨h.nd, by simp, ?_⟩, ?_, ?_, ?_, by have := h.few; simp; omega⟩
  · intro a ha b hb
    simp at hb; subst hb
    exact fun h' => h.apart a ha e he h'.symm
  · intro k hk x hx
    rcases List.mem_append.1 hk with hk | hk
    · exact h.apart k hk x ((hlx x).1 hx).1
    · simp at hk; subst hk; exact ((hlx x).1 hx).2
  · intro x hx
    by_cases hq : x.1 = e.1
    · exact .inl (by simp [hq])
    · rcases h.all x hx with h1 | h1
      · exact .inl (by simp [h1])
      · exact .inr ((hlx x).2 ⟨h1, hq⟩)
  · intro k hk
    rcases List.mem_append.1 hk with hk | hk
    · exact h.back k hk
    · simp at hk; subst hk; exact ⟨e, hes, rfl⟩
theorem Half.done {es : List (Tx × Value)} {pre : List Tx} (h : Half es [] pre) (hn : (es.map (·.1)).Nodup) : pre.Perm (es.map (·.1)) := by
  refine (List.perm_ext_iff_of_nodup h.nd hn).2 fun k => ⟨fun hk => ?_, fun hk => ?_⟩
  · obtain ⟨x, hx, rfl⟩ := h.back k hk
    exact List.mem_map.2 ⟨x, hx, rfl⟩
  · obtain ⟨x, hx, rfl⟩ := List.mem_map.1 hk
    rcases h.all x hx with h1 | h1
    · exact h1
    · cases h1
set_option maxRecDepth 100000 in
set_option maxHeartbeats 8000000 in
/-- The keys of a map are yielded one by one, in some order. -/
theorem Keys1_any (c1 bm y m : Nat) (es : List (Tx × Value)) (I : List Tx → Asn) (J : Code → Asn) {W w : World}
    (hY : ∀ pre x C w, pre.length < es.length + 1 → St W w (star C (I pre)) → YieldAt Fence.wide m Tryz.prog y #[.string ⟨x.toArray⟩] w fun e w' => (e = .returned (.bool true) ∧ St W w' (star C (I (pre ++ [x])))) ∨ (e = .returned (.bool false) ∧ ∃ c, St W w' (star C (J c))))
    (h : St W w (star (pt c1 (.cells #[.map (some bm)] 59 (0, 0))) (star (Mp TrM.kS bm es) (I [])))) :
    CallsIn Fence.wide (m + 1) Tryz.prog 56 #[.func (.yield y) #[] #[], .pointer (some ⟨c1, 0, none⟩)] w fun e w' => (∃ v, e = .returned v) ∧
      ((∃ L, Half es [] L ∧ St W w' (star (pt c1 (.cells #[.map (some bm)] 59 (0, 0))) (star (Mp TrM.kS bm es) (I L)))) ∨ ∃ c, St W w' (J c)) := by
  have HY := Lib.hid hY
  clear hY
  refine callsIn_of_wp Tryz.func56 rfl trivial ?_ rfl
  simp only [Tryz.ntmps56, List.size_toArray, List.length_cons, List.length_nil, Nat.reduceAdd, Nat.reduceSub, Array.replicate_succ, Array.replicate_zero, List.push_toArray, List.append_toArray, List.nil_append, List.cons_append]
  have hc := h.cell 0 rfl
  have h1 := h.eq (B := star (Mp TrM.kS bm es) (star (pt c1 (.cells #[.map (some bm)] 59 (0, 0))) (I []))) (by ac_rfl)
  gi_wp2_with (gi_at_range; refine wpListIn_range rfl _ rfl Tryz.underlying59 rfl h1 ?_)
  intro w2 h2
  clear h h1 hc
  generalize w.heap.size = r at *
  gi_wp2_with fail
  gi_loopw [3] (fun _ wr => ∃ left cur pre, Half es left pre ∧ St W wr (star (Rg TrM.kS bm r es left cur) (star (pt c1 (.cells #[.map (some bm)] 59 (0, 0))) (I pre)))) (fun _ wr => leftN wr bm r)
  case atStart => exact ⟨es, none, [], Half.start es, h2⟩
  case round =>
    obtain ⟨left, cur, pre, hh, hS⟩ := hrel
    have HH := Lib.hid hh
    have HLT : Hid (leftN wr bm r = left.length) := Lib.hid (leftN_eq hS)
    clear h2 hh
    gi_wp2_with (gi_at_next; refine wpListIn_nextS rfl (.tmp 5) rfl rfl hS (fun hl0 => ?_) (fun k v left2 w3 he hes hlt hlx h3 hen => ?_))
    · have h4 := St.rgMp hS
      rw [hl0] at HH
      clear hS
      gi_wp2_with fail
      refine bodyPost_end (results_none rfl _ _ _) rfl ?_
      exact ⟨⟨_, rfl⟩, .inl ⟨pre, HH.out, h4.swap⟩⟩
    · have HE := Lib.hid (HH.out.step he hes hlx hlt)
      have HL2 : Hid (left2.length < leftN wr bm r) := Lib.hid (by rw [HLT.out]; exact hlt)
      have hz := HY.out pre k _ _ (by have := HH.out.few; omega) (h3.eq (B := star (star (Rg TrM.kS bm r es left2 (some (k, v))) (pt c1 (.cells #[.map (some bm)] 59 (0, 0)))) (I pre)) (by ac_rfl))
      obtain ⟨fn, tmps, assign, body, hy, hR⟩ := hz
      have hy' : (Instr.yield y #[.string ⟨k.toArray⟩]).run Tryz.prog w3 = .ok (.round y fn tmps assign body) w3 := hy
      clear he hes hlt hlx hS h3 hy
      gi_wp2_with fail
      refine hR.mono ?_
      rintro e0 w4 (⟨rfl, h3⟩ | ⟨rfl, c, h3⟩)
      · have h4 := h3.eq (B := star (Rg TrM.kS bm r es left2 (some (k, v))) (star (pt c1 (.cells #[.map (some bm)] 59 (0, 0))) (I (pre ++ [k])))) (by ac_rfl)
        gi_wp2_with fail
        exact ⟨⟨left2, _, _, HE.out, h4⟩, by rw [leftN_eq h4]; exact HL2.out⟩
      · gi_wp2_with fail
        refine bodyPost_ret (results_none rfl _ _ _) rfl ?_
        exact ⟨⟨_, rfl⟩, .inr ⟨c, h3.right⟩⟩
/-- A range over the keys of a map. -/
theorem range_keys {W w : World} {m : Nat} {g : Operand} {params : Array Tmp} {assign body : Code} {Q : Exit → Act → World → Prop} {a : Act} (f : Tx → Array Value → Array Value) (c1 bm : Nat) (es : List (Tx × Value)) (Φ : List Tx → Asn)
    (hg : a.eval g = .func (.func 56) #[] #[.pointer (some ⟨c1, 0, none⟩)]) (hps : params.size = 1) (h : St W w (star (pt c1 (.cells #[.map (some bm)] 59 (0, 0))) (star (Mp TrM.kS bm es) (Φ []))))
    (hassign : ∀ (x : Tx) l0 w (K : Act → World → Prop), K { tmps := f x a.tmps, defers := [] } w → assign.wpIn (Fence.wide.inRound l0) m Tryz.prog (Exit.then K (fun _ _ _ => False)) { tmps := (params.zip #[.string ⟨x.toArray⟩]).foldl (fun tmps (t, a) => tmps.setIfInBounds t a) a.tmps, defers := [] } w)
    (hround : ∀ pre x, pre.length < es.length + 1 → ∀ l0 busy C w2, St W w2 (star (pt l0 (.loop busy)) (star C (Φ pre))) → body.wpIn (Fence.wide.inRound l0) m Tryz.prog (RPost W l0 busy (star C (Φ (pre ++ [x]))) (fun _ => star C No)) { tmps := f x a.tmps, defers := [] } w2)
    (hdone : ∀ L D w4, Half es [] L → St W w4 (star (pt D (.deferred (some []))) (star (pt c1 (.cells #[.map (some bm)] 59 (0, 0))) (star (Mp TrM.kS bm es) (Φ L)))) → Q .normal { a with defers := { target := .collected D, args := #[] } :: a.defers } w4) :
    (Code.rangeFunc g params assign body).wpIn Fence.wide (m + 2) Tryz.prog Q a w := by
  refine range_St (Φ := ex fun L : {L : List Tx // Half es [] L} => star (pt c1 (.cells #[.map (some bm)] 59 (0, 0))) (star (Mp TrM.kS bm es) (Φ L.1))) (Ψ := fun _ => No) rfl (by omega) hg trivial (enters_of Tryz.func56 (by kernel_rfl) rfl) h ?_ ?_ ?_
  · intro fn l0 D w1 hfn hS
    refine (Keys1_any c1 bm l0 m es (fun pre => star (pt l0 (.loop (rec fn a.tmps params assign body D .ready none))) (star (pt D (.deferred (some []))) (Φ pre)))
      (fun c => star (pt l0 (.loop (rec fn a.tmps params assign body D .done (some c)))) (star (pt D (.deferred (some []))) No)) ?_ (hS.eq (by ac_rfl))).mono ?_
    · intro pre x C w2 hlt h2
      have h3 : St W w2 (star (pt l0 (.loop (rec fn a.tmps params assign body D .ready none))) (star (star (pt D (.deferred (some []))) C) (Φ pre))) := h2.eq (by ac_rfl)
      refine YieldAt.mono (yield_St (a₁ := { tmps := f x a.tmps, defers := [] }) (Φ := star (star (pt D (.deferred (some []))) C) (Φ (pre ++ [x]))) (Ψ := fun _ => star (star (pt D (.deferred (some []))) C) No) hfn (by rw [hps]; rfl) h3 (fun K hK => hassign x l0 w2 K hK) (fun w3 hw3 => hround pre x hlt l0 _ _ w3 hw3)) ?_
      rintro e w4 (⟨rfl, h4⟩ | ⟨rfl, c, h4⟩)
      · exact .inl ⟨rfl, h4.eq (by ac_rfl)⟩
      · exact .inr ⟨rfl, c, h4.eq (by ac_rfl)⟩
    · rintro e w3 ⟨hv, ⟨L, hL, h3⟩ | ⟨c, h3⟩⟩
      · refine ⟨hv, .inl ?_⟩
        have h4 : St W w3 (star (ex fun L : {L : List Tx // Half es [] L} => star (pt c1 (.cells #[.map (some bm)] 59 (0, 0))) (star (Mp TrM.kS bm es) (Φ L.1))) (star (pt l0 (.loop (rec fn a.tmps params assign body D .ready none))) (pt D (.deferred (some []))))) :=
          St.ex_iff.2 ⟨⟨L, hL⟩, h3.eq (by show _ = star (star (pt c1 (.cells #[.map (some bm)] 59 (0, 0))) (star (Mp TrM.kS bm es) (Φ L))) _; ac_rfl)⟩
        exact h4.eq (by ac_rfl)
      · exact ⟨hv, .inr ⟨c, h3⟩⟩
  · intro D w4 h4
    obtain ⟨⟨L, hL⟩, h5⟩ := St.ex_iff.1 (h4.eq (star_comm _ _))
    exact hdone L D w4 hL (h5.eq (star_comm _ _))
  · rintro D c w4 h4
    exact (St.no h4).elim
def SI (ob : Nat) (R : Asn) (pre : List Tx) : Asn := star (Held ob 55 9 pre.length (pre.map TrM.kS)) R
def APst (W : World) (bm : Nat) (es : List (Tx × Value)) (R : Asn) (e : Ending) (w' : World) : Prop :=
  ∃ L a c, Half es [] L ∧ e = .returned (.slice a L.length c) ∧ St W w' (star (Row 9 1 (.slice a L.length c) L.length (L.map TrM.kS)) (star (Mp TrM.kS bm es) R))
attribute [local go_sem] Oper.semAt_some
set_option maxRecDepth 100000 in
set_option maxHeartbeats 8000000 in
theorem AppSeq_any {W w : World} {R : Asn} (c1 bm : Nat) (es : List (Tx × Value)) (hes : es.length ≤ 1000000) (h : St W w (star (pt c1 (.cells #[.map (some bm)] 59 (0, 0))) (star (Mp TrM.kS bm es) R))) :
    Calls Tryz.prog 55 #[.slice none 0 0, .func (.func 56) #[] #[.pointer (some ⟨c1, 0, none⟩)]] w (APst W bm es R) := by
  have h1 := h.alloc (.cells #[.slice none 0 0] 55)
  have HE := Lib.hid hes
  clear h hes
  refine (callsIn_wide (n := 3)).1 (callsIn_of_wp_marks Tryz.func55 rfl trivial ?_ rfl)
  simp only [Tryz.ntmps55, List.size_toArray, List.length_cons, List.length_nil, Nat.reduceAdd, Nat.reduceSub, Array.replicate_succ, Array.replicate_zero, List.push_toArray, List.append_toArray, List.nil_append, List.cons_append]
  gi_wp2_with fail
  obtain ⟨ob, hob⟩ : ∃ ob, w.heap.size = ob := ⟨_, rfl⟩
  have h2 : St W (w.alloc (.cells #[.slice none 0 0] 55)) (star (pt c1 (.cells #[.map (some bm)] 59 (0, 0))) (star (Mp TrM.kS bm es) (SI ob R []))) := by
    rw [hob] at h1
    have h3 := St.toHeld (h1.nilRow (e := 9) (size := 1)).swap
    unfold SI
    exact h3.eq (by show star (Held _ _ _ 0 []) _ = _; ac_rfl)
  rw [hob]
  clear h1
  generalize w.alloc (.cells #[.slice none 0 0] 55) = w1 at *
  refine range_keys (m := 1) (fun x t => (t.setIfInBounds 7 (.string ⟨x.toArray⟩)).setIfInBounds 5 (.string ⟨x.toArray⟩)) c1 bm es (SI ob R) rfl rfl h2 ?assign ?round ?done
  case assign =>
    rintro x l0 w5 K hK
    gi_wp2_with fail
    exact hK
  case round =>
    rintro pre k hpl l0 busy C w5 h5
    have hpl2 : pre.length < 2000000 := by have := HE.out; omega
    clear h2
    simp only [List.setIfInBounds_toArray, List.set_cons_succ, List.set_cons_zero]
    unfold SI at h5
    obtain ⟨ov, h6⟩ := St.held (R := star (pt l0 (.loop busy)) (star C R)) (h5.eq (by ac_rfl))
    obtain ⟨_, va, vk, rfl, _⟩ := _root_.id h6.right.rowSl
    have hob0 := h6.cell 0 rfl
    have h9 := h6.alloc (.cells #[.string ⟨k.toArray⟩] 9)
    have h10 := (h9.right).eq (B := star (Row 9 1 (.slice va pre.length vk) pre.length (pre.map TrM.kS)) (star (pt ob (.cells #[.slice va pre.length vk] 55 (0, 0))) (star (pt l0 (.loop busy)) (star C R)))) (by ac_rfl)
    have hone : Sl (w5.alloc (.cells #[.string ⟨k.toArray⟩] 9)) 1 (.slice (some ⟨w5.heap.size, 0, none⟩) 1 1) 1 [.string ⟨k.toArray⟩] := (St.mkRow (size := 1) (n := 1) (cap := 1) (xs := [.string ⟨k.toArray⟩]) h9 (Nat.le_refl _) (by unfold maxLen; omega) rfl rfl).rowSl
    obtain ⟨i0, hi0, hz0, hz1, hz2⟩ := info_parts infoS
    have U := Tryz.underlying55
    clear h5 h6 h9
    gi_wp2_with (gi_at_builtin; refine wpListIn_append_Sl rfl (.tmp 8) (.tmp 10) 55 rfl 9 i0 (.string ByteArray.empty) 1 16 U hi0 hz0 hz1 hz2 rfl (.slice va pre.length vk) _ _ rfl h10 _ 1 [.string ⟨k.toArray⟩] rfl hone (oneS [k]) (by unfold maxLen; omega) (by omega) ?_; intro v9 w9 hS9 hv9; obtain ⟨_, a9, c9, rfl, _⟩ := _root_.id hS9.rowSl; have hc9 := hS9.swap.cell 0 rfl; have hf9 := hS9.swap.free 0)
    have h11 := hS9.swap.setCell 0 (.slice a9 (pre.length + 1) c9)
    have el : (pre ++ [k]).length = pre.length + 1 := by simp
    have ev : (pre ++ [k]).map TrM.kS = pre.map TrM.kS ++ [.string ⟨k.toArray⟩] := by simp [TrM.kS]
    show St W _ (star (pt l0 (.loop busy)) (star C (SI ob R (pre ++ [k]))))
    exact (St.toHeld h11).eq (by unfold SI; rw [el, ev]; ac_rfl)
  case done =>
    rintro L D w5 hL h5
    have HFIN := Lib.hid h5
    have HLL := Lib.hid hL
    clear h5 h2 hL
    have h6 := HFIN.out
    unfold SI at h6
    obtain ⟨ov, h7⟩ := St.held (R := star (pt D (.deferred (some []))) (star (pt c1 (.cells #[.map (some bm)] 59 (0, 0))) (star (Mp TrM.kS bm es) R))) (h6.eq (by ac_rfl))
    obtain ⟨_, oa, oc, rfl, _⟩ := _root_.id h7.right.rowSl
    have hob0 := h7.cell 0 rfl
    have h8 := h7.right.swap
    have hK := h8.blk
    clear h6 HFIN
    gi_wp2_with fail
    refine ⟨by simp, .inl ⟨_, _, rfl, run_takeDeferred hK, ?_⟩⟩
    have h10 := St.putObj h8 (.deferred none)
    refine ⟨.slice oa L.length oc, by simp [results, Tryz.results55, go_sem], ?_⟩
    have h11 := h10.right.swap.right
    exact ⟨L, oa, oc, HLL.out, rfl, h11.swap.eq (by ac_rfl)⟩
end Go.Proofs.YtlofiaaacepgmaaGreatDoor.RtR
namespace Go.Proofs.YtlofiaaacepgmaaGreatDoor.RtS
open Go Go.Sort Go.RowKit Go.MapKept Go.Proofs Go.Proofs.YtlofiaaacepgmaaGreatDoor.Sep Go.Proofs.YtlofiaaacepgmaaGreatDoor.Reg Go.Proofs.YtlofiaaacepgmaaGreatDoor.Frame Go.Proofs.YtlofiaaacepgmaaGreatDoor.Strs Go.Proofs.YtlofiaaacepgmaaGreatDoor.Mp Go.Proofs.YtlofiaaacepgmaaGreatDoor.MpR Go.Proofs.YtlofiaaacepgmaaGreatDoor.TrP Go.Proofs.YtlofiaaacepgmaaGreatDoor.TrQ Go.Proofs.YtlofiaaacepgmaaGreatDoor.RtP Go.Proofs.YtlofiaaacepgmaaGreatDoor.RtA Go.Proofs.YtlofiaaacepgmaaGreatDoor.RtM Go.Proofs.YtlofiaaacepgmaaGreatDoor.RtB Go.Proofs.YtlofiaaacepgmaaGreatDoor.RtC Go.Proofs.YtlofiaaacepgmaaGreatDoor.RtD Go.Proofs.YtlofiaaacepgmaaGreatDoor.RtE Go.Proofs.YtlofiaaacepgmaaGreatDoor.RtR

theorem St.sortedS {W w : World} {e g n cap : Nat} {zs ys : List Tx} {R : Asn} (hy : ys.length = n) (h : St W w (star (Row e 1 (.slice (some ⟨g, 0, none⟩) n cap) n (strsV zs)) R)) (k : Nat) (os : Array Obj) :
    St W (grow (putRow encStr (Sort.ahead w k) g 0 ys.toArray) os) (star (Row e 1 (.slice (some ⟨g, 0, none⟩) n cap) n (strsV ys)) R) := by
  obtain ⟨_, hv⟩ := h.row
  rcases hv with ⟨hv, _⟩ | ⟨g', cap', cur, hv, hnc, hcm, hcs, htake, hS⟩
  · cases hv
  · cases hv
    have hb := hS.blk
    have hlt := hS.lt
    refine St.mkRow (cur := putCells encStr 0 ys.toArray cur) (hS.turn rfl rfl rfl ?_ ?_ ?_) hnc hcm (by simp [putCells, hcs]) ?_
    · show w.heap.size ≤ ((w.heap.modify g _) ++ os).size
      simp
    · intro j hj hjg
      show ((w.heap.modify g _) ++ os)[j]? = _
      rw [Array.getElem?_append_left (by simpa using hj), Array.getElem?_modify, if_neg (Ne.symm hjg)]
    · show ((w.heap.modify g _) ++ os)[g]? = _
      rw [Array.getElem?_append_left (by simpa using hlt), Array.getElem?_modify, if_pos rfl, hb]
      rfl
    · refine List.ext_getElem (by simp [putCells, hcs, hy, strsV]; omega) fun i h1 h2 => ?_
      have hi : i < n := by simpa [hy, strsV] using h2
      have hi2 : i < ys.length := by omega
      simp only [putCells, List.getElem_take, Array.getElem_toList, Array.getElem_mapIdx]
      rw [if_pos ⟨Nat.zero_le _, by simp; omega⟩]
      rw [Nat.sub_zero, getElem!_pos ys.toArray i (by simpa using hi2)]
      simp [strsV]
theorem holdsS {W w : World} {e g n cap : Nat} {zs : List Tx} {R : Asn} (hz : zs.length = n) (h : St W w (star (Row e 1 (.slice (some ⟨g, 0, none⟩) n cap) n (strsV zs)) R)) : Holds encStr w g 0 zs.toArray ∧ g < w.heap.size := by
  obtain ⟨_, hv⟩ := h.row
  rcases hv with ⟨hv, _⟩ | ⟨g', cap', cur, hv, hnc, hcm, hcs, htake, hS⟩
  · cases hv
  · cases hv
    refine ⟨fun j hj => ⟨?_, ?_⟩, hS.lt⟩
    · have hj2 : j < zs.length := by simpa using hj
      rw [Nat.zero_add]
      refine hS.cell j ?_
      have h1 : (cur.toList.take (n * 1))[j]? = (strsV zs)[j]? := by rw [htake]
      rw [List.getElem?_take_of_lt (by omega)] at h1
      rw [← Array.getElem?_toList, h1, strsV_get, List.getElem?_eq_getElem hj2, getElem!_pos zs.toArray j (by simpa using hj2)]
      simp
    · rw [Nat.zero_add]; exact hS.free j
theorem mp_nodupS {W w : World} {b : Nat} {es : List (Tx × Value)} {R : Asn} (h : St W w (star (Mp TrM.kS b es) R)) : (es.map (·.1)).Nodup := by
  obtain ⟨arr, clock, s, e, _⟩ := St.mp h
  have h1 := s.2.2
  have h2 : arr.toList.map (·.key) = (es.map (·.1)).map TrM.kS := by
    have := congrArg (List.map Prod.fst) e
    simpa [List.map_map, Function.comp_def] using this
  rw [h2] at h1
  exact List.Pairwise.of_map TrM.kS (fun a b hab h' => hab (by rw [h'])) h1
theorem sortS_len (l : List Tx) : (sortS l).length = l.length := (List.mergeSort_perm l _).length_eq
set_option maxRecDepth 100000 in
theorem Collect_any {W w : World} {R : Asn} (c1 bm : Nat) (es : List (Tx × Value)) (hes : es.length ≤ 1000000) (h : St W w (star (pt c1 (.cells #[.map (some bm)] 59 (0, 0))) (star (Mp TrM.kS bm es) R))) :
    Calls Tryz.prog 35 #[.func (.func 56) #[] #[.pointer (some ⟨c1, 0, none⟩)]] w (RtR.APst W bm es R) := by
  have HA := Lib.hid (AppSeq_any c1 bm es hes h)
  clear h hes
  go_enter Tryz.func35, Tryz.ntmps35
  go_wp2_with fail
  refine HA.out.mono ?_
  rintro e w1 ⟨L, a, c, hL, rfl, h1⟩
  have HL := Lib.hid hL
  clear hL
  go_wp2
  go_ret
  exact ⟨L, a, c, HL.out, rfl, h1⟩
/-- Sorted in its row. -/
theorem Sort_any {W w : World} {R : Asn} (a : Option Addr) (n c : Nat) (L : List Tx) (hn : L.length = n) (hn0 : 0 < n) (hn1 : n ≤ 1000000) (h : St W w (star (Row 9 1 (.slice a n c) n (strsV L)) R)) :
    Calls Tryz.prog 38 #[.slice a n c] w fun e w' => e = .returned (.tuple #[]) ∧ St W w' (star (Row 9 1 (.slice a n c) n (strsV (sortS L))) R) := by
  obtain ⟨ga, rfl⟩ : ∃ g, a = some ⟨g, 0, none⟩ := by
    obtain ⟨_, hv⟩ := h.row
    rcases hv with ⟨hv, hz, _⟩ | ⟨g', cap', cur, hv, _⟩
    · omega
    · cases hv; exact ⟨g', rfl⟩
  obtain ⟨hh, hg⟩ := holdsS hn h
  have HZ := Tryz.slices_Sort_string ga 0 c L w hh hg (by omega)
  rw [hn] at HZ
  refine HZ.mono ?_
  rintro e w2 ⟨rfl, k, os, rfl⟩
  exact ⟨rfl, St.sortedS (ys := sortS L) (by rw [sortS_len]; exact hn) h k os⟩
theorem joinC_cons (x : Tx) {r : List Tx} (h : r ≠ []) : joinC (x :: r) = x ++ 44 :: 32 :: joinC r := by
  cases r with
  | nil => exact absurd rfl h
  | cons y r => rfl
theorem joinC_eq : ∀ l : List Tx, Lib.join l [44, 32] = joinC l
  | [] => rfl
  | [x] => by rw [Lib.join_one]; rfl
  | x :: y :: r => by
    have ih := joinC_eq (y :: r)
    rw [joinC_cons _ (by simp), ← ih]
    rw [Lib.join_cons, Lib.join_cons]
    simp [Lib.joinTail]
theorem joinC_le : ∀ (l : List Tx) (b : Nat), (∀ x ∈ l, x.length ≤ b) → (joinC l).length ≤ l.length * (b + 2)
  | [], _, _ => by simp [joinC]
  | [x], b, h => by have := h x (by simp); simp [joinC]; omega
  | x :: y :: r, b, h => by
    have h1 := h x (by simp)
    have ih := joinC_le (y :: r) b (fun z hz => h z (by simp [hz]))
    rw [joinC_cons _ (by simp)]
    simp only [List.length_append, List.length_cons] at ih ⊢
    rw [Nat.add_mul (r.length + 1) 1, Nat.one_mul]
    omega
theorem JoinC_any {w : World} {a : Option Addr} {n c : Nat} {l : List Tx} (h : Sl w 1 (.slice a n c) n (strsV l)) (hln : l.length = n) (hn0 : 0 < n) (hn : n ≤ 10000) (hb : ∀ x ∈ l, x.length ≤ 10000) :
    Calls Tryz.prog 34 #[.slice a n c, .string ⟨#[44, 32]⟩] w (Makes w (.string ⟨(joinC l).toArray⟩)) := by
  have hcap : n ≤ c ∧ c ≤ 9223372036854775807 := by obtain ⟨_, _, _, hv, h1, h2, _⟩ := h; cases hv; exact ⟨h1, by simpa [maxLen] using h2⟩
  obtain ⟨y, hy⟩ : ∃ y, l[0]? = some y := ⟨_, List.getElem?_eq_getElem (by omega)⟩
  obtain ⟨ab, ao, rfl, hel0⟩ := strs_at h hy
  have hlt := World.block_lt_of_cell? w _ (hel0 _ _ (St.start w))
  have hj : Lib.join ((l.map fun x => (⟨x.toArray⟩ : ByteArray)).map (·.data.toList)) [44, 32] = joinC l := by
    rw [← joinC_eq, List.map_map]
    congr 1
    conv => rhs; rw [← List.map_id l]
    exact List.map_congr_left fun x _ => by simp
  have hjl := joinC_le l 10000 hb
  have h := Tryz.strings_Join ab ao c (l.map fun x => ⟨x.toArray⟩) ⟨#[44, 32]⟩ w (fun j x hx => by
    rw [List.getElem?_map] at hx
    cases hz : l[j]? with
    | none => rw [hz] at hx; cases hx
    | some z =>
      rw [hz] at hx
      cases hx
      obtain ⟨ab', ao', e, hel⟩ := strs_at h hz
      cases e
      exact hel _ _ (St.start w)) hlt (by simp; omega) (by simp; omega) (by
      show (Lib.join _ [44, 32]).length ≤ _
      rw [hj]
      have : l.length * (10000 + 2) ≤ 10000 * (10000 + 2) := Nat.mul_le_mul_right _ (by omega)
      omega)
  rw [List.length_map, hln] at h
  refine h.mono ?_
  rintro e w' ⟨rfl, hb⟩
  refine ⟨?_, hb⟩
  show Ending.returned (.string ⟨(Lib.join _ [44, 32]).toArray⟩) = _
  rw [hj]
theorem Contains_any {w : World} {a : Option Addr} {n c : Nat} {l : List Tx} (h : Sl w 1 (.slice a n c) n (strsV l)) (hln : l.length = n) (hn1 : n ≤ 1000000) (x : Tx) :
    Calls Tryz.prog 37 #[.slice a n c, .string ⟨x.toArray⟩] w fun e w' => e = .returned (.bool (decide (x ∈ l))) ∧ w' = w := by
  cases n with
  | zero =>
    obtain rfl : l = [] := List.eq_nil_of_length_eq_zero hln
    exact Tryz.slices_Contains_string_empty a c ⟨x.toArray⟩ w
  | succ m =>
    obtain ⟨y, hy⟩ : ∃ y, l[0]? = some y := ⟨_, List.getElem?_eq_getElem (by omega)⟩
    obtain ⟨ab, ao, rfl, hel0⟩ := strs_at h hy
    refine (Tryz.slices_Contains_string ab ao (m + 1) c (l.map fun x => ⟨x.toArray⟩) ⟨x.toArray⟩ w (by simp; omega) (by omega) (fun j hj => ?_)).mono ?_
    · rw [List.length_map] at hj
      obtain ⟨ab', ao', e, hel⟩ := strs_at h (List.getElem?_eq_getElem hj)
      cases e
      rw [hel _ _ (St.start w)]
      simp [hj]
    · rintro e w' ⟨rfl, rfl⟩
      refine ⟨?_, rfl⟩
      congr 2
      rw [List.take_of_length_le (by simp; omega), Bool.eq_iff_iff, Lib.containsS_iff, decide_eq_true_eq, List.mem_map]
      constructor
      · rintro ⟨z, hz, e⟩
        have : z = x := by
          have := congrArg (fun b : ByteArray => b.data.toList) e
          simpa using this
        exact this ▸ hz
      · exact fun hx => ⟨x, hx, rfl⟩
end Go.Proofs.YtlofiaaacepgmaaGreatDoor.RtS
namespace Go.Proofs.YtlofiaaacepgmaaGreatDoor.RtT
open Go Go.Sort Go.RowKit Go.Proofs Go.Proofs.YtlofiaaacepgmaaGreatDoor.Sep Go.Proofs.YtlofiaaacepgmaaGreatDoor.Reg Go.Proofs.YtlofiaaacepgmaaGreatDoor.Frame Go.Proofs.YtlofiaaacepgmaaGreatDoor.Strs Go.Proofs.YtlofiaaacepgmaaGreatDoor.Mp Go.Proofs.YtlofiaaacepgmaaGreatDoor.MpR Go.Proofs.YtlofiaaacepgmaaGreatDoor.TrP Go.Proofs.YtlofiaaacepgmaaGreatDoor.TrQ Go.Proofs.YtlofiaaacepgmaaGreatDoor.RtP Go.Proofs.YtlofiaaacepgmaaGreatDoor.RtA Go.Proofs.YtlofiaaacepgmaaGreatDoor.RtM Go.Proofs.YtlofiaaacepgmaaGreatDoor.RtB Go.Proofs.YtlofiaaacepgmaaGreatDoor.RtC Go.Proofs.YtlofiaaacepgmaaGreatDoor.RtD Go.Proofs.YtlofiaaacepgmaaGreatDoor.RtE Go.Proofs.YtlofiaaacepgmaaGreatDoor.RtR Go.Proofs.YtlofiaaacepgmaaGreatDoor.RtS

theorem msV_keys (ms : Ms) : (msV ms).map (·.1) = ms.map (·.1) := by unfold msV; rw [List.map_map]; rfl
theorem msV_len (ms : Ms) : (msV ms).length = ms.length := by unfold msV; rw [List.length_map]
theorem sortS_mem {l : List Tx} {x : Tx} : x ∈ sortS l ↔ x ∈ l := (List.mergeSort_perm l _).mem_iff
theorem getM_isSome {κ α : Type} [DecidableEq κ] (k : κ) (es : List (κ × α)) : (getM k es).isSome = true ↔ k ∈ es.map (·.1) := by
  cases e : getM k es with
  | none => have := getM_none.1 e; simp only [Option.isSome_none]; exact ⟨fun h => absurd h Bool.false_ne_true, fun h => absurd h this⟩
  | some v => exact ⟨fun _ => List.mem_map_of_mem (f := (·.1)) (getM_mem e), fun _ => rfl⟩
def AlPst (W : World) (b : Nat) (ms : Ms) (R : Asn) (e : Ending) (w' : World) : Prop := e = .returned (kS (allowM ms)) ∧ St W w' (star (Mp TrM.kS b (msV ms)) R)
theorem sortHead {L : List Tx} {ms : Ms} (hp : L.Perm (ms.map (·.1))) {K : List Tx} (hK : K = headed L) : joinC (sortS K) = allowM ms := by
  unfold allowM
  rw [hK, sortS_perm (headed_perm hp)]
set_option maxRecDepth 100000 in
set_option maxHeartbeats 8000000 in
theorem allow_any {W w : World} {R : Asn} (b : Nat) (ms : Ms) (h : St W w (star (Mp TrM.kS b (msV ms)) R)) (hne : ms ≠ []) (hml : ms.length ≤ 1000) (hkl : ∀ e ∈ ms, e.1.length ≤ 1000) :
    Calls Tryz.prog 20 #[.map (some b)] w (AlPst W b ms R) := by
  have h2 := h.alloc (.cells #[.map (some b)] 59)
  have HC := Lib.hid (Collect_any w.heap.size b (msV ms) (by rw [msV_len]; omega) (h2.eq (B := star (pt w.heap.size (.cells #[.map (some b)] 59 (0, 0))) (star (Mp TrM.kS b (msV ms)) R)) rfl))
  have HD := Lib.hid (mp_nodupS h)
  have HNE : Hid (0 < ms.length) := Lib.hid (by cases ms with | nil => exact absurd rfl hne | cons _ _ => simp)
  have HKL := Lib.hid hkl
  have HK : Hid (Calls Tryz.prog 36 #[.map (some b)] w fun e w' => e = .returned (.func (.func 56) #[] #[.pointer (some ⟨w.heap.size, 0, none⟩)]) ∧ w' = w.alloc (.cells #[.map (some b)] 59)) := Lib.hid (by
    clear HC h2 h hne hkl
    go_enter Tryz.func36, Tryz.ntmps36
    go_wp2
    go_ret
    exact ⟨rfl, rfl⟩)
  have HG : Hid (∀ w' A, St W w' (star (Mp TrM.kS b (msV ms)) A) → (Instr.lookup 59 (.map (some b)) (.string ⟨#[71, 69, 84]⟩) true).run Tryz.prog w' = .ok (lkV (getM wGET ms)) w') := Lib.hid fun w' A h => RtD.look h [71, 69, 84]
  clear h h2 hne hkl
  go_enter Tryz.func20, Tryz.ntmps20
  go_wp2_with fail
  refine HK.out.mono ?_
  rintro e w1 ⟨rfl, rfl⟩
  clear HK
  go_wp2_with fail
  refine HC.out.mono ?_
  rintro e w2 ⟨L, la, lc, hL, rfl, h3⟩
  clear HC
  have HP : Hid (L.Perm (ms.map (·.1))) := Lib.hid (by have := hL.done HD.out; rwa [msV_keys] at this)
  clear hL
  obtain ⟨n, hn⟩ : ∃ n, L.length = n := ⟨_, rfl⟩
  have hnm : n = ms.length := by rw [← hn, HP.out.length_eq]; simp
  rw [hn] at h3 ⊢
  have hn0 : 0 < n := by have := HNE.out; omega
  have hn1 : n ≤ 1000 := by omega
  have HN := Lib.hid hn
  have HBL : Hid (∀ x ∈ L, x.length ≤ 1000) := Lib.hid fun x hx => by
    obtain ⟨e, he, rfl⟩ := List.mem_map.1 (HP.out.mem_iff.1 hx)
    exact HKL.out e he
  have hlk := HG.out _ _ h3.swap
  have HGM : Hid ((getM wGET ms).isSome = true ↔ wGET ∈ L) := Lib.hid (by
    rw [getM_isSome, HP.out.mem_iff])
  have h3 : St W w2 (star (Row 9 1 (.slice la n lc) n (strsV L)) (star (Mp TrM.kS b (msV ms)) R)) := h3
  have HCo := fun (w : World) (hs : Sl w 1 (.slice la n lc) n (strsV L)) => Contains_any hs HN.out (by omega) [72, 69, 65, 68]
  have HCo := Lib.hid HCo
  clear hn hnm
  cases hg : getM wGET ms with
  | none =>
    rw [hg] at hlk HGM
    simp only [lkV] at hlk
    have HK2 : Hid (headed L = L) := Lib.hid (by
      unfold headed
      rw [if_neg (fun hx => by have := HGM.out.2 hx.1; cases this)])
    have h4 := (h3.alloc (.cells #[.string ByteArray.empty, .string ByteArray.empty, .int .i64 0, .string ByteArray.empty] 40 (0, 0))).right
    have HS := Lib.hid (Sort_any la n lc L HN.out hn0 (by omega) h4)
    clear hg
    go_wp2_with fail
    refine HS.out.mono ?_
    rintro e w5 ⟨rfl, h5⟩
    have HJ := Lib.hid (JoinC_any h5.rowSl (by rw [sortS_len]; exact HN.out) hn0 (by omega) (fun x hx => Nat.le_trans (HBL.out x (sortS_mem.1 hx)) (by omega)))
    clear HS h4 hlk h3
    go_wp2_with fail
    refine HJ.out.mono ?_
    rintro e w6 hq6
    have h6 := h5.makes hq6
    obtain ⟨rfl, -⟩ := hq6
    go_wp2
    go_ret
    exact ⟨by rw [← sortHead HP.out HK2.out.symm]; rfl, h6.right⟩
  | some r =>
    obtain ⟨rm, rp, rk, rt⟩ := r
    rw [hg] at hlk HGM
    simp only [lkV] at hlk
    have HGL : Hid (wGET ∈ L) := Lib.hid (HGM.out.1 rfl)
    have h4 := (h3.alloc (.cells #[kS rm, kS rp, .int .i64 rk, kS rt] 40 (0, 0))).right
    have HC2 := Lib.hid (HCo.out _ h4.rowSl)
    clear hg
    by_cases hh : wHEAD ∈ L
    · have HK2 : Hid (headed L = L) := Lib.hid (by unfold headed; rw [if_neg (fun hx => hx.2 hh)])
      have hdh : decide ([72, 69, 65, 68] ∈ L) = true := decide_eq_true hh
      rw [hdh] at HC2
      have HS := Lib.hid (Sort_any la n lc L HN.out hn0 (by omega) h4)
      clear hh hdh
      go_wp2_with fail
      refine HC2.out.mono ?_
      rintro e w5 ⟨rfl, rfl⟩
      go_wp2_with fail
      refine HS.out.mono ?_
      rintro e w5 ⟨rfl, h5⟩
      have HJ := Lib.hid (JoinC_any h5.rowSl (by rw [sortS_len]; exact HN.out) hn0 (by omega) (fun x hx => Nat.le_trans (HBL.out x (sortS_mem.1 hx)) (by omega)))
      clear HS h4 hlk h3
      go_wp2_with fail
      refine HJ.out.mono ?_
      rintro e w6 hq6
      have h6 := h5.makes hq6
      obtain ⟨rfl, -⟩ := hq6
      go_wp2
      go_ret
      exact ⟨by rw [← sortHead HP.out HK2.out.symm]; rfl, h6.right⟩
    · have HK2 : Hid (headed L = L ++ [wHEAD]) := Lib.hid (by unfold headed; rw [if_pos ⟨HGL.out, hh⟩])
      have hdh : decide ([72, 69, 65, 68] ∈ L) = false := decide_eq_false hh
      rw [hdh] at HC2
      obtain ⟨i0, hi0, hz0, hz1, hz2⟩ := info_parts infoS
      have U := Tryz.underlying55
      clear hh hdh
      go_wp2_with fail
      refine HC2.out.mono ?_
      rintro e w5 ⟨rfl, rfl⟩
      clear h3 hlk HC2
      generalize w2.alloc (.cells #[kS rm, kS rp, .int .i64 rk, kS rt] 40 (0, 0)) = w3 at *
      have h5 := h4.alloc (.cells #[.string ⟨#[72, 69, 65, 68]⟩] 9)
      have hone : Sl (w3.alloc (.cells #[.string ⟨#[72, 69, 65, 68]⟩] 9)) 1 (.slice (some ⟨w3.heap.size, 0, none⟩) 1 1) 1 (strsV [wHEAD]) := (St.mkRow (size := 1) (n := 1) (cap := 1) (xs := strsV [wHEAD]) h5 (Nat.le_refl _) (by unfold maxLen; omega) rfl rfl).rowSl
      have h6 := h5.right
      clear h5
      go_wp2_with (at_builtin; refine wpList_append_Sl rfl (.tmp 20) (.tmp 21) 55 rfl 9 i0 (.string ByteArray.empty) 1 16 U hi0 hz0 hz1 hz2 rfl _ n (strsV L) rfl h6 _ 1 (strsV [wHEAD]) rfl hone (oneS [wHEAD]) (by unfold maxLen; omega) (by omega) ?_; intro v9 w9 h9 _; obtain ⟨_, a9, c9, rfl, _⟩ := _root_.id h9.rowSl)
      rw [← strsV_append] at h9
      have HS := Lib.hid (Sort_any a9 (n + 1) c9 (L ++ [wHEAD]) (by have := HN.out; simp; omega) (by omega) (by omega) h9)
      clear h6 hone h4
      go_wp2_with fail
      refine HS.out.mono ?_
      rintro e w10 ⟨rfl, h10⟩
      have HJ := Lib.hid (JoinC_any h10.rowSl (by rw [sortS_len]; have := HN.out; simp; omega) (by omega) (by omega) (fun x hx => by
        have hx := sortS_mem.1 hx
        rcases List.mem_append.1 hx with h | h
        · exact Nat.le_trans (HBL.out x h) (by omega)
        · simp at h; subst h; decide))
      clear HS h9
      go_wp2_with fail
      refine HJ.out.mono ?_
      rintro e w11 hq11
      have h11 := h10.makes hq11
      obtain ⟨rfl, -⟩ := hq11
      go_wp2
      go_ret
      exact ⟨by rw [← sortHead HP.out HK2.out.symm]; rfl, h11.right⟩
end Go.Proofs.YtlofiaaacepgmaaGreatDoor.RtT
