import Derived.Test.YtldobldhmodjlaaPipeRel
import Derived.Deep.RegionHeld3
import Derived.Deep.MidRow
namespace Go.Proofs.Ytldobldhmodjlaa.PipePl
open Go Go.RowKit Go.Proofs Go.Proofs.Ytldobldhmodjlaa.Sep Go.Proofs.Ytldobldhmodjlaa.Reg Go.Proofs.Ytldobldhmodjlaa.Buf Go.Proofs.Ytldobldhmodjlaa.Pipe Go.Proofs.Ytldobldhmodjlaa.Frame Go.Proofs.Ytldobldhmodjlaa.PipeLaw Go.Proofs.Ytldobldhmodjlaa.PipeRef Go.Proofs.Ytldobldhmodjlaa.PipeRel

/-- What is done to a pipe. -/
structure Act where
  d : Int
  n : Int
  s : List UInt8
namespace ActC
def E (x : Act) : List Value := [.int .i64 x.d, .int .i64 x.n, .string ⟨x.s.toArray⟩]
def Ok (x : Act) : Prop := (Lit.int .i64 x.d).wf = true ∧ (Lit.int .i64 x.n).wf = true ∧ x.s.length ≤ maxLen
theorem len (x : Act) : (E x).length = 3 := rfl
theorem dec {H : Type} {enc : TypeId × Value → H} {w : World} {base : Nat} {spare : Nat → Bool} {held : Bool} {n : Nat} {cs : List Value} {y : DataW H × List MemPlace} {d : TypeDesc} (_ : Try.prog.underlying 46 = some d)
    (h : DataW.trod enc Try.prog w base spare held n 46 cs = some y) : ∃ x, cs = E x ∧ Ok x := by
  obtain ⟨y0, y1, y2, m, -, hl, h0, h1, h2⟩ := Deep.trod_struct3 Try.underlying46 h
  rw [show Try.prog.cellsOf 46 = 3 by kernel_rfl] at hl
  have ci : Try.prog.cellsOf 3 = 1 := by kernel_rfl
  have cs1 : Try.prog.cellsOf 9 = 1 := by kernel_rfl
  match cs, hl with
  | [a, b, c], _ =>
    simp only [ci, cs1] at h0 h1 h2
    obtain ⟨d, e0, w0⟩ := int_in Try.underlying3 h0
    obtain ⟨n, e1, w1⟩ := int_in Try.underlying3 h1
    obtain ⟨s, e2, w2⟩ := string_in Try.underlying9 h2
    simp at e0 e1 e2
    subst e0; subst e1; subst e2
    exact ⟨⟨d, n, s⟩, rfl, w0, w1, w2⟩
end ActC
theorem act_at_all {W : World} {a : Option Addr} {n c : Nat} {xs : List Act} (h : Sl W 3 (.slice a n c) n (xs.flatMap ActC.E)) {k : Nat} {x : Act} (hk : xs[k]? = some x) :
    ∃ ab ao, a = some ⟨ab, ao, none⟩ ∧ ∀ w A, St W w A → ∀ j v, (ActC.E x)[j]? = some v → w.cell? ⟨ab, ao + k * 3 + j, none⟩ = some v := by
  have hg := flatMap_get (E := ActC.E) ActC.len xs k x hk
  have hlen : 0 < (xs.flatMap ActC.E).length := by
    have h0 := hg 0 (by omega)
    have := (List.getElem?_eq_some_iff.1 (show (xs.flatMap ActC.E)[k * 3 + 0]? = some (.int .i64 x.d) from h0)).1
    omega
  obtain ⟨ab, ao, rfl, hc⟩ := sl_addr h hlen
  refine ⟨ab, ao, rfl, fun w A hS j v hj => ?_⟩
  have hj3 : j < 3 := by have := (List.getElem?_eq_some_iff.1 hj).1; simpa [ActC.E] using this
  have hc := hc (k * 3 + j) v (by rw [hg j hj3]; exact hj)
  rw [← Nat.add_assoc] at hc
  exact (hS.old (World.block_lt_of_cell? W _ hc)).trans hc

abbrev strs (xs : List Act) : List (List UInt8) := xs.map Act.s

def GPost (W : World) (R : Asn) (xs : List Act) (e : Ending) (w' : World) : Prop := ∃ b, e = .returned (.bool b) ∧ (b = false → xs.length ≤ 300 ∧ totLen (strs xs) ≤ 200000) ∧ St W w' R

set_option maxRecDepth 100000 in
set_option maxHeartbeats 1600000 in
theorem great_any {W w : World} {R : Asn} (a : Option Addr) (len cap : Nat) (xs : List Act) (hlen : xs.length = len) (hsl : Sl W 3 (.slice a len cap) len (xs.flatMap ActC.E)) (h : St W w R) :
    Calls Try.prog 28 #[.slice a len cap] w (GPost W R xs) := by
  have hcap : cap ≤ 9223372036854775807 := by obtain ⟨_, _, _, e, _, h2, _⟩ := hsl; cases e; simpa [maxLen] using h2
  have hlc : len ≤ cap := by obtain ⟨_, _, _, e, h1, _⟩ := hsl; cases e; exact h1
  have hls : (strs xs).length = len := by simpa using hlen
  go_enter Try.func28, Try.ntmps28
  go_wp2_with fail
  go_loop [3, 4] (fun n i => ∃ k : Nat, k ≤ len ∧ k ≤ 301 ∧ i = .int .i64 k ∧ n = .int .i64 (sumMin 200001 ((strs xs).take k))) (fun _ i => len - (intOf i).toNat)
  case atStart => exact ⟨0, by omega, by omega, rfl, rfl⟩
  case round =>
    obtain ⟨k, hk, hk1, rfl, rfl⟩ := hrel
    have hb := sumMin_le 200001 ((strs xs).take k)
    have hb2 : ((strs xs).take k).length ≤ k := List.length_take_le _ _
    by_cases hlt : k < len
    · by_cases hk2 : k ≤ 300
      · obtain ⟨x, hx⟩ : ∃ x, xs[k]? = some x := ⟨_, List.getElem?_eq_getElem (by omega)⟩
        obtain ⟨ab, ao, rfl, hcs⟩ := act_at_all hsl hx
        have hc := hcs _ _ h 2 _ rfl
        have hs := sumMin_snoc 200001 (strs xs) k x.s (by simp [strs, hx])
        have HS := Lib.hid hs
        clear hs hx hsl hcs
        go_wp2
        exact ⟨⟨k + 1, by omega, by omega, by go_num, by rw [HS.out]; refine int_eq ?_; split <;> omega⟩, by simp [intOf]; omega⟩
      · go_wp2
        go_ret
        exact ⟨_, rfl, fun hh => (by simp at hh), h⟩
    · obtain rfl : k = len := by omega
      rw [List.take_of_length_le (by omega)] at hb hb2 ⊢
      have htl : sumMin 200001 (strs xs) ≤ 200000 → totLen (strs xs) ≤ 200000 := fun hq => by rw [show totLen (strs xs) = sumMin 200001 (strs xs) from totLen_of_sumMin 200000 (strs xs) hq]; omega
      have HT := Lib.hid htl
      clear htl
      by_cases h300 : 300 < k
      · go_wp2
        go_ret
        exact ⟨_, rfl, fun hh => (by simp at hh), h⟩
      · go_wp2
        go_ret
        exact ⟨_, rfl, fun hh => ⟨by omega, HT.out (by simp at hh; omega)⟩, h⟩

theorem rel_left {st : PSt} {r : RSt} (hr : Rel st r) (ho : st.out.length ≤ 1000000000) : -1152921504606846976 ≤ st.left ∧ st.left ≤ 1152921504606846976 := by
  cases hb : st.bounded
  · have := hr.l1 hb
    omega
  · have := hr.l0 hb
    omega

/-- Both pipes. -/
def Both (W w : World) (R : Asn) (p b : Nat) (st : PSt) (r : RSt) : Prop := St W w (star (PipeA p 65536 st) (star (RefA b r) R))
theorem Both.ref {W w : World} {R : Asn} {p b : Nat} {st : PSt} {r : RSt} (h : Both W w R p b st r) : St W w (star (RefA b r) (star (PipeA p 65536 st) R)) := h.swap
def DPost (W : World) (R : Asn) (p b : Nat) (m : Nat) (e : Ending) (w' : World) : Prop :=
  e = .returned (.bool true) ∧ ∃ st r, Rel st r ∧ st.out.length ≤ m ∧ Both W w' R p b st r

def actV (x : Act) : Value := .agg #[.int .i64 x.d, .int .i64 x.n, .string ⟨x.s.toArray⟩]
abbrev actO (x : Act) : Obj := .cells #[.int .i64 x.d, .int .i64 x.n, .string ⟨x.s.toArray⟩] 46 (0, 0)

/-- What a call leaves of both: the pipe's own turn, then the plain one's. -/
theorem both_pipe {W w : World} {R : Asn} {p b g : Nat} {st : PSt} {r : RSt} {x : Act} (h : St W w (star (pt g (actO x)) (star (PipeA p 65536 st) (star (RefA b r) R)))) :
    St W w (star (PipeA p 65536 st) (star (RefA b r) (star (pt g (actO x)) R))) := h.eq (by ac_rfl)

def Jt (W w : World) (R : Asn) (p b g : Nat) (st : PSt) (r : RSt) (x : Act) : Prop := St W w (star (PipeA p 65536 st) (star (RefA b r) (star (pt g (actO x)) R)))
section
variable {W w : World} {R : Asn} {p b g : Nat} {st : PSt} {r : RSt} {x : Act}
theorem Jt.c (h : Jt W w R p b g st r x) : w.cell? ⟨g, 0, none⟩ = some (.int .i64 x.d) ∧ w.cell? ⟨g, 1, none⟩ = some (.int .i64 x.n) ∧ w.cell? ⟨g, 2, none⟩ = some (.string ⟨x.s.toArray⟩) := by
  have h' : St W w (star (pt g (actO x)) (star (PipeA p 65536 st) (star (RefA b r) R))) := St.eq h (by ac_rfl)
  exact ⟨h'.cell 0 rfl, h'.cell 1 rfl, h'.cell 2 rfl⟩
theorem Jt.pipe (h : Jt W w R p b g st r x) : St W w (star (PipeA p 65536 st) (star (RefA b r) (star (pt g (actO x)) R))) := h
theorem Jt.ref (h : Jt W w R p b g st r x) : St W w (star (RefA b r) (star (PipeA p 65536 st) (star (pt g (actO x)) R))) := St.swap h
theorem Jt.ofRef (h : St W w (star (RefA b r) (star (PipeA p 65536 st) (star (pt g (actO x)) R)))) : Jt W w R p b g st r x := h.swap
theorem Jt.both (h : Jt W w R p b g st r x) : Both W w R p b st r := (St.eq h (by ac_rfl) : St W w (star (pt g (actO x)) (star (PipeA p 65536 st) (star (RefA b r) R)))).right
theorem Jt.drew (h : Jt W w R p b g st r x) : Jt W w.drew R p b g st r x := St.drew h
end

set_option maxRecDepth 100000 in
set_option maxHeartbeats 3200000 in
theorem does_any {W w : World} {R : Asn} {p b : Nat} {st : PSt} {r : RSt} (x : Act) (m : Nat) (hr : Rel st r) (hx : x.s.length ≤ 200000) (hm : st.out.length ≤ m) (hm2 : m ≤ 200000) (h : Both W w R p b st r) :
    Calls Try.prog 29 #[.pointer (some ⟨p, 0, none⟩), .pointer (some ⟨b, 0, none⟩), actV x] w (DPost W R p b (m + x.s.length)) := by
  obtain ⟨d, n, s⟩ := x
  have h0 : Jt W _ R p b w.heap.size st r ⟨d, n, s⟩ := both_pipe ((h : St _ _ _).alloc (actO ⟨d, n, s⟩))
  obtain ⟨c0, c1, c2⟩ := h0.c
  clear h
  have HK := Lib.hid fun (w' : World) (st : PSt) (r : RSt) (h : Jt W w' R p b w.heap.size st r ⟨d, n, s⟩) => h.c
  unfold actV
  simp only at hx c0 c1 c2 HK ⊢
  have hroom := hr.room
  have hinn := hr.inn
  have hout := hr.out
  have hlb := hr.lb
  rcases (show d = 0 ∨ d = 1 ∨ d = 2 ∨ d = 3 ∨ d = 4 ∨ d = 5 ∨ d = 6 ∨ (d < 0 ∨ 6 < d) from by omega) with rfl | rfl | rfl | rfl | rfl | rfl | rfl | hd
  · obtain ⟨e1, hr'⟩ := rel_arrive hr s
    have hmo : (st.arrive 65536 s).2.out.length ≤ m + s.length := by rw [out_arrive]; omega
    have HA := Lib.hid (Pipe.Arrive_any s (by omega) h0.drew.pipe)
    have HR := Lib.hid fun (w' : World) (h : Jt W w' R p b w.heap.size (st.arrive 65536 s).2 r ⟨0, n, s⟩) => PipeRef.Arrive_any s (by omega) (by rw [hinn]; exact hroom) h.ref
    simp only [e1] at HR
    generalize (st.arrive 65536 s).1 = q at HA HR
    generalize (st.arrive 65536 s).2 = st' at HA HR hr' hmo
    generalize (r.arrive s).2 = r' at HR hr'
    go_enter Try.func29, Try.ntmps29
    go_wp2_with fail
    go_region_held3 (fun w' => w'.cell? ⟨w.heap.size, 2, none⟩ = some (.string ⟨s.toArray⟩)) (first | go_keep | (exact (HK.out _ _ _ (by assumption)).2.2))
      (first | (go_at_call 15; refine HA.out.mono ?_; rintro e w5 ⟨rfl, h5⟩; have h5 : Jt W w5 R p b w.heap.size st' r ⟨0, n, s⟩ := h5) | (go_at_call 46; refine (HR.out _ h5).mono ?_; rintro e w6 ⟨rfl, h6⟩; have h6 : Jt W w6 R p b w.heap.size st' r' ⟨0, n, s⟩ := Jt.ofRef h6))
    go_wp2
    go_ret
    exact ⟨rfl, _, _, hr', hmo, h6.both⟩
  · obtain ⟨e1, e2, hr'⟩ := rel_reading hr
    have hmo : st.reading.2.2.out.length ≤ m + s.length := by rw [out_reading]; omega
    have HA := Lib.hid (Pipe.Read_any h0.pipe)
    have HR := Lib.hid fun (w' : World) (h : Jt W w' R p b w.heap.size st.reading.2.2 r ⟨1, n, s⟩) => PipeRef.Read_any (by rw [hinn]; exact hroom) (by rw [hr.cut]; exact hr.cut0.1) h.ref
    simp only [e1, e2] at HR
    generalize st.reading.1 = q1 at HA HR
    generalize st.reading.2.1 = q2 at HA HR
    generalize st.reading.2.2 = st' at HA HR hr' hmo
    generalize r.reading.2.2 = r' at HR hr'
    go_enter Try.func29, Try.ntmps29
    go_wp2_with fail
    refine HA.out.mono ?_
    rintro e w5 ⟨rfl, h5⟩
    go_wp2_with fail
    refine (HR.out _ h5).mono ?_
    rintro e w6 ⟨rfl, h6⟩
    have h6 : Jt W w6 R p b w.heap.size st' r' ⟨1, n, s⟩ := Jt.ofRef h6
    go_wp2
    go_ret
    exact ⟨rfl, _, _, hr', hmo, h6.both⟩
  · obtain ⟨e1, e2, hr'⟩ := rel_writing hr s
    have hmo : (st.writing s).2.2.out.length ≤ m + s.length := by have := out_writing st s; omega
    obtain ⟨hl0, hl1⟩ := rel_left hr (by omega)
    have HA := Lib.hid (Pipe.Write_any s (by omega) hl0 hl1 (fun hb => (hr.l0 hb).1) h0.pipe)
    have HR := Lib.hid fun (w' : World) (h : Jt W w' R p b w.heap.size (st.writing s).2.2 r ⟨2, n, s⟩) => PipeRef.Write_any s (by rw [hout]; omega) hlb.1 (by omega) h.ref
    simp only [e1, e2] at HR
    generalize (st.writing s).1 = q1 at HA HR
    generalize (st.writing s).2.1 = q2 at HA HR
    generalize (st.writing s).2.2 = st' at HA HR hr' hmo
    generalize (r.writing s).2.2 = r' at HR hr'
    go_enter Try.func29, Try.ntmps29
    go_wp2_with fail
    refine HA.out.mono ?_
    rintro e w5 ⟨rfl, h5⟩
    obtain ⟨d0, d1, d2⟩ := HK.out _ _ _ h5
    go_wp2_with fail
    refine (HR.out _ h5).mono ?_
    rintro e w6 ⟨rfl, h6⟩
    have h6 : Jt W w6 R p b w.heap.size st' r' ⟨2, n, s⟩ := Jt.ofRef h6
    go_wp2
    go_ret
    exact ⟨rfl, _, _, hr', hmo, h6.both⟩
  · by_cases hn : n < 0 ∨ 65536 < n
    · have HA := Lib.hid (Pipe.Cut_any n h0.pipe)
      rw [show PSt.cutting st n = (1, st) from if_pos hn] at HA
      go_enter Try.func29, Try.ntmps29
      rcases hn with hn | hn
      all_goals
        go_wp2_with fail
        refine HA.out.mono ?_
        rintro e w5 ⟨rfl, h5⟩
        obtain ⟨d0, d1, d2⟩ := HK.out _ _ _ h5
        have h5 : Jt W w5 R p b w.heap.size st r ⟨3, n, s⟩ := h5
        go_wp2
        go_ret
        exact ⟨rfl, _, _, hr, by omega, h5.both⟩
    · have HA := Lib.hid (Pipe.Cut_any n h0.pipe)
      rw [show PSt.cutting st n = (0, { st with cut := n }) from if_neg hn] at HA
      have hr' := rel_cutting hr n (by omega) (by omega)
      have hn1 : ¬ n < 0 := by omega
      have hn2 : ¬ 65536 < n := by omega
      clear hn
      go_enter Try.func29, Try.ntmps29
      go_wp2_with fail
      refine HA.out.mono ?_
      rintro e w5 ⟨rfl, h5⟩
      obtain ⟨d0, d1, d2⟩ := HK.out _ _ _ h5
      have h5 : Jt W w5 R p b w.heap.size { st with cut := n } r ⟨3, n, s⟩ := h5
      have f2 := St.free h5.ref 2
      have s2 := Lib.hid (St.setCell h5.ref 2 (.int .i64 n))
      have i2 := St.cell h5.ref 2 rfl
      go_wp2
      go_ret
      exact ⟨rfl, _, _, hr', by simp only; omega, (Jt.ofRef s2.out : Jt W _ R p b w.heap.size { st with cut := n } { r with cut := n } ⟨3, n, s⟩).both⟩
  · by_cases hn : n < 0 ∨ 1099511627776 < n
    · have HA := Lib.hid (Pipe.Break_any n h0.pipe)
      rw [show PSt.breaking st n = (1, st) from if_pos hn] at HA
      go_enter Try.func29, Try.ntmps29
      rcases hn with hn | hn
      all_goals
        go_wp2_with fail
        refine HA.out.mono ?_
        rintro e w5 ⟨rfl, h5⟩
        obtain ⟨d0, d1, d2⟩ := HK.out _ _ _ h5
        have h5 : Jt W w5 R p b w.heap.size st r ⟨4, n, s⟩ := h5
        go_wp2
        go_ret
        exact ⟨rfl, _, _, hr, by omega, h5.both⟩
    · have HA := Lib.hid (Pipe.Break_any n h0.pipe)
      rw [show PSt.breaking st n = (0, { st with bounded := true, left := n }) from if_neg hn] at HA
      have hr' := rel_breaking hr n (by omega) (by omega)
      have hn1 : ¬ n < 0 := by omega
      have hn2 : ¬ 1099511627776 < n := by omega
      clear hn
      go_enter Try.func29, Try.ntmps29
      go_wp2_with fail
      refine HA.out.mono ?_
      rintro e w5 ⟨rfl, h5⟩
      obtain ⟨d0, d1, d2⟩ := HK.out _ _ _ h5
      have h5 : Jt W w5 R p b w.heap.size { st with bounded := true, left := n } r ⟨4, n, s⟩ := h5
      have f2 := St.free h5.ref 3
      have s2 := Lib.hid (St.setCell h5.ref 3 (.int .i64 n))
      have i2 := St.cell h5.ref 3 rfl
      go_wp2
      go_ret
      exact ⟨rfl, _, _, hr', by simp only; omega, (Jt.ofRef s2.out : Jt W _ R p b w.heap.size { st with bounded := true, left := n } { r with left := n } ⟨4, n, s⟩).both⟩
  · have HA := Lib.hid (Pipe.Finish_any h0.pipe)
    have hr' := rel_finish hr
    go_enter Try.func29, Try.ntmps29
    go_wp2_with fail
    refine HA.out.mono ?_
    rintro e w5 ⟨rfl, h5⟩
    have h5 : Jt W w5 R p b w.heap.size { st with finished := true } r ⟨5, n, s⟩ := h5
    have f2 := St.free h5.ref 4
    have s2 := Lib.hid (St.setCell h5.ref 4 (.bool true))
    have i2 := St.cell h5.ref 4 rfl
    go_wp2
    go_ret
    exact ⟨rfl, _, _, hr', by simp only; omega, (Jt.ofRef s2.out : Jt W _ R p b w.heap.size { st with finished := true } { r with fin := true } ⟨5, n, s⟩).both⟩
  · have HA := Lib.hid (Pipe.End_any h0.pipe)
    have hr' := rel_ending hr
    go_enter Try.func29, Try.ntmps29
    go_wp2_with fail
    refine HA.out.mono ?_
    rintro e w5 ⟨rfl, h5⟩
    have h5 : Jt W w5 R p b w.heap.size st.ending r ⟨6, n, s⟩ := h5
    go_wp2_with fail
    refine (PipeRef.End_any h5.ref).mono ?_
    rintro e w6 ⟨rfl, h6⟩
    have h6 : Jt W w6 R p b w.heap.size st.ending { r with over := true, inn := [] } ⟨6, n, s⟩ := Jt.ofRef h6
    go_wp2
    go_ret
    exact ⟨rfl, _, _, hr', by simp only [PSt.ending]; omega, h6.both⟩
  · have n0 : ¬ d = 0 := by omega
    have n1 : ¬ d = 1 := by omega
    have n2 : ¬ d = 2 := by omega
    have n3 : ¬ d = 3 := by omega
    have n4 : ¬ d = 4 := by omega
    have n5 : ¬ d = 5 := by omega
    have n6 : ¬ d = 6 := by omega
    clear hd
    go_enter Try.func29, Try.ntmps29
    go_wp2
    go_ret
    exact ⟨rfl, _, _, hr, by omega, h0.both⟩

set_option maxRecDepth 100000 in
set_option maxHeartbeats 3200000 in
theorem plays_any {W w : World} {R : Asn} (a : Option Addr) (len cap : Nat) (xs : List Act) (hlen : xs.length = len) (hsl : Sl W 3 (.slice a len cap) len (xs.flatMap ActC.E)) (h : St W w R) :
    Calls Try.prog 6 #[.slice a len cap] w (Law W R) := by
  have hcap : cap ≤ 9223372036854775807 := by obtain ⟨_, _, _, e, _, h2, _⟩ := hsl; cases e; simpa [maxLen] using h2
  have hlc : len ≤ cap := by obtain ⟨_, _, _, e, h1, _⟩ := hsl; cases e; exact h1
  have hls : (strs xs).length = len := by simpa using hlen
  go_enter Try.func6, Try.ntmps6
  go_wp2_with fail
  refine (awake_any h).mono ?_
  rintro e w1 ⟨rfl, h1⟩
  go_wp2_with fail
  refine (great_any a len cap xs hlen hsl h1).mono ?_
  rintro e w2 ⟨g, rfl, hg, h2⟩
  cases g
  case true =>
    go_wp2
    go_ret
    exact ⟨rfl, h2⟩
  obtain ⟨hl300, htot⟩ := hg rfl
  clear hg
  rw [hlen] at hl300
  go_wp2_with fail
  refine (PNew_St h2).mono ?_
  rintro e w3 ⟨p, rfl, h3⟩
  have h4 : Both W _ R p w3.heap.size _ ⟨[], [], 0, -1, false, false, false⟩ := St.swap (h3.alloc (rcells ⟨[], [], 0, -1, false, false, false⟩))
  go_wp2_with fail
  generalize w3.heap.size = b at *
  go_loopw [5] (fun i wr => ∃ (k : Nat) (st : PSt) (r : RSt), k ≤ len ∧ i = .int .i64 k ∧ Rel st r ∧ st.out.length ≤ totLen ((strs xs).take k) ∧ Both W wr R p b st r) (fun i _ => len - (intOf i).toNat)
  case atStart => exact ⟨0, _, _, by omega, rfl, rel_start, by simp, h4⟩
  case round =>
    obtain ⟨k, st, r, hk, rfl, hr, hm, hB⟩ := hrel
    have ht2 := totLen_take_le (strs xs) k
    by_cases hlt : k < len
    · obtain ⟨x, hx⟩ : ∃ x, xs[k]? = some x := ⟨_, List.getElem?_eq_getElem (by omega)⟩
      obtain ⟨ab, ao, rfl, hcs⟩ := act_at_all hsl hx
      have ht1 := totLen_snoc (strs xs) k x.s (by simp [strs, hx])
      have ht3 := totLen_take_le (strs xs) (k + 1)
      have q0 : wr.cell? ⟨ab, ao + k * 3, none⟩ = some (.int .i64 x.d) := hcs _ _ hB 0 _ rfl
      have q1 : wr.cell? ⟨ab, ao + k * 3 + 1, none⟩ = some (.int .i64 x.n) := hcs _ _ hB 1 _ rfl
      have q2 : wr.cell? ⟨ab, ao + k * 3 + 2, none⟩ = some (.string ⟨x.s.toArray⟩) := hcs _ _ hB 2 _ rfl
      clear hcs
      have HD := Lib.hid (does_any x _ hr (by omega) hm (by omega) (St.drew hB : Both W wr.drew R p b st r))
      unfold actV at HD
      go_wp2_with fail
      refine wp_region_segs [(false, [0, 1, 2, 3, 4, 5, 6]), (true, [7, 8, 9, 10, 11, 12, 13, 14, 15, 16, 17, 18, 19, 20, 21, 22, 23, 24, 25, 26, 27, 28, 29, 30, 31, 32, 33, 34, 35, 36, 37, 38, 39, 40, 41, 42, 43, 44, 45, 46, 47, 48, 49, 50, 51])] (by kernel_rfl) (by kernel_rfl) ?_
      simp only [wpSegs, pickOps, nthOp]
      go_wp2_with fail
      refine HD.out.mono ?_
      rintro e w5 ⟨rfl, st', r', hr', hm', h5⟩
      have d0 := St.cell h5.ref 0 (v := .string ⟨r'.inn.toArray⟩) rfl
      have d4 := St.cell h5.ref 4 (v := .bool r'.fin) rfl
      have d5 := St.cell h5.ref 5 (v := .bool r'.over) rfl
      have d6 := St.cell h5.ref 6 (v := .bool r'.brk) rfl
      have HQ := Lib.hid fun n => (St.drewN h5 n : Both W (w5.drewN n) R p b st' r')
      have HRr := Lib.hid fun n => (show Calls Try.prog 30 #[.pointer (some ⟨b, 0, none⟩)] (w5.drewN n) (Quiet (w5.drewN n) (.bool st'.ready)) by rw [← rel_ready hr']; exact PipeRef.Ready_any (Both.ref (HQ.out n)))
      rw [hr'.inn] at d0
      rw [hr'.fin] at d4
      rw [hr'.over] at d5
      rw [hr'.brk] at d6
      clear HD h5 q0 q1 q2
      go_wp2_with fail
      simp only [Reg.Next]
      repeat (go_big_quiet_step (first
        | (go_at_call 20; exact Calls.quiet_of (Pipe.Ready_any (HQ.out _)))
        | (go_at_call 30; exact Calls.quiet_of (HRr.out _))
        | (go_at_call 27; exact Calls.quiet_of (Pipe.Finished_any (HQ.out _)))
        | (go_at_call 26; exact Calls.quiet_of (Pipe.Ended_any (HQ.out _)))
        | (go_at_call 19; exact Calls.quiet_of (Pipe.Broken_any (HQ.out _)))
        | (go_at_call 21; exact Calls.quiet_of (Pipe.Waits_any (HQ.out _)))))
      refine wpQuiet_nil ?_
      intro nq
      have h6 := HQ.out nq
      go_wp2
      exact ⟨⟨k + 1, st', r', by omega, by go_num, hr', by rw [ht1]; exact hm', h6⟩, by simp [intOf]; omega⟩
    · obtain rfl : k = len := by omega
      have c1 := St.cell hB.ref 1 (v := .string ⟨r.out.toArray⟩) rfl
      rw [hr.out] at c1
      have HQ := Lib.hid fun n => (St.drewN hB n : Both W (wr.drewN n) R p b st r)
      go_wp2_with fail
      go_quiet ((go_at_call 18; exact Calls.quiet_of (Pipe.Output_any (HQ.out _))))
      go_wp2
      go_ret
      exact ⟨rfl, (HQ.out nq).right.right⟩

theorem plays_walk {W : World} (a : Option Addr) (len cap : Nat) (xs : List Act) (hlen : xs.length = len) (hsl : Sl W 3 (.slice a len cap) len (xs.flatMap ActC.E)) (_ : ∀ x ∈ xs, ActC.Ok x) :
    Calls Try.prog 6 #[.slice a len cap] W (Law W emp) := plays_any a len cap xs hlen hsl (St.start W)

end Go.Proofs.Ytldobldhmodjlaa.PipePl
