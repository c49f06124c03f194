import Derived.Test.YtldobldhmodjlaaBufRef
import Derived.Deep.RegionHeld3
import Derived.Deep.MidRow
namespace Go.Proofs.Ytldobldhmodjlaa.BufPl
open Go Go.RowKit Go.Proofs Go.Proofs.Ytldobldhmodjlaa.Sep Go.Proofs.Ytldobldhmodjlaa.Reg Go.Proofs.Ytldobldhmodjlaa.Buf Go.Proofs.Ytldobldhmodjlaa.Frame Go.Proofs.Ytldobldhmodjlaa.BufFind Go.Proofs.Ytldobldhmodjlaa.BufLaw Go.Proofs.Ytldobldhmodjlaa.BufRef
/-- What is done to a buffer. -/
structure Act where
  d : Int
  n : Int
  s : List UInt8
namespace ActC
def E (x : Act) : List Value := [.int .i64 x.d, .int .i64 x.n, .string ⟨x.s.toArray⟩]
def Ok (x : Act) : Prop := (Lit.int .i64 x.d).wf = true ∧ (Lit.int .i64 x.n).wf = true ∧ x.s.length ≤ maxLen
theorem len (x : Act) : (E x).length = 3 := rfl
theorem dec {H : Type} {enc : TypeId × Value → H} {w : World} {base : Nat} {spare : Nat → Bool} {held : Bool} {n : Nat} {cs : List Value} {y : DataW H × List MemPlace} {d : TypeDesc} (_ : Try.prog.underlying 61 = some d)
    (h : DataW.trod enc Try.prog w base spare held n 61 cs = some y) : ∃ x, cs = E x ∧ Ok x := by
  obtain ⟨y0, y1, y2, m, -, hl, h0, h1, h2⟩ := Deep.trod_struct3 Try.underlying61 h
  rw [show Try.prog.cellsOf 61 = 3 by kernel_rfl] at hl
  have ci : Try.prog.cellsOf 3 = 1 := by kernel_rfl
  have cs1 : Try.prog.cellsOf 9 = 1 := by kernel_rfl
  match cs, hl with
  | [a, b, c], _ =>
    simp only [ci, cs1] at h0 h1 h2
    obtain ⟨d, e0, w0⟩ := int_in Try.underlying3 h0
    obtain ⟨n, e1, w1⟩ := int_in Try.underlying3 h1
    obtain ⟨s, e2, w2⟩ := string_in Try.underlying9 h2
    simp at e0 e1 e2
    subst e0; subst e1; subst e2
    exact ⟨⟨d, n, s⟩, rfl, w0, w1, w2⟩
end ActC
theorem act_at_all {W : World} {a : Option Addr} {n c : Nat} {xs : List Act} (h : Sl W 3 (.slice a n c) n (xs.flatMap ActC.E)) {k : Nat} {x : Act} (hk : xs[k]? = some x) :
    ∃ ab ao, a = some ⟨ab, ao, none⟩ ∧ ∀ w A, St W w A → ∀ j v, (ActC.E x)[j]? = some v → w.cell? ⟨ab, ao + k * 3 + j, none⟩ = some v := by
  have hg := flatMap_get (E := ActC.E) ActC.len xs k x hk
  have hlen : 0 < (xs.flatMap ActC.E).length := by
    have h0 := hg 0 (by omega)
    have := (List.getElem?_eq_some_iff.1 (show (xs.flatMap ActC.E)[k * 3 + 0]? = some (.int .i64 x.d) from h0)).1
    omega
  obtain ⟨ab, ao, rfl, hc⟩ := sl_addr h hlen
  refine ⟨ab, ao, rfl, fun w A hS j v hj => ?_⟩
  have hj3 : j < 3 := by have := (List.getElem?_eq_some_iff.1 hj).1; simpa [ActC.E] using this
  have hc := hc (k * 3 + j) v (by rw [hg j hj3]; exact hj)
  rw [← Nat.add_assoc] at hc
  exact (hS.old (World.block_lt_of_cell? W _ hc)).trans hc

abbrev strs (xs : List Act) : List (List UInt8) := xs.map Act.s

def GPost (W : World) (R : Asn) (xs : List Act) (e : Ending) (w' : World) : Prop := ∃ b, e = .returned (.bool b) ∧ (b = false → xs.length ≤ 300 ∧ totLen (strs xs) ≤ 20000) ∧ St W w' R

set_option maxRecDepth 100000 in
set_option maxHeartbeats 1600000 in
theorem great_any {W w : World} {R : Asn} (a : Option Addr) (len cap : Nat) (xs : List Act) (hlen : xs.length = len) (hsl : Sl W 3 (.slice a len cap) len (xs.flatMap ActC.E)) (h : St W w R) :
    Calls Try.prog 37 #[.slice a len cap] w (GPost W R xs) := by
  have hcap : cap ≤ 9223372036854775807 := by obtain ⟨_, _, _, e, _, h2, _⟩ := hsl; cases e; simpa [maxLen] using h2
  have hlc : len ≤ cap := by obtain ⟨_, _, _, e, h1, _⟩ := hsl; cases e; exact h1
  have hls : (strs xs).length = len := by simpa using hlen
  go_enter Try.func37, Try.ntmps37
  go_wp2_with fail
  go_loop [3, 4] (fun n i => ∃ k : Nat, k ≤ len ∧ k ≤ 301 ∧ i = .int .i64 k ∧ n = .int .i64 (sumMin 20001 ((strs xs).take k))) (fun _ i => len - (intOf i).toNat)
  case atStart => exact ⟨0, by omega, by omega, rfl, rfl⟩
  case round =>
    obtain ⟨k, hk, hk1, rfl, rfl⟩ := hrel
    have hb := sumMin_le 20001 ((strs xs).take k)
    have hb2 : ((strs xs).take k).length ≤ k := List.length_take_le _ _
    by_cases hlt : k < len
    · by_cases hk2 : k ≤ 300
      · obtain ⟨x, hx⟩ : ∃ x, xs[k]? = some x := ⟨_, List.getElem?_eq_getElem (by omega)⟩
        obtain ⟨ab, ao, rfl, hcs⟩ := act_at_all hsl hx
        have hc := hcs _ _ h 2 _ rfl
        have hs := sumMin_snoc 20001 (strs xs) k x.s (by simp [strs, hx])
        have HS := Lib.hid hs
        clear hs hx hsl hcs
        go_wp2
        exact ⟨⟨k + 1, by omega, by omega, by go_num, by rw [HS.out]; refine int_eq ?_; first | omega | (split <;> omega)⟩, by simp [intOf]; omega⟩
      · go_wp2
        go_ret
        exact ⟨_, rfl, fun hh => (by simp at hh), h⟩
    · obtain rfl : k = len := by omega
      rw [List.take_of_length_le (by omega)] at hb hb2 ⊢
      have htl : sumMin 20001 (strs xs) ≤ 20000 → totLen (strs xs) ≤ 20000 := fun hq => by rw [show totLen (strs xs) = sumMin 20001 (strs xs) from totLen_of_sumMin 20000 (strs xs) hq]; omega
      have HT := Lib.hid htl
      clear htl
      by_cases h300 : 300 < k
      · go_wp2
        go_ret
        exact ⟨_, rfl, fun hh => (by simp at hh), h⟩
      · go_wp2
        go_ret
        exact ⟨_, rfl, fun hh => ⟨by omega, HT.out (by simp at hh; omega)⟩, h⟩


theorem New_bad (m : Int) (w : World) (h : m < 0 ∨ 1073741824 < m) : Calls Try.prog 31 #[.int .i64 m] w (Quiet w (.tuple #[.pointer none, .int .i64 1])) := by
  rcases h with h | h
  all_goals
    go_enter Try.func31, Try.ntmps31
    go_wp2
    go_ret2
    exact Quiet.mk0 _ _

/-- Both buffers. -/
def Both (W w : World) (R : Asn) (b r max : Nat) (l : List UInt8) : Prop := St W w (star (BufA b true max l) (star (RbA r max l) R))
section
variable {W w : World} {R : Asn} {b r max : Nat} {l : List UInt8}
theorem Both.drewN (h : Both W w R b r max l) (n : Nat) : Both W (w.drewN n) R b r max l := St.drewN h n
theorem Both.ref (h : Both W w R b r max l) : St W w (star (RbA r max l) (star (BufA b true max l) R)) := St.swap h
end

set_option maxRecDepth 100000 in
set_option maxHeartbeats 3200000 in
theorem plays_any {W w : World} {R : Asn} (hm : MaxLen W) (most : Int) (a : Option Addr) (len cap : Nat) (xs : List Act) (hlen : xs.length = len) (hsl : Sl W 3 (.slice a len cap) len (xs.flatMap ActC.E)) (h : St W w R) :
    Calls Try.prog 9 #[.int .i64 most, .slice a len cap] w (Law W R) := by
  have hcap : cap ≤ 9223372036854775807 := by obtain ⟨_, _, _, e, _, h2, _⟩ := hsl; cases e; simpa [maxLen] using h2
  have hlc : len ≤ cap := by obtain ⟨_, _, _, e, h1, _⟩ := hsl; cases e; exact h1
  have hls : (strs xs).length = len := by simpa using hlen
  go_enter Try.func9, Try.ntmps9
  go_wp2_with fail
  refine (awake_any hm h).mono ?_
  rintro e w1 ⟨rfl, h1⟩
  go_wp2_with fail
  refine (great_any a len cap xs hlen hsl h1).mono ?_
  rintro e w2 ⟨g, rfl, hg, h2⟩
  cases g
  case true =>
    go_wp2
    go_ret
    exact ⟨rfl, h2⟩
  obtain ⟨hl300, htot⟩ := hg rfl
  clear hg
  rw [hlen] at hl300
  by_cases hbad : most < 0 ∨ 1073741824 < most
  · go_wp2_with fail
    refine (New_bad most _ hbad).mono ?_
    rintro e w3 hq
    have h3 := h2.quiet hq
    obtain ⟨rfl, -⟩ := hq
    rcases hbad with hbad | hbad
    all_goals
      go_wp2
      go_ret
      exact ⟨rfl, h3⟩
  obtain ⟨max, rfl⟩ : ∃ max : Nat, most = max := ⟨most.toNat, by omega⟩
  have hmax : max ≤ 1073741824 := by omega
  clear hbad
  go_wp2_with fail
  refine (Buf.New_St max hmax h2).mono ?_
  rintro e w3 ⟨b, rfl, h3⟩
  have h4 : Both W _ R b w3.heap.size max [] := St.swap (h3.alloc (rbcells max []))
  go_wp2_with fail
  generalize w3.heap.size = r at *
  go_loopw [8] (fun i wr => ∃ (k : Nat) (l : List UInt8), k ≤ len ∧ i = .int .i64 k ∧ l.length ≤ max ∧ l.length ≤ totLen ((strs xs).take k) ∧ Both W wr R b r max l) (fun i _ => len - (intOf i).toNat)
  case atStart => exact ⟨0, [], by omega, rfl, by simp, by simp, h4⟩
  case round =>
    obtain ⟨k, l, hk, rfl, hlm, hm9, hB⟩ := hrel
    have ht2 := totLen_take_le (strs xs) k
    by_cases hlt : k < len
    · obtain ⟨x, hx⟩ : ∃ x, xs[k]? = some x := ⟨_, List.getElem?_eq_getElem (by omega)⟩
      obtain ⟨ab, ao, rfl, hcs⟩ := act_at_all hsl hx
      have ht1 := totLen_snoc (strs xs) k x.s (by simp [strs, hx])
      have ht3 := totLen_take_le (strs xs) (k + 1)
      have hxs : x.s.length ≤ 20000 := by omega
      have q0 : wr.cell? ⟨ab, ao + k * 3, none⟩ = some (.int .i64 x.d) := hcs _ _ hB 0 _ rfl
      have K1 : Hid (∀ w A, St W w A → w.cell? ⟨ab, ao + k * 3 + 1, none⟩ = some (.int .i64 x.n)) := Lib.hid fun w A h => hcs w A h 1 _ rfl
      have K2 : Hid (∀ w A, St W w A → w.cell? ⟨ab, ao + k * 3 + 2, none⟩ = some (.string ⟨x.s.toArray⟩)) := Lib.hid fun w A h => hcs w A h 2 _ rfl
      clear hcs hx
      obtain ⟨d, n, s⟩ := x
      simp only at *
      rcases (show d = 0 ∨ d = 1 ∨ d = 2 ∨ d = 3 ∨ (d < 0 ∨ 3 < d) from by omega) with rfl | rfl | rfl | rfl | hd
      · have HA := Lib.hid (show Calls Try.prog 32 #[.pointer (some ⟨b, 0, none⟩), .string ⟨s.toArray⟩] wr.drew (BPost W (star (RbA r max l) R) b max (l ++ s.take (max - l.length)) (.int .i64 ((min s.length (max - l.length) : Nat) : Int))) from Buf.Write_any s (by omega) (St.drew hB))
        have k2 := K2.out _ _ hB
        have HR := Lib.hid fun (w5 : World) (h : St W w5 (star (BufA b true max (l ++ s.take (max - l.length))) (star (RbA r max l) R))) => BufRef.Write_any s (by omega) hlm hmax (St.swap h)
        generalize ((min s.length (max - l.length) : Nat) : Int) = q at HA HR
        go_wp2_with fail
        go_region_held3 (fun w' => w'.cell? ⟨ab, ao + k * 3 + 2, none⟩ = some (.string ⟨s.toArray⟩)) (first | go_keep | (exact K2.out _ _ (by assumption)))
          (first | (go_at_call 32; refine HA.out.mono ?_; rintro e w4 ⟨rfl, h45⟩) | (go_at_call 38; refine (HR.out _ h45).mono ?_; rintro e w5 ⟨rfl, h55⟩))
        have h5 : Both W w5 R b r max (l ++ s.take (max - l.length)) := St.swap h55
        clear HA HR h45 h55
        have d1 := St.cell (Both.ref h5) 1 (v := .string ⟨(l ++ s.take (max - l.length)).toArray⟩) rfl
        have hl5 : (l ++ s.take (max - l.length)).length ≤ max := by simp; omega
        have ht5 : (l ++ s.take (max - l.length)).length ≤ totLen ((strs xs).take (k + 1)) := by rw [ht1]; simp; omega
        have HQ := Lib.hid fun nn => Both.drewN h5 nn
        have HLn := Lib.hid fun nn => Buf.Len_any (Both.drewN h5 nn)
        have HRm := Lib.hid fun nn => (show Calls Try.prog 36 #[.pointer (some ⟨b, 0, none⟩)] (w5.drewN nn) (Quiet (w5.drewN nn) (.int .i64 ((max : Int) - (l ++ s.take (max - l.length)).length))) from (Buf.Room_any (Both.drewN h5 nn)).mono fun e w' q => q.eq (int_eq (by omega)))
        generalize l ++ s.take (max - l.length) = l' at *
        have HE5 := Lib.hid (And.intro hl5 ht5)
        clear ht5 h5 ht1
        go_wp2_with fail
        go_quiet (first | (go_at_call 43; exact Calls.quiet_of (HLn.out _)) | (go_at_call 36; exact Calls.quiet_of (HRm.out _)))
        have h6 := HQ.out nq
        go_wp2
        exact ⟨⟨k + 1, l', by omega, by go_num, HE5.out.1, HE5.out.2, h6⟩, by simp [intOf]; omega⟩
      · have HA := Lib.hid (show Calls Try.prog 34 #[.pointer (some ⟨b, 0, none⟩), .int .i64 n] wr.drew (BPost W (star (RbA r max l) R) b max (l.drop n.toNat) (.string ⟨(peekN n l).toArray⟩)) from Buf.Read_any n (St.drew hB))
        have k1 := K1.out _ _ hB
        have HR := Lib.hid fun (w5 : World) (h : St W w5 (star (BufA b true max (l.drop n.toNat)) (star (RbA r max l) R))) => BufRef.Read_any n (St.swap h)
        generalize peekN n l = q at HA HR
        go_wp2_with fail
        go_region_held3 (fun w' => w'.cell? ⟨ab, ao + k * 3 + 1, none⟩ = some (.int .i64 n)) (first | go_keep | (exact K1.out _ _ (by assumption)))
          (first | (go_at_call 34; refine HA.out.mono ?_; rintro e w4 ⟨rfl, h45⟩) | (go_at_call 39; refine (HR.out _ h45).mono ?_; rintro e w5 ⟨rfl, h55⟩))
        have h5 : Both W w5 R b r max (l.drop n.toNat) := St.swap h55
        clear HA HR h45 h55
        have d1 := St.cell (Both.ref h5) 1 (v := .string ⟨(l.drop n.toNat).toArray⟩) rfl
        have hl5 : (l.drop n.toNat).length ≤ max := by simp; omega
        have ht5 : (l.drop n.toNat).length ≤ totLen ((strs xs).take (k + 1)) := by rw [ht1]; simp; omega
        have HQ := Lib.hid fun nn => Both.drewN h5 nn
        have HLn := Lib.hid fun nn => Buf.Len_any (Both.drewN h5 nn)
        have HRm := Lib.hid fun nn => (show Calls Try.prog 36 #[.pointer (some ⟨b, 0, none⟩)] (w5.drewN nn) (Quiet (w5.drewN nn) (.int .i64 ((max : Int) - (l.drop n.toNat).length))) from (Buf.Room_any (Both.drewN h5 nn)).mono fun e w' q => q.eq (int_eq (by omega)))
        generalize l.drop n.toNat = l' at *
        have HE5 := Lib.hid (And.intro hl5 ht5)
        clear ht5 h5 ht1
        go_wp2_with fail
        go_quiet (first | (go_at_call 43; exact Calls.quiet_of (HLn.out _)) | (go_at_call 36; exact Calls.quiet_of (HRm.out _)))
        have h6 := HQ.out nq
        go_wp2
        exact ⟨⟨k + 1, l', by omega, by go_num, HE5.out.1, HE5.out.2, h6⟩, by simp [intOf]; omega⟩
      · have HA := Lib.hid fun n' => Buf.Peek_any n (Both.drewN hB n')
        have HR := Lib.hid fun n' => BufRef.Peek_any n (Both.drewN hB n').ref
        generalize peekN n l = q at HA HR
        have k1 := K1.out _ _ hB
        have HB5 := Lib.hid hB
        go_wp2_with fail
        go_quiet (first | (go_at_call 40; exact Calls.quiet_of (HA.out _)) | (go_at_call 41; exact Calls.quiet_of (HR.out _)))
        have h5 := Both.drewN HB5.out nq
        clear HA HR HB5 hB k1 q0
        generalize wr.drewN nq = w5 at *
        have d1 := St.cell (Both.ref h5) 1 (v := .string ⟨(l).toArray⟩) rfl
        have hl5 : (l).length ≤ max := by omega
        have ht5 : (l).length ≤ totLen ((strs xs).take (k + 1)) := by rw [ht1]; omega
        have HQ := Lib.hid fun nn => Both.drewN h5 nn
        have HLn := Lib.hid fun nn => Buf.Len_any (Both.drewN h5 nn)
        have HRm := Lib.hid fun nn => (show Calls Try.prog 36 #[.pointer (some ⟨b, 0, none⟩)] (w5.drewN nn) (Quiet (w5.drewN nn) (.int .i64 ((max : Int) - (l).length))) from (Buf.Room_any (Both.drewN h5 nn)).mono fun e w' q => q.eq (int_eq (by omega)))
        generalize l = l' at *
        have HE5 := Lib.hid (And.intro hl5 ht5)
        clear ht5 h5 ht1
        go_wp2_with fail
        go_quiet (first | (go_at_call 43; exact Calls.quiet_of (HLn.out _)) | (go_at_call 36; exact Calls.quiet_of (HRm.out _)))
        have h6 := HQ.out nq
        go_wp2
        exact ⟨⟨k + 1, l', by omega, by go_num, HE5.out.1, HE5.out.2, h6⟩, by simp [intOf]; omega⟩
      · have HA := Lib.hid (show Calls Try.prog 33 #[.pointer (some ⟨b, 0, none⟩), .string ⟨s.toArray⟩] wr.drew (BPost W (star (RbA r max l) R) b max l (.int .i64 (Lib.index l s))) from BufFind.Find_any hm s (by omega) (St.drew hB))
        have k2 := K2.out _ _ hB
        have HR := Lib.hid fun (w5 : World) (h : St W w5 (star (BufA b true max l) (star (RbA r max l) R))) => BufRef.Find_any s (by omega) (by omega) (St.swap h)
        generalize Lib.index l s = q at HA HR
        go_wp2_with fail
        go_region_held3 (fun w' => w'.cell? ⟨ab, ao + k * 3 + 2, none⟩ = some (.string ⟨s.toArray⟩)) (first | go_keep | (exact K2.out _ _ (by assumption)))
          (first | (go_at_call 33; refine HA.out.mono ?_; rintro e w4 ⟨rfl, h45⟩) | (go_at_call 42; refine (HR.out _ h45).mono ?_; rintro e w5 hq; have h55 := St.quiet h45 hq; obtain ⟨rfl, -⟩ := hq))
        have h5 : Both W w5 R b r max l := h55
        clear HA HR h45 h55
        have d1 := St.cell (Both.ref h5) 1 (v := .string ⟨(l).toArray⟩) rfl
        have hl5 : (l).length ≤ max := by omega
        have ht5 : (l).length ≤ totLen ((strs xs).take (k + 1)) := by rw [ht1]; omega
        have HQ := Lib.hid fun nn => Both.drewN h5 nn
        have HLn := Lib.hid fun nn => Buf.Len_any (Both.drewN h5 nn)
        have HRm := Lib.hid fun nn => (show Calls Try.prog 36 #[.pointer (some ⟨b, 0, none⟩)] (w5.drewN nn) (Quiet (w5.drewN nn) (.int .i64 ((max : Int) - (l).length))) from (Buf.Room_any (Both.drewN h5 nn)).mono fun e w' q => q.eq (int_eq (by omega)))
        generalize l = l' at *
        have HE5 := Lib.hid (And.intro hl5 ht5)
        clear ht5 h5 ht1
        go_wp2_with fail
        go_quiet (first | (go_at_call 43; exact Calls.quiet_of (HLn.out _)) | (go_at_call 36; exact Calls.quiet_of (HRm.out _)))
        have h6 := HQ.out nq
        go_wp2
        exact ⟨⟨k + 1, l', by omega, by go_num, HE5.out.1, HE5.out.2, h6⟩, by simp [intOf]; omega⟩
      · have n0 : ¬ d = 0 := by omega
        have n1 : ¬ d = 1 := by omega
        have n2 : ¬ d = 2 := by omega
        have n3 : ¬ d = 3 := by omega
        clear hd
        have h5 := Both.drewN hB 0
        have hw5 : wr.drewN 0 = wr := rfl
        rw [hw5] at h5
        clear hw5
        generalize hw5 : wr = w5 at *
        have d1 := St.cell (Both.ref h5) 1 (v := .string ⟨(l).toArray⟩) rfl
        have hl5 : (l).length ≤ max := by omega
        have ht5 : (l).length ≤ totLen ((strs xs).take (k + 1)) := by rw [ht1]; omega
        have HQ := Lib.hid fun nn => Both.drewN h5 nn
        have HLn := Lib.hid fun nn => Buf.Len_any (Both.drewN h5 nn)
        have HRm := Lib.hid fun nn => (show Calls Try.prog 36 #[.pointer (some ⟨b, 0, none⟩)] (w5.drewN nn) (Quiet (w5.drewN nn) (.int .i64 ((max : Int) - (l).length))) from (Buf.Room_any (Both.drewN h5 nn)).mono fun e w' q => q.eq (int_eq (by omega)))
        generalize l = l' at *
        have HE5 := Lib.hid (And.intro hl5 ht5)
        clear ht5 h5 ht1
        go_wp2_with fail
        go_quiet (first | (go_at_call 43; exact Calls.quiet_of (HLn.out _)) | (go_at_call 36; exact Calls.quiet_of (HRm.out _)))
        have h6 := HQ.out nq
        go_wp2
        exact ⟨⟨k + 1, l', by omega, by go_num, HE5.out.1, HE5.out.2, h6⟩, by simp [intOf]; omega⟩
    · obtain rfl : k = len := by omega
      go_wp2
      go_ret
      exact ⟨rfl, hB.ref.right.right⟩

theorem plays_walk (most : Int) (_ : (Lit.int .i64 most).wf = true) {W : World} (a : Option Addr) (len cap : Nat) (xs : List Act) (hlen : xs.length = len) (hsl : Sl W 3 (.slice a len cap) len (xs.flatMap ActC.E)) (_ : ∀ x ∈ xs, ActC.Ok x) (hm : MaxLen W) :
    Calls Try.prog 9 #[.int .i64 most, .slice a len cap] W (Law W emp) := plays_any hm most a len cap xs hlen hsl (St.start W)

end Go.Proofs.Ytldobldhmodjlaa.BufPl
