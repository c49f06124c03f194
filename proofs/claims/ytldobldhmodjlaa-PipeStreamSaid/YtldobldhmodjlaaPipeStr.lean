import Derived.Test.YtldobldhmodjlaaPipeLaw
import Derived.Deep.RegionHeld3
namespace Go.Proofs.Ytldobldhmodjlaa.PipeStr
open Go Go.RowKit Go.Proofs Go.Proofs.Ytldobldhmodjlaa.Sep Go.Proofs.Ytldobldhmodjlaa.Reg Go.Proofs.Ytldobldhmodjlaa.Buf Go.Proofs.Ytldobldhmodjlaa.Pipe Go.Proofs.Ytldobldhmodjlaa.Frame Go.Proofs.Ytldobldhmodjlaa.PipeLaw

/-- How the pipe stands: what waits, the cut; finished or not. -/
abbrev stOf (f : Bool) (inn : List UInt8) (cut : Int) : PSt := ⟨false, f, false, false, inn, [], cut, 0⟩
def mostOf (cut : Int) : Nat := if cut = 0 then 65536 else cut.toNat
theorem mostOf_pos (cut : Int) (h : 0 ≤ cut) : 0 < mostOf cut := by unfold mostOf; split <;> omega

theorem read_some (f : Bool) (inn : List UInt8) (cut : Int) (h : inn ≠ []) (hc : 0 ≤ cut) : (stOf f inn cut).reading = (inn.take (mostOf cut), false, stOf f (inn.drop (mostOf cut)) cut) := by
  have hp := mostOf_pos cut hc
  have hm : (stOf f inn cut).most.toNat = mostOf cut := by unfold PSt.most mostOf; split <;> rfl
  have hr : (stOf f inn cut).ready = true := by
    unfold PSt.ready PSt.closed
    have : 0 < inn.length := by cases inn <;> simp_all
    simp [this]
  unfold PSt.reading
  rw [hr]
  simp only [if_true, peekN, hm]
  have : (inn.take (mostOf cut)).isEmpty = false := by
    cases inn with
    | nil => simp at h
    | cons x xs => cases hq : mostOf cut with
      | zero => omega
      | succ n => rfl
  rw [this]
theorem read_none (cut : Int) : (stOf false [] cut).reading = ([], false, stOf false [] cut) := by
  unfold PSt.reading PSt.ready PSt.closed; simp
theorem read_end (cut : Int) : (stOf true [] cut).reading = ([], true, stOf true [] cut) := by
  unfold PSt.reading PSt.ready PSt.closed peekN; simp
theorem arrive_all (inn x : List UInt8) (cut : Int) (h : inn.length + x.length ≤ 65536) : (stOf false inn cut).arrive 65536 x = ((x.length : Int), stOf false (inn ++ x) cut) := by
  unfold PSt.arrive PSt.closed
  have h1 : x.take (65536 - inn.length) = x := List.take_of_length_le (by omega)
  have h2 : min x.length (65536 - inn.length) = x.length := by omega
  simp [h1, h2]

theorem bytes_nil (l : List UInt8) : (⟨l.toArray⟩ : ByteArray) ++ ⟨#[]⟩ = ⟨l.toArray⟩ := by
  apply ByteArray.ext
  show (_ : Array UInt8) = _
  simp

set_option maxRecDepth 100000 in
set_option maxHeartbeats 3200000 in
theorem stream_any {W w : World} {R : Asn} (a : Option Addr) (len cap : Nat) (xs : List (List UInt8)) (hlen : xs.length = len) (hsl : Sl W 1 (.slice a len cap) len (xs.flatMap Str.E))
    (a2 : Option Addr) (len2 cap2 : Nat) (cs : List UInt8) (hlen2 : cs.length = len2) (hsl2 : Sl W 1 (.slice a2 len2 cap2) len2 (cs.flatMap Byte.E)) (h : St W w R) :
    Calls Try.prog 4 #[.slice a len cap, .slice a2 len2 cap2] w (Law W R) := by
  have hcap : cap ≤ 9223372036854775807 := by obtain ⟨_, _, _, e, _, h2, _⟩ := hsl; cases e; simpa [maxLen] using h2
  have hlc : len ≤ cap := by obtain ⟨_, _, _, e, h1, _⟩ := hsl; cases e; exact h1
  have hcap2 : cap2 ≤ 9223372036854775807 := by obtain ⟨_, _, _, e, _, h2, _⟩ := hsl2; cases e; simpa [maxLen] using h2
  have hlc2 : len2 ≤ cap2 := by obtain ⟨_, _, _, e, h1, _⟩ := hsl2; cases e; exact h1
  go_enter Try.func4, Try.ntmps4
  go_wp2_with fail
  refine (awake_any h).mono ?_
  rintro e w1 ⟨rfl, h1⟩
  go_wp2_with fail
  go_loop [5, 6] (fun n i => ∃ k : Nat, k ≤ len ∧ k ≤ 51 ∧ i = .int .i64 k ∧ n = .int .i64 (sumMin 20001 (xs.take k))) (fun _ i => len - (intOf i).toNat)
  case atStart => exact ⟨0, by omega, by omega, rfl, rfl⟩
  case round =>
    obtain ⟨k, hk, hk1, rfl, rfl⟩ := hrel
    have hb := sumMin_le 20001 (xs.take k)
    have hb2 : (xs.take k).length ≤ k := List.length_take_le _ _
    by_cases hlt : k < len
    · by_cases hk2 : k ≤ 50
      · obtain ⟨x, hx⟩ : ∃ x, xs[k]? = some x := ⟨_, List.getElem?_eq_getElem (by omega)⟩
        obtain ⟨ab, ao, rfl, hc⟩ := str_at (sl_later hsl h1) hx
        have hs := sumMin_snoc 20001 xs k x hx
        have HS := Lib.hid hs
        clear hs hx hsl
        go_wp2
        exact ⟨⟨k + 1, by omega, by omega, by go_num, by rw [HS.out]; refine int_eq ?_; split <;> omega⟩, by simp [intOf]; omega⟩
      · go_wp2
        go_ret
        exact ⟨rfl, h1⟩
    · obtain rfl : k = len := by omega
      rw [List.take_of_length_le (by omega)] at hb hb2 ⊢
      by_cases h100 : 50 < k
      · go_wp2
        go_ret
        exact ⟨rfl, h1⟩
      by_cases htot : 20000 < sumMin 20001 xs
      · go_wp2
        go_ret
        exact ⟨rfl, h1⟩
      by_cases hm100 : 100 < len2
      · go_wp2
        go_ret
        exact ⟨rfl, h1⟩
      have htl : totLen xs ≤ 20000 := by rw [show totLen xs = sumMin 20001 xs from totLen_of_sumMin 20000 xs (show sumMin 20001 xs ≤ 20000 by omega)]; omega
      go_wp2_with fail
      refine (PNew_St h1).mono ?_
      rintro e w2 ⟨p, rfl, h2⟩
      go_wp2_with fail
      go_loopw [8, 9, 10] (fun al gt i wr => ∃ (j : Nat) (got inn : List UInt8) (cut : Nat), j ≤ k ∧ i = .int .i64 j ∧ al = .string ⟨(got ++ inn).toArray⟩ ∧ gt = .string ⟨got.toArray⟩ ∧ cut ≤ 255 ∧ (got ++ inn).length ≤ totLen (xs.take j) ∧ St W wr (star (PipeA p 65536 (stOf false inn cut)) R))
        (fun _ _ i _ => k - (intOf i).toNat)
      case atStart => exact ⟨0, [], [], 0, by omega, rfl, rfl, rfl, by omega, by simp, h2⟩
      case round =>
        obtain ⟨j, got, inn, cut, hj, rfl, rfl, rfl, hcut, hout, hS⟩ := hrel
        have hout2 := totLen_take_le xs j
        by_cases hjk : j < k
        · obtain ⟨x, hx⟩ : ∃ x, xs[j]? = some x := ⟨_, List.getElem?_eq_getElem (by omega)⟩
          obtain ⟨ab, ao, rfl, hcell⟩ := str_at_all hsl hx
          have HCell := Lib.hid hcell
          have hc := hcell _ _ hS
          clear hcell
          have ht1 := totLen_snoc xs j x hx
          have ht2 := totLen_take_le xs (j + 1)
          have hal : (got ++ inn).length = got.length + inn.length := by simp
          have hxl : x.length ≤ 20000 := by omega
          have hol : got.length + inn.length + x.length ≤ 20000 := by omega
          have HA := Lib.hid (Pipe.Arrive_any x (by omega) hS.drew)
          rw [arrive_all inn x cut (by omega)] at HA
          have HT : Hid ((got ++ (inn ++ x)).length ≤ totLen (xs.take (j + 1))) := Lib.hid (by simp; omega)
          have hadd := run_str_add (P := Try.prog) (got ++ inn) x (by omega)
          rw [List.append_assoc] at hadd
          clear ht1 hx hal
          go_wp2_with fail
          go_region_held3 (fun w' => w'.cell? ⟨ab, ao + j, none⟩ = some (.string ⟨x.toArray⟩)) (first | go_keep | (exact HCell.out _ _ (by assumption)))
            (first | (go_at_call 15; refine HA.out.mono ?_; rintro e w5 ⟨rfl, h5⟩))
          generalize hy : inn ++ x = y at *
          have hyl : got.length + y.length ≤ 20000 := by rw [← hy]; simp; omega
          clear hy hxl hol hout hc HA
          have hc5 := HCell.out _ _ h5
          by_cases hj2 : j < len2
          · obtain ⟨c, hcx⟩ : ∃ c, cs[j]? = some c := ⟨_, List.getElem?_eq_getElem (by omega)⟩
            obtain ⟨bb, bo, rfl, hbyte⟩ := byte_at_all hsl2 hcx
            have HByte := Lib.hid hbyte
            have hb5 := hbyte _ _ h5
            have hcl : c.toNat ≤ 255 := by have := c.toNat_lt; omega
            have HCut := Lib.hid (show ∀ (w : World), St W w (star (PipeA p 65536 (stOf false y cut)) R) → Calls Try.prog 22 #[.pointer (some ⟨p, 0, none⟩), .int .i64 c.toNat] w (PPost W R p 65536 (.int .i64 0) (stOf false y c.toNat)) from fun w h => by
              have := Pipe.Cut_any (c.toNat : Int) h
              rwa [show PSt.cutting _ (c.toNat : Int) = (0, _) from if_neg (by omega)] at this)
            clear hbyte hcx
            by_cases hy0 : y = []
            · subst hy0
              have HRd := Lib.hid fun (w : World) (h : St W w (star (PipeA p 65536 (stOf false [] c.toNat)) R)) => Pipe.Read_any h
              simp only [read_none] at HRd
              go_wp2_with fail
              refine (HCut.out _ h5).mono ?_
              rintro e w6 ⟨rfl, h6⟩
              go_wp2_with fail
              refine (HRd.out _ h6).mono ?_
              rintro e w7 ⟨rfl, h7⟩
              have hb7 := HByte.out _ _ h7
              go_wp2
              all_goals refine ⟨⟨j + 1, got, [], c.toNat, by omega, by go_num, by simp, by rw [bytes_nil], by omega, HT.out, h7⟩, by simp [intOf]; omega⟩
            · have hm := mostOf_pos (c.toNat : Int) (by omega)
              have HRd := Lib.hid fun (w : World) (h : St W w (star (PipeA p 65536 (stOf false y c.toNat)) R)) => Pipe.Read_any h
              simp only [read_some false y (c.toNat : Int) hy0 (by omega)] at HRd
              go_wp2_with fail
              refine (HCut.out _ h5).mono ?_
              rintro e w6 ⟨rfl, h6⟩
              go_wp2_with fail
              refine (HRd.out _ h6).mono ?_
              rintro e w7 ⟨rfl, h7⟩
              have hb7 := HByte.out _ _ h7
              have hne : (⟨(y.take (mostOf c.toNat)).toArray⟩ : ByteArray) ≠ ⟨#[]⟩ := by
                intro he
                have := congrArg (fun b : ByteArray => b.data.toList.length) he
                have hyp : 0 < y.length := by cases y <;> simp_all
                simp only [List.length_take, List.length_nil] at this
                omega
              have hlen9 : 0 < c.toNat → ¬ ((c.toNat : Int) < ((⟨(y.take (mostOf c.toNat)).toArray⟩ : ByteArray).size : Int)) := by
                intro h0
                show ¬ ((c.toNat : Int) < ((y.take (mostOf c.toNat)).length : Int))
                have : mostOf (c.toNat : Int) = c.toNat := by unfold mostOf; rw [if_neg (by omega)]; omega
                simp [this]
                omega
              have hadd2 := run_str_add (P := Try.prog) got (y.take (mostOf c.toNat)) (by simp; omega)
              clear hadd
              by_cases hc0 : 0 < c.toNat
              · have hl10 := hlen9 hc0
                clear hlen9
                go_wp2
                · exact ⟨⟨j + 1, got ++ y.take (mostOf c.toNat), y.drop (mostOf c.toNat), c.toNat, by omega, by go_num, by rw [List.append_assoc, List.take_append_drop], rfl, by omega, by rw [List.append_assoc, List.take_append_drop]; exact HT.out, h7⟩, by simp [intOf]; omega⟩
                · exfalso
                  have : mostOf (c.toNat : Int) = c.toNat := by unfold mostOf; rw [if_neg (by omega)]; omega
                  omega
              · go_wp2
                exact ⟨⟨j + 1, got ++ y.take (mostOf c.toNat), y.drop (mostOf c.toNat), c.toNat, by omega, by go_num, by rw [List.append_assoc, List.take_append_drop], rfl, by omega, by rw [List.append_assoc, List.take_append_drop]; exact HT.out, h7⟩, by simp [intOf]; omega⟩
          · go_wp2
            exact ⟨⟨j + 1, got, y, cut, by omega, by go_num, rfl, rfl, hcut, HT.out, h5⟩, by simp [intOf]; omega⟩
        · obtain rfl : j = k := by omega
          go_wp2_with fail
          refine (show Calls Try.prog 24 #[.pointer (some ⟨p, 0, none⟩)] _ (PPost W R p 65536 (.tuple #[]) (stOf true inn cut)) from Pipe.Finish_any hS).mono ?_
          rintro e w3 ⟨rfl, h3⟩
          go_wp2_with fail
          go_loopw [9, 13] (fun gt i wr => ∃ (m : Nat) (g2 in2 : List UInt8), m ≤ 20000 ∧ i = .int .i64 m ∧ gt = .string ⟨g2.toArray⟩ ∧ g2 ++ in2 = got ++ inn ∧ in2.length + m ≤ 20000 ∧ St W wr (star (PipeA p 65536 (stOf true in2 cut)) R))
            (fun _ i _ => 20001 - (intOf i).toNat)
          case atStart => exact ⟨0, got, inn, by omega, rfl, rfl, rfl, by simp at hout; omega, h3⟩
          case round =>
            obtain ⟨m, g2, in2, hm, rfl, rfl, hgi, hil, hS2⟩ := hrel
            by_cases hi0 : in2 = []
            · subst hi0
              have HRd := Lib.hid fun (w : World) (h : St W w (star (PipeA p 65536 (stOf true [] cut)) R)) => Pipe.Read_any h
              simp only [read_end] at HRd
              rw [List.append_nil] at hgi
              subst hgi
              go_wp2_with fail
              refine (HRd.out _ hS2).mono ?_
              rintro e w7 ⟨rfl, h7⟩
              go_wp2_with fail
              refine (HRd.out _ h7).mono ?_
              rintro e w8 ⟨rfl, h8⟩
              have HRy := Lib.hid (show Calls Try.prog 20 #[.pointer (some ⟨p, 0, none⟩)] w8 (Quiet w8 (.bool true)) from Pipe.Ready_any h8)
              have HWa := Lib.hid fun (w : World) (h : St W w (star (PipeA p 65536 (stOf true [] cut)) R)) => Pipe.Waits_any h
              go_wp2_with fail
              refine HRy.out.mono ?_
              rintro e w9 hq
              have h9 := h8.quiet hq
              obtain ⟨rfl, -⟩ := hq
              go_wp2_with fail
              refine (HWa.out _ h9).mono ?_
              rintro e w10 hq
              have h10 := h9.quiet hq
              obtain ⟨rfl, -⟩ := hq
              go_wp2
              go_ret
              exact ⟨rfl, h10.right⟩
            · have hmp := mostOf_pos (cut : Int) (by omega)
              have HRd := Lib.hid fun (w : World) (h : St W w (star (PipeA p 65536 (stOf true in2 cut)) R)) => Pipe.Read_any h
              simp only [read_some true in2 (cut : Int) hi0 (by omega)] at HRd
              have hip : 0 < in2.length := by cases in2 <;> simp_all
              have hgl := congrArg List.length hgi
              simp only [List.length_append] at hgl
              have hadd := run_str_add (P := Try.prog) g2 (in2.take (mostOf cut)) (by simp; simp at hout; omega)
              go_wp2_with fail
              refine (HRd.out _ hS2).mono ?_
              rintro e w7 ⟨rfl, h7⟩
              go_wp2
              exact ⟨⟨m + 1, g2 ++ in2.take (mostOf cut), in2.drop (mostOf cut), by omega, by go_num, rfl, by rw [List.append_assoc, List.take_append_drop]; exact hgi, by simp; omega, h7⟩, by simp [intOf]; omega⟩

theorem stream_walk {W : World} (a : Option Addr) (len cap : Nat) (xs : List (List UInt8)) (hlen : xs.length = len) (hsl : Sl W 1 (.slice a len cap) len (xs.flatMap Str.E)) (_ : ∀ x ∈ xs, Str.Ok x)
    (a2 : Option Addr) (len2 cap2 : Nat) (cs : List UInt8) (hlen2 : cs.length = len2) (hsl2 : Sl W 1 (.slice a2 len2 cap2) len2 (cs.flatMap Byte.E)) (_ : ∀ x ∈ cs, Byte.Ok x) :
    Calls Try.prog 4 #[.slice a len cap, .slice a2 len2 cap2] W (Law W emp) :=
  stream_any a len cap xs hlen hsl a2 len2 cap2 cs hlen2 hsl2 (St.start W)

end Go.Proofs.Ytldobldhmodjlaa.PipeStr
