import Derived.Test.YtldobldhmodjlaaBufLaw
import Derived.Lib.IndexMore
namespace Go.Proofs.Ytldobldhmodjlaa.BufRef
open Go Go.RowKit Go.Proofs Go.Proofs.Ytldobldhmodjlaa.Sep Go.Proofs.Ytldobldhmodjlaa.Reg Go.Proofs.Ytldobldhmodjlaa.Buf Go.Proofs.Ytldobldhmodjlaa.Frame Go.Proofs.Ytldobldhmodjlaa.BufFind Go.Proofs.Ytldobldhmodjlaa.BufLaw

abbrev rbcells (max : Nat) (l : List UInt8) : Obj := .cells #[.int .i64 max, .string ⟨l.toArray⟩] 60 (0, 0)
def RbA (r max : Nat) (l : List UInt8) : Asn := pt r (rbcells max l)
def RbPost (W : World) (R : Asn) (r max : Nat) (l : List UInt8) (v : Value) (e : Ending) (w' : World) : Prop := e = .returned v ∧ St W w' (star (RbA r max l) R)

theorem Peek_any {W w : World} {R : Asn} {r max : Nat} {l : List UInt8} (n : Int) (h : St W w (star (RbA r max l) R)) :
    Calls Try.prog 41 #[.pointer (some ⟨r, 0, none⟩), .int .i64 n] w (Quiet w (.string ⟨(peekN n l).toArray⟩)) := by
  have c1 := h.cell 1 (v := .string ⟨l.toArray⟩) rfl
  clear h
  unfold peekN
  by_cases h1 : n < 1
  · have e : l.take n.toNat = [] := by rw [show n.toNat = 0 from by omega]; rfl
    rw [e]
    go_enter Try.func41, Try.ntmps41
    go_wp2
    go_ret
    exact Quiet.mk0 _ _
  · by_cases h2 : (l.length : Int) < n
    · have e : l.take n.toNat = l := List.take_of_length_le (by omega)
      rw [e]
      clear e
      go_enter Try.func41, Try.ntmps41
      go_wp2
      go_ret
      exact Quiet.mk0 _ _
    · have hstr := run_str_h (P := Try.prog) 9 Try.underlying9 l n n.toNat (by omega) (by omega)
      go_enter Try.func41, Try.ntmps41
      go_wp2
      go_ret
      exact Quiet.mk0 _ _

theorem Read_any {W w : World} {R : Asn} {r max : Nat} {l : List UInt8} (n : Int) (h : St W w (star (RbA r max l) R)) :
    Calls Try.prog 39 #[.pointer (some ⟨r, 0, none⟩), .int .i64 n] w (RbPost W R r max (l.drop n.toNat) (.string ⟨(peekN n l).toArray⟩)) := by
  have hlen : (peekN n l).length ≤ l.length := by unfold peekN; simp; omega
  have hdr : l.drop (peekN n l).length = l.drop n.toNat := by
    unfold peekN
    rw [List.length_take]
    rcases Nat.le_total n.toNat l.length with hq | hq
    · rw [Nat.min_eq_left hq]
    · rw [Nat.min_eq_right hq, List.drop_of_length_le (Nat.le_refl _), List.drop_of_length_le hq]
  have hstr := run_str_l (P := Try.prog) 9 Try.underlying9 l ((peekN n l).length : Int) (peekN n l).length rfl hlen
  rw [hdr] at hstr
  have HP := Lib.hid (Peek_any n h)
  generalize peekN n l = q at *
  clear hdr
  go_enter Try.func39, Try.ntmps39
  go_wp2_with fail
  refine HP.out.mono ?_
  rintro e w1 hq
  have h1 := h.quiet hq
  obtain ⟨rfl, -⟩ := hq
  have c1 := h1.cell 1 (v := .string ⟨l.toArray⟩) rfl
  have f1 := h1.free 1
  have s1 := Lib.hid (h1.setCell 1 (.string ⟨(l.drop n.toNat).toArray⟩))
  clear HP h
  go_wp2
  go_ret
  exact ⟨rfl, s1.out⟩

theorem cut_one (s : List UInt8) (k : Nat) (x : UInt8) (h : s[k]? = some x) : (s.drop k).take (k + 1 - k) = [x] := by
  rw [show k + 1 - k = 1 from by omega]
  have hk := (List.getElem?_eq_some_iff.1 h)
  obtain ⟨hk, rfl⟩ := hk
  rw [List.drop_eq_getElem_cons hk]
  rfl

set_option maxRecDepth 100000 in
set_option maxHeartbeats 800000 in
theorem Write_any {W w : World} {R : Asn} {r max : Nat} {l : List UInt8} (s : List UInt8) (hs : s.length ≤ 1000000) (hl : l.length ≤ max) (hmax : max ≤ 1073741824) (h : St W w (star (RbA r max l) R)) :
    Calls Try.prog 38 #[.pointer (some ⟨r, 0, none⟩), .string ⟨s.toArray⟩] w
      (RbPost W R r max (l ++ s.take (max - l.length)) (.int .i64 ((min s.length (max - l.length) : Nat) : Int))) := by
  go_enter Try.func38, Try.ntmps38
  go_wp2_with fail
  go_loopw [5] (fun n wr => ∃ k : Nat, k ≤ s.length ∧ l.length + k ≤ max ∧ n = .int .i64 k ∧ St W wr (star (RbA r max (l ++ s.take k)) R)) (fun n _ => s.length - (intOf n).toNat)
  case atStart => exact ⟨0, by omega, by omega, rfl, by simpa using h⟩
  case round =>
    obtain ⟨k, hk, hkm, rfl, hS⟩ := hrel
    have c0 := hS.cell 0 (v := .int .i64 max) rfl
    have c1 := hS.cell 1 (v := .string ⟨(l ++ s.take k).toArray⟩) rfl
    have hlen : (l ++ s.take k).length = l.length + k := by simp; omega
    have HL := Lib.hid hlen
    by_cases hlt : k < s.length
    · by_cases hroom : l.length + k < max
      · obtain ⟨x, hx⟩ : ∃ x, s[k]? = some x := ⟨_, List.getElem?_eq_getElem (by omega)⟩
        have hstr := run_str_lh (P := Try.prog) 9 Try.underlying9 s (k : Int) ((k : Int) + 1) k (k + 1) rfl (by omega) (by omega) (by omega)
        rw [cut_one s k x hx] at hstr
        have hadd := run_str_add (P := Try.prog) (l ++ s.take k) [x] (by rw [hlen]; simp; omega)
        rw [List.append_assoc, ← take_snoc s k x hx] at hadd
        have f1 := hS.free 1
        have HS := Lib.hid fun n => (hS.drewN n).setCell 1 (.string ⟨(l ++ s.take (k + 1)).toArray⟩)
        have hgd : (l ++ s.take k).length < max := by omega
        generalize hq : l ++ s.take k = q at *
        generalize hq' : l ++ s.take (k + 1) = q' at *
        have HQ := Lib.hid hq'
        clear hlen hx hS hq hq' HL
        go_wp2_with fail
        go_quiet (fail)
        go_wp2_with fail
        refine wp_region_segs [(true, [0, 1, 2, 3, 4, 5, 6, 7, 8, 9, 10, 11, 12]), (false, [13])] (by kernel_rfl) (by kernel_rfl) ?_
        simp only [wpSegs, pickOps, nthOp]
        repeat (go_big_quiet_step (fail))
        refine wpQuiet_nil ?_
        intro n2
        have HS2 := HS.out
        go_wp2
        simp only [Reg.Next]
        go_wp2
        exact ⟨⟨k + 1, by omega, by omega, by go_num, by rw [HQ.out]; exact HS2 _⟩, by simp [intOf]; omega⟩
      · have hgd : ¬ (l ++ s.take k).length < max := by omega
        have he : (min s.length (max - l.length) : Nat) = k := by omega
        have he2 : s.take (max - l.length) = s.take k := by rw [show max - l.length = k from by omega]
        have HE := Lib.hid (show l ++ s.take (max - l.length) = l ++ s.take k by rw [he2])
        have HE1 := Lib.hid he
        generalize l ++ s.take k = q at *
        clear hlen HL he he2
        go_wp2_with fail
        go_quiet (fail)
        have hS2 := hS.drewN nq
        go_wp2
        go_ret
        exact ⟨by rw [HE1.out]; rfl, by rw [HE.out]; exact hS2⟩
    · obtain rfl : k = s.length := by omega
      have he : (min s.length (max - l.length) : Nat) = s.length := by omega
      have he2 : s.take (max - l.length) = s.take s.length := by rw [List.take_of_length_le (by omega), List.take_of_length_le (Nat.le_refl _)]
      have HE := Lib.hid (show l ++ s.take (max - l.length) = l ++ s.take s.length by rw [he2])
      have HE1 := Lib.hid he
      generalize l ++ s.take s.length = q at *
      clear hlen HL he he2
      go_wp2_with fail
      go_quiet (fail)
      have hS2 := hS.drewN nq
      go_wp2
      go_ret
      exact ⟨by rw [HE1.out]; rfl, by rw [HE.out]; exact hS2⟩

set_option maxRecDepth 100000 in
set_option maxHeartbeats 800000 in
theorem Find_any {W w : World} {R : Asn} {r max : Nat} {l : List UInt8} (s : List UInt8) (hs : s.length ≤ 1000000) (hl : l.length ≤ 1073741824) (h : St W w (star (RbA r max l) R)) :
    Calls Try.prog 42 #[.pointer (some ⟨r, 0, none⟩), .string ⟨s.toArray⟩] w (Quiet w (.int .i64 (Lib.index l s))) := by
  have c1 := h.cell 1 (v := .string ⟨l.toArray⟩) rfl
  clear h
  go_enter Try.func42, Try.ntmps42
  go_wp2_with fail
  go_loop [5] (fun i => ∃ k : Nat, k ≤ l.length + 1 ∧ i = .int .i64 k ∧ Lib.NoOcc l s k) (fun i => l.length + 1 - (intOf i).toNat)
  case atStart => exact ⟨0, by omega, rfl, Lib.NoOcc.zero _ _⟩
  case round =>
    obtain ⟨k, hk, rfl, hno⟩ := hrel
    by_cases hlt : k + s.length ≤ l.length
    · have hstr := run_str_lh (P := Try.prog) 9 Try.underlying9 l (k : Int) ((k : Int) + s.length) k (k + s.length) rfl (by omega) (by omega) hlt
      rw [show k + s.length - k = s.length from by omega] at hstr
      have hocc := Lib.occAt_iff_take l s k hlt
      by_cases he : (l.drop k).take s.length = s
      · rw [he] at hstr
        have hi : Lib.index l s = k := Lib.index_hit hno (by omega) (by rw [hocc, he]; simp)
        have HI := Lib.hid hi
        clear hi hocc he hno
        go_wp2
        go_ret
        exact (Quiet.mk0 _ _).eq (by rw [HI.out]; rfl)
      · have hno' : Lib.NoOcc l s (k + 1) := hno.succ (by rw [hocc]; simpa using he)
        generalize (l.drop k).take s.length = q at *
        clear hocc hno
        go_wp2
        all_goals first
          | exact ⟨⟨k + 1, by omega, by go_num, hno'⟩, by simp [intOf]; omega⟩
          | (exfalso; simp_all)
    · have hi : Lib.index l s = -1 := by
        refine Lib.index_past ?_ hno (by omega)
        rintro rfl
        have h0 := hno 0 (by simp at hlt; omega)
        simp [Lib.occAt] at h0
      have HI := Lib.hid hi
      clear hi hno
      go_wp2
      go_ret
      exact (Quiet.mk0 _ _).eq (by rw [HI.out]; rfl)

end Go.Proofs.Ytldobldhmodjlaa.BufRef
