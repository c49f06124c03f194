import Derived.Test.YtldobldhmodjlaaProg
import Derived.Test.YtldobldhmodjlaaSep
import Derived.Test.YtldobldhmodjlaaReg
import Derived.WalkLawsBesides
import Derived.WalkSpells
import Derived.Deep.QuietTactic
import Derived.BigQuiet
import Derived.Handy
namespace Go.Proofs.Ytldobldhmodjlaa.Buf
open Go Go.RowKit Go.Proofs Go.Proofs.Ytldobldhmodjlaa.Sep Go.Proofs.Ytldobldhmodjlaa.Reg

theorem sz5 : (Try.prog.info? 5).map (·.size) = some 1 := by kernel_rfl
theorem info5 : (Try.prog.info? 5).map (fun i => (i.zero, i.size, i.bytes)) = some (some (.int .u8 0), 1, 1) := by kernel_rfl

/-- What a buffer's block holds. -/
abbrev bcells (max at_ : Int) (v : Value) (mk : Bool) : Obj := .cells #[.int .i64 max, .int .i64 at_, v, .bool mk] 64 (0, 0)
def BufA (b : Nat) (mk : Bool) (max : Nat) (l : List UInt8) : Asn := ex fun at_ : Nat => ex fun v : Value => ex fun n : Nat => ex fun all : List UInt8 =>
  star (pu (at_ ≤ n ∧ all.drop at_ = l ∧ l.length ≤ max ∧ n ≤ 2 * max + 1 ∧ max ≤ 1073741824 ∧ all.length = n)) (star (pt b (bcells max at_ v mk)) (Row 5 1 v n (bytesV all)))

theorem BufA.elim {W w : World} {b : Nat} {mk : Bool} {max : Nat} {l : List UInt8} {R : Asn} (h : St W w (star (BufA b mk max l) R)) :
    ∃ (at_ : Nat) (v : Value) (n : Nat) (all : List UInt8), at_ ≤ n ∧ all.drop at_ = l ∧ l.length ≤ max ∧ n ≤ 2 * max + 1 ∧ max ≤ 1073741824 ∧ all.length = n ∧
      St W w (star (pt b (bcells max at_ v mk)) (star (Row 5 1 v n (bytesV all)) R)) := by
  unfold BufA at h
  obtain ⟨at_, h⟩ := St.ex_iff.1 h
  obtain ⟨v, h⟩ := St.ex_iff.1 h
  obtain ⟨n, h⟩ := St.ex_iff.1 h
  obtain ⟨all, h⟩ := St.ex_iff.1 h
  rw [star_assoc] at h
  obtain ⟨⟨h1, h2, h3, h4, h5, h6⟩, h⟩ := St.pu_iff.1 h
  rw [star_assoc] at h
  exact ⟨at_, v, n, all, h1, h2, h3, h4, h5, h6, h⟩
theorem BufA.intro {W w : World} {b : Nat} {mk : Bool} {max : Nat} {l : List UInt8} {R : Asn} {at_ : Nat} {v : Value} {n : Nat} {all : List UInt8} (h1 : at_ ≤ n) (h2 : all.drop at_ = l) (h3 : l.length ≤ max) (h4 : n ≤ 2 * max + 1)
    (h5 : max ≤ 1073741824) (h6 : all.length = n) (h : St W w (star (pt b (bcells max at_ v mk)) (star (Row 5 1 v n (bytesV all)) R))) : St W w (star (BufA b mk max l) R) := by
  unfold BufA
  refine St.ex_iff.2 ⟨at_, St.ex_iff.2 ⟨v, St.ex_iff.2 ⟨n, St.ex_iff.2 ⟨all, ?_⟩⟩⟩⟩
  rw [star_assoc]
  refine St.pu_iff.2 ⟨⟨h1, h2, h3, h4, h5, h6⟩, ?_⟩
  rw [star_assoc]
  exact h

theorem New_any (m : Int) (w : World) (h0 : 0 ≤ m) (h1 : m ≤ 1073741824) :
    Calls Try.prog 31 #[.int .i64 m] w fun e w' => e = .returned (.tuple #[.pointer (some ⟨w.heap.size, 0, none⟩), .int .i64 0]) ∧
      w' = w.alloc (bcells m 0 (.slice none 0 0) true) := by
  go_enter Try.func31, Try.ntmps31
  go_wp2
  go_ret2
  exact ⟨rfl, rfl⟩
theorem New_St {W w : World} {R : Asn} (m : Nat) (h1 : m ≤ 1073741824) (h : St W w R) :
    Calls Try.prog 31 #[.int .i64 m] w fun e w' => ∃ b, e = .returned (.tuple #[.pointer (some ⟨b, 0, none⟩), .int .i64 0]) ∧ St W w' (star (BufA b true m []) R) := by
  refine (New_any m w (by omega) (by omega)).mono ?_
  rintro e w' ⟨rfl, rfl⟩
  exact ⟨_, rfl, BufA.intro (at_ := 0) (n := 0) (all := []) (by omega) rfl (by simp) (by omega) h1 rfl (by
    rw [show bytesV [] = [] from rfl, Row_nil, emp_star]; exact h.alloc _)⟩

theorem waits_nil (w : World) : Calls Try.prog 50 #[.pointer none] w (Quiet w (.slice none 0 0)) := by
  go_enter Try.func50, Try.ntmps50
  go_wp2
  go_ret
  exact Quiet.mk0 _ _

/-- What waits hands back: a piece of the array. -/
def Waits (w : World) (n : Nat) (l : List UInt8) (e : Ending) (w' : World) : Prop := ∃ x, Quiet w x e w' ∧ Sl w 1 x n (bytesV l)

theorem waits_any {W w : World} {R : Asn} {b : Nat} {mk : Bool} {max : Int} {at_ n : Nat} {v : Value} {all : List UInt8} (h : St W w (star (pt b (bcells max at_ v mk)) (star (Row 5 1 v n (bytesV all)) R))) (hn : at_ ≤ n) (ha : all.length = n) :
    Calls Try.prog 50 #[.pointer (some ⟨b, 0, none⟩)] w (Waits w (n - at_) (all.drop at_)) := by
  have hsl := h.right.rowSl
  have hsl' := hsl
  obtain ⟨_, a, c, rfl, h1, h2, h3, h4⟩ := hsl'
  have c1 := h.cell 1 (v := .int .i64 at_) rfl
  have c2 := h.cell 2 (v := .slice a n c) rfl
  have hcut := run_cut_l (P := Try.prog) 35 5 1 Try.underlying35 sz5 a n c at_ hn
  have hpc := hsl.cut at_ n hn (Nat.le_refl _)
  have hpc' : Sl w 1 (cutV a c at_ n 1) (n - at_) (bytesV (all.drop at_)) := by
    simp only [Nat.mul_one] at hpc
    rw [bytesV_drop, bytesV_take, List.take_of_length_le (by simp; omega)] at hpc
    exact hpc
  have H := Lib.hid hpc'
  clear hpc hpc' hsl h h3 h4 ha
  unfold maxLen at h2
  go_enter Try.func50, Try.ntmps50
  go_wp2
  refine wp_region_canon [0, 1, 2, 3, 4, 5, 6, 7, 8, 9] (by kernel_rfl) (by kernel_rfl) ?_
  simp only [pickOps, nthOp]
  go_wp2
  simp only [Only]
  go_wp2
  go_ret
  exact ⟨_, Quiet.mk1 _ _, H.out⟩

theorem Len_any {W w : World} {R : Asn} {b : Nat} {mk : Bool} {max : Nat} {l : List UInt8} (h : St W w (star (BufA b mk max l) R)) :
    Calls Try.prog 43 #[.pointer (some ⟨b, 0, none⟩)] w (Quiet w (.int .i64 l.length)) := by
  obtain ⟨at_, v, n, all, h1, h2, h3, h4, h5, h6, h⟩ := BufA.elim h
  have hl : ((n - at_ : Nat) : Int) = l.length := by rw [← h2]; simp; omega
  have HL := Lib.hid hl
  clear hl
  go_enter Try.func43, Try.ntmps43
  go_wp2_with fail
  refine (waits_any h h1 h6).mono ?_
  rintro e w' ⟨x, ⟨rfl, k, rfl⟩, hs⟩
  obtain ⟨_, a, c, rfl, _⟩ := hs
  clear h2 h6
  go_wp2
  go_ret
  exact (Quiet.mkN _ _ _).eq (by rw [← HL.out]; rfl)

theorem Len_nil (w : World) : Calls Try.prog 43 #[.pointer none] w (Quiet w (.int .i64 0)) := by
  go_enter Try.func43, Try.ntmps43
  go_wp2_with fail
  refine (waits_nil w).mono ?_
  rintro e w' ⟨rfl, k, rfl⟩
  go_wp2
  go_ret
  exact Quiet.mkN _ _ _

theorem Room_nil (w : World) : Calls Try.prog 36 #[.pointer none] w (Quiet w (.int .i64 0)) := by
  go_enter Try.func36, Try.ntmps36
  go_wp2
  go_ret
  exact Quiet.mk0 _ _

theorem Room_any {W w : World} {R : Asn} {b : Nat} {mk : Bool} {max : Nat} {l : List UInt8} (h : St W w (star (BufA b mk max l) R)) :
    Calls Try.prog 36 #[.pointer (some ⟨b, 0, none⟩)] w (Quiet w (.int .i64 ((max - l.length : Nat) : Int))) := by
  have hlen := fun n => Len_any (h.drewN n)
  obtain ⟨at_, v, n, all, h1, h2, h3, h4, h5, h6, h⟩ := BufA.elim h
  have c0 := h.cell 0 (v := .int .i64 max) rfl
  have hm : ((max - l.length : Nat) : Int) = (max : Int) - l.length := by omega
  have HM := Lib.hid hm
  have HL := Lib.hid hlen
  clear hm h2 h6 hlen h
  go_enter Try.func36, Try.ntmps36
  go_wp2_with fail
  go_quiet ((go_at_call 43; exact Calls.quiet_of (HL.out _)))
  go_wp2
  go_ret
  exact (Quiet.mkN _ _ _).eq (by rw [HM.out]; rfl)

/-- The first of some bytes: as many as one asks for. -/
def peekN (n : Int) (l : List UInt8) : List UInt8 := l.take n.toNat

theorem Peek_any {W w : World} {R : Asn} {b : Nat} {mk : Bool} {max : Nat} {l : List UInt8} (n : Int) (h : St W w (star (BufA b mk max l) R)) :
    Calls Try.prog 40 #[.pointer (some ⟨b, 0, none⟩), .int .i64 n] w (Quiet w (.string ⟨(peekN n l).toArray⟩)) := by
  obtain ⟨at_, v, m, all, h1, h2, h3, h4, h5, h6, h⟩ := BufA.elim h
  have hcall := waits_any h h1 h6
  rw [h2] at hcall
  have HC := Lib.hid hcall
  have hml : l.length = m - at_ := by rw [← h2]; simp; omega
  rw [← hml] at HC
  clear hcall h2 h6 h hml
  rcases (show n < 0 ∨ n = 0 ∨ (0 < n ∧ n < l.length) ∨ (0 < n ∧ (l.length : Int) ≤ n) from by omega) with hn | rfl | ⟨hn0, hn⟩ | ⟨hn0, hn⟩
  · rw [show peekN n l = l.take 0 from by unfold peekN; rw [show n.toNat = 0 from by omega]]
    go_enter Try.func40, Try.ntmps40
    go_wp2_with fail
    refine HC.out.mono ?_
    rintro e w' ⟨x, ⟨rfl, k, rfl⟩, hs⟩
    obtain ⟨_, a, c, rfl, hlc, _⟩ := id hs
    have hcut := run_cut_h' (P := Try.prog) 35 5 1 Try.underlying35 sz5 a l.length c (0 : Int) 0 rfl (by omega)
    have hcv := run_string_of (P := Try.prog) (l := l.take 0) (n := 0) (w := w.drewN k) (v := cutV a c 0 0 1) (by
      have := (hs.cut 0 0 (by omega) (by omega)).drewN k
      simpa only [Nat.zero_mul, List.drop_zero, Nat.sub_zero, Nat.mul_one, bytesV_take] using this) 35 9 5 Try.underlying35 Try.underlying5 Try.underlying9
    clear hs
    go_wp2
    go_ret
    exact Quiet.mkN _ _ _
  · rw [show peekN 0 l = l.take 0 from rfl]
    go_enter Try.func40, Try.ntmps40
    go_wp2_with fail
    refine HC.out.mono ?_
    rintro e w' ⟨x, ⟨rfl, k, rfl⟩, hs⟩
    obtain ⟨_, a, c, rfl, hlc, _⟩ := id hs
    have hcut := run_cut_h' (P := Try.prog) 35 5 1 Try.underlying35 sz5 a l.length c (0 : Int) 0 rfl (by omega)
    have hcv := run_string_of (P := Try.prog) (l := l.take 0) (n := 0) (w := w.drewN k) (v := cutV a c 0 0 1) (by
      have := (hs.cut 0 0 (by omega) (by omega)).drewN k
      simpa only [Nat.zero_mul, List.drop_zero, Nat.sub_zero, Nat.mul_one, bytesV_take] using this) 35 9 5 Try.underlying35 Try.underlying5 Try.underlying9
    clear hs
    go_wp2
    go_ret
    exact Quiet.mkN _ _ _
  · rw [show peekN n l = l.take n.toNat from rfl]
    go_enter Try.func40, Try.ntmps40
    go_wp2_with fail
    refine HC.out.mono ?_
    rintro e w' ⟨x, ⟨rfl, k, rfl⟩, hs⟩
    obtain ⟨_, a, c, rfl, hlc, _⟩ := id hs
    have hcut := run_cut_h' (P := Try.prog) 35 5 1 Try.underlying35 sz5 a l.length c n n.toNat (by omega) (by omega)
    have hcv := run_string_of (P := Try.prog) (l := l.take n.toNat) (n := n.toNat) (w := w.drewN k) (v := cutV a c 0 n.toNat 1) (by
      have := (hs.cut 0 n.toNat (by omega) (by omega)).drewN k
      simpa only [Nat.zero_mul, List.drop_zero, Nat.sub_zero, Nat.mul_one, bytesV_take] using this) 35 9 5 Try.underlying35 Try.underlying5 Try.underlying9
    clear hs
    go_wp2
    go_ret
    exact Quiet.mkN _ _ _
  · rw [show peekN n l = l from by unfold peekN; rw [List.take_of_length_le (by omega)]]
    rcases (show n = l.length ∨ (l.length : Int) < n from by omega) with rfl | hn
    all_goals
      go_enter Try.func40, Try.ntmps40
      go_wp2_with fail
      refine HC.out.mono ?_
      rintro e w' ⟨x, ⟨rfl, k, rfl⟩, hs⟩
      obtain ⟨_, a, c, rfl, hlc, _⟩ := id hs
      have hcv := run_string_of (P := Try.prog) (l := l) (n := l.length) (w := w.drewN k) (v := .slice a l.length c) (hs.drewN k) 35 9 5 Try.underlying35 Try.underlying5 Try.underlying9
      clear hs
      go_wp2
      go_ret
      exact Quiet.mkN _ _ _

theorem Peek_nil (n : Int) (w : World) :
    Calls Try.prog 40 #[.pointer none, .int .i64 n] w (Quiet w (.string ⟨#[]⟩)) := by
  rcases (show n < 0 ∨ n = 0 ∨ 0 < n from by omega) with hn | rfl | hn
  all_goals
    go_enter Try.func40, Try.ntmps40
    go_wp2_with fail
    refine (waits_nil _).mono ?_
    rintro e w' ⟨rfl, k, rfl⟩
    have hcut := run_cut_h' (P := Try.prog) 35 5 1 Try.underlying35 sz5 none 0 0 0 0 rfl (by omega)
    have hcv := run_convert_bytes_nil (P := Try.prog) (w.drewN k) 35 5 Try.underlying35 Try.underlying5 0 0 9 Try.underlying9
    clear hcut
    go_wp2
    go_ret
    exact Quiet.mkN _ _ _

theorem Read_nil (n : Int) (w : World) :
    Calls Try.prog 34 #[.pointer none, .int .i64 n] w (Quiet w (.string ⟨#[]⟩)) := by
  go_enter Try.func34, Try.ntmps34
  go_wp2_with fail
  refine (Peek_nil _ _).mono ?_
  rintro e w' ⟨rfl, k, rfl⟩
  go_wp2
  go_ret
  exact Quiet.mkN _ _ _

/-- What Read leaves. -/
def ReadPost (W : World) (R : Asn) (b : Nat) (mk : Bool) (max : Nat) (l : List UInt8) (n : Int) (e : Ending) (w' : World) : Prop :=
  e = .returned (.string ⟨(peekN n l).toArray⟩) ∧ St W w' (star (BufA b mk max (l.drop n.toNat)) R)
theorem Read_any {W w : World} {R : Asn} {b : Nat} {mk : Bool} {max : Nat} {l : List UInt8} (n : Int) (h : St W w (star (BufA b mk max l) R)) :
    Calls Try.prog 34 #[.pointer (some ⟨b, 0, none⟩), .int .i64 n] w (ReadPost W R b mk max l n) := by
  have hcall := Peek_any n h
  obtain ⟨at_, v, m, all, h1, h2, h3, h4, h5, h6, h⟩ := BufA.elim h
  have HC := Lib.hid hcall
  have c1 := h.cell 1 (v := .int .i64 at_) rfl
  have f1 := h.free 1
  have hle : at_ + (peekN n l).length ≤ m := by unfold peekN; rw [← h2]; simp; omega
  have hS := fun k => (h.drewN k).setCell 1 (.int .i64 ((at_ : Int) + (peekN n l).length))
  have hsz : (⟨(peekN n l).toArray⟩ : ByteArray).size = (peekN n l).length := by simp [ByteArray.size]
  have HS := Lib.hid hS
  have HZ := Lib.hid hsz
  have HD : Hid (all.drop (at_ + (peekN n l).length) = l.drop n.toNat) := Lib.hid (by
    rw [← List.drop_drop, h2]
    unfold peekN
    rw [List.length_take]
    by_cases hq : n.toNat ≤ l.length
    · rw [Nat.min_eq_left hq]
    · rw [Nat.min_eq_right (by omega), List.drop_of_length_le (by omega), List.drop_of_length_le (by omega)])
  have H6 := Lib.hid h6
  have hx : (l.drop n.toNat).length ≤ max := by simp; omega
  clear hcall h2 h6 hsz hS
  generalize hy : peekN n l = y at *
  have HY := Lib.hid hy
  clear hy
  by_cases hne : y = []
  · subst hne
    go_enter Try.func34, Try.ntmps34
    go_wp2_with fail
    refine HC.out.mono ?_
    rintro e w' ⟨rfl, k, rfl⟩
    go_wp2
    go_ret
    exact ⟨by rw [HY.out]; rfl, BufA.intro (by omega) HD.out hx h4 h5 H6.out (h.drewN k)⟩
  · have hb : y.isEmpty = false := by cases y <;> simp_all
    go_enter Try.func34, Try.ntmps34
    go_wp2_with fail
    refine HC.out.mono ?_
    rintro e w' ⟨rfl, k, rfl⟩
    go_wp2
    go_ret
    exact ⟨by rw [HY.out]; rfl, BufA.intro (at_ := at_ + y.length) hle HD.out hx h4 h5 H6.out (HS.out k)⟩

/-- What Write leaves. -/
def WritePost (W : World) (R : Asn) (b : Nat) (mk : Bool) (max : Nat) (l s : List UInt8) (e : Ending) (w' : World) : Prop :=
  e = .returned (.int .i64 ((min s.length (max - l.length) : Nat) : Int)) ∧ St W w' (star (BufA b mk max (l ++ s.take (max - l.length))) R)
theorem write_close {W w : World} {R : Asn} {b : Nat} {mk : Bool} {max : Nat} {l s : List UInt8} {at_ n k n' : Nat} {v : Value} {all : List UInt8} (h1 : at_ ≤ n) (h2 : all.drop at_ = l) (h6 : all.length = n) (h3 : l.length ≤ max)
    (hk : min s.length (max - l.length) = k) (hn : n + k ≤ 2 * max + 1) (h5 : max ≤ 1073741824) (hn' : n' = n + k)
    (h : St W w (star (pt b (bcells max at_ v mk)) (star (Row 5 1 v n' (bytesV all ++ bytesV (s.take k))) R))) : St W w (star (BufA b mk max (l ++ s.take (max - l.length))) R) := by
  subst hn'
  have e : s.take (max - l.length) = s.take k := by
    rw [← hk]
    by_cases hq : s.length ≤ max - l.length
    · rw [Nat.min_eq_left hq, List.take_of_length_le hq, List.take_of_length_le (Nat.le_refl _)]
    · rw [Nat.min_eq_right (by omega)]
  rw [e, ← bytesV_append] at *
  refine BufA.intro (at_ := at_) (n := n + k) (all := all ++ s.take k) (by omega) ?_ (by simp; omega) hn h5 (by simp; omega) h
  rw [List.drop_append_of_le_length (by omega), h2]
theorem Write_any {W w : World} {R : Asn} {b : Nat} {mk : Bool} {max : Nat} {l : List UInt8} (s : List UInt8) (hs : s.length ≤ 9223372036854775807) (h : St W w (star (BufA b mk max l) R)) :
    Calls Try.prog 32 #[.pointer (some ⟨b, 0, none⟩), .string ⟨s.toArray⟩] w (WritePost W R b mk max l s) := by
  have hroom := Room_any h
  have HR := Lib.hid hroom
  obtain ⟨at_, v, m, all, h1, h2, h3, h4, h5, h6, h⟩ := BufA.elim h
  have c1 := h.cell 1 (v := .int .i64 at_) rfl
  have c2 := h.cell 2 (v := v) rfl
  clear hroom
  obtain ⟨k, hk, hk1, hk2⟩ : ∃ k : Nat, min s.length (max - l.length) = k ∧ k ≤ s.length ∧ k + l.length ≤ max := ⟨_, rfl, by omega, by omega⟩
  have hmin : (if max - l.length < s.length then ((max - l.length : Nat) : Int) else (s.length : Int)) = (k : Int) := by split <;> omega
  have HK := Lib.hid hk
  have H2 := Lib.hid h2
  have H6 := Lib.hid h6
  clear hk h2 h6
  by_cases h0 : k = 0
  · subst h0
    go_enter Try.func32, Try.ntmps32
    go_wp2_with fail
    refine HR.out.mono ?_
    rintro e w' ⟨rfl, q, rfl⟩
    go_wp2
    go_ret
    refine ⟨by rw [HK.out]; rfl, ?_⟩
    have : s.take (max - l.length) = [] := by
      rw [← List.length_eq_zero_iff, List.length_take]; have := HK.out; omega
    rw [this, List.append_nil]
    exact BufA.intro h1 H2.out h3 h4 h5 H6.out (h.drewN q)
  · obtain ⟨i0, hi, hz0, hz1, hz2⟩ := info_parts info5
    have hstr := run_str_h (P := Try.prog) 9 Try.underlying9 s k k rfl hk1
    obtain ⟨_, a, c, rfl, hmc, hcm, _⟩ := h.right.rowSl
    have hk0 : 0 < k := by omega
    unfold maxLen at hcm
    by_cases hc : m / 2 < at_
    · go_enter Try.func32, Try.ntmps32
      go_wp2_with fail
      refine HR.out.mono ?_
      rintro e w' ⟨rfl, q, rfl⟩
      go_wp2
      go_quiet (fail)
      go_wp2_with fail
      have hA := ((h.drewN (q + nq)).alloc (.cells #[] 5))
      refine (waits_any (R := star (pt w.heap.size (.cells #[] 5)) R) (hA.eq (by ac_rfl)) h1 H6.out).mono ?_
      rintro e w' ⟨x, ⟨rfl, k2, rfl⟩, hs2⟩
      have hB := St.mkRow (n := 0) (cap := 0) (size := 1) (xs := []) (hA.drewN k2) (Nat.le_refl _) (Nat.zero_le _) rfl rfl
      rw [H2.out] at hs2
      go_wp2_with (at_builtin; refine wpList_append_Sl rfl (.tmp 26) (.tmp 28) 35 rfl 5 i0 _ 1 1 Try.underlying35 hi hz0 hz1 hz2 rfl _ 0 [] rfl hB x (m - at_) (bytesV l) rfl hs2 (bytesV_one _) ?_ ?_ ?_)
      · unfold maxLen; omega
      · omega
      intro v' w2 hS2 _
      obtain ⟨_, a2, c2, rfl, _⟩ := id hS2.rowSl
      have f1 := hS2.swap.free 1
      have f2 := hS2.swap.free 2
      have d1 := hS2.swap.cell 1 (v := .int .i64 at_) rfl
      have d2 := hS2.swap.cell 2 (v := .slice a m c) rfl
      go_wp2
      have hS3 : St W ((w2.setCell ⟨b, 2, none⟩ (.slice a2 (m - at_) c2)).setCell ⟨b, 1, none⟩ (.int .i64 0)) (star (Row 5 1 (.slice a m c) m (bytesV all)) (star (pt b (bcells max (0 : Nat) (.slice a2 (m - at_) c2) mk)) (star (Row 5 1 (.slice a2 (m - at_) c2) (m - at_) (bytesV l)) R))) :=
        ((hS2.swap.setCell 2 (.slice a2 (m - at_) c2)).setCell 1 (.int .i64 0)).eq (by
          show star (pt b (bcells max (0 : Nat) (.slice a2 (m - at_) c2) mk)) _ = _
          ac_rfl)
      have hS3 := hS3.right
      generalize (w2.setCell ⟨b, 2, none⟩ (.slice a2 (m - at_) c2)).setCell ⟨b, 1, none⟩ (.int .i64 0) = w3 at hS3 ⊢
      have hlen : l.length = m - at_ := by rw [← H2.out]; simp; have := H6.out; omega
      have HN := Lib.hid hlen
      clear c1 h f1 f2 d1 d2 hS2 hB hs2 hA hlen
      have d2 := hS3.cell 2 (v := .slice a2 (m - at_) c2) rfl
      refine wp_region_canon [0, 1, 2, 3, 4, 5, 6, 7, 8, 9, 10, 11] (by kernel_rfl) (by kernel_rfl) ?_
      simp only [pickOps, nthOp]
      go_wp2_with (at_builtin; refine wpList_append_str rfl (.tmp 38) (.tmp 41) 35 9 rfl 5 i0 Try.underlying35 Try.underlying9 hi hz0 hz1 hz2 _ (m - at_) (bytesV l) rfl hS3.swap.drew _ rfl ?_ ?_)
      · simp only [ByteArray.size, List.size_toArray, List.length_take]; omega
      intro v' w4 hS4 _
      obtain ⟨_, a4, c4, rfl, _⟩ := id hS4.rowSl
      have f2 := hS4.swap.free 2
      have d2' := hS4.swap.cell 2 (v := .slice a2 (m - at_) c2) rfl
      go_wp2
      simp only [Only]
      go_wp2
      go_ret
      have hfin := hS4.swap.setCell 2 (.slice a4 (m - at_ + k) c4)
      exact ⟨by rw [HK.out]; rfl, write_close (at_ := 0) (n := m - at_) (all := l) (by omega) rfl HN.out h3 HK.out (by omega) h5 rfl hfin⟩
    · go_enter Try.func32, Try.ntmps32
      go_wp2_with fail
      refine HR.out.mono ?_
      rintro e w' ⟨rfl, q, rfl⟩
      go_wp2
      go_quiet (fail)
      go_wp2
      refine wp_region_canon [0, 1, 2, 3, 4, 5, 6, 7, 8, 9, 10, 11] (by kernel_rfl) (by kernel_rfl) ?_
      simp only [pickOps, nthOp]
      go_wp2_with (at_builtin; refine wpList_append_str rfl (.tmp 38) (.tmp 41) 35 9 rfl 5 i0 Try.underlying35 Try.underlying9 hi hz0 hz1 hz2 _ m (bytesV all) rfl (h.swap.drewN _).drew _ rfl ?_ ?_)
      · simp only [ByteArray.size, List.size_toArray, List.length_take]; omega
      intro v' w2 hS2 _
      obtain ⟨_, a2, c2, rfl, _⟩ := id hS2.rowSl
      have f2 := hS2.swap.free 2
      have c2' := hS2.swap.cell 2 (v := .slice a m c) rfl
      go_wp2
      simp only [Only]
      go_wp2
      go_ret
      have hfin := hS2.swap.setCell 2 (.slice a2 (m + k) c2)
      have hlen : l.length = m - at_ := by rw [← H2.out]; simp; have := H6.out; omega
      exact ⟨by rw [HK.out]; rfl, write_close h1 H2.out H6.out h3 HK.out (by omega) h5 rfl hfin⟩

theorem Write_nil (s : List UInt8) (hs : s.length ≤ 9223372036854775807) (w : World) :
    Calls Try.prog 32 #[.pointer none, .string ⟨s.toArray⟩] w (Quiet w (.int .i64 0)) := by
  by_cases h0 : s.length = 0
  · obtain rfl := List.eq_nil_of_length_eq_zero h0
    go_enter Try.func32, Try.ntmps32
    go_wp2_with fail
    refine (Room_nil _).mono ?_
    rintro e w' ⟨rfl, k, rfl⟩
    go_wp2
    go_ret
    exact Quiet.mkN _ _ _
  · have h1 : 0 < s.length := by omega
    go_enter Try.func32, Try.ntmps32
    go_wp2_with fail
    refine (Room_nil _).mono ?_
    rintro e w' ⟨rfl, k, rfl⟩
    go_wp2
    go_ret
    exact Quiet.mkN _ _ _

end Go.Proofs.Ytldobldhmodjlaa.Buf
