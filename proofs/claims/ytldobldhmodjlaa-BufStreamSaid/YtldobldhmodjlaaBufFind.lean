import Derived.Test.YtldobldhmodjlaaBuf
import Derived.Test.YtldobldhmodjlaaFrame
import Derived.Test.YtldobldhmodjlaaShelf
import Derived.Laws.IdiomStrings
namespace Go.Proofs.Ytldobldhmodjlaa.BufFind
open Go Go.RowKit Go.Proofs Go.Proofs.Ytldobldhmodjlaa.Sep Go.Proofs.Ytldobldhmodjlaa.Reg Go.Proofs.Ytldobldhmodjlaa.Buf

def MaxLen (W : World) : Prop := ∃ m : Int, W.cell? ⟨0, 0, none⟩ = some (.int .i64 m)
theorem MaxLen.at_ {W w : World} {A : Asn} (hm : MaxLen W) (h : St W w A) : ∃ m : Int, w.cell? ⟨0, 0, none⟩ = some (.int .i64 m) := by
  obtain ⟨m, hm⟩ := hm
  exact ⟨m, (h.old (World.block_lt_of_cell? W _ hm)).trans hm⟩

/-- '[]byte(s)': a block of its own. -/
theorem bytes_of {W w : World} {A : Asn} (s : List UInt8) (h : St W w A) : ∃ (c : Nat) (o : Obj), s.length ≤ c ∧ (convert 9 35 (.string ⟨s.toArray⟩)).run Try.prog w = .ok (.slice (some ⟨w.heap.size, 0, none⟩) s.length c) (w.drew.alloc o) ∧
    St W (w.drew.alloc o) (star (pt w.heap.size o) A) ∧ ∀ i x, s[i]? = some x → (w.drew.alloc o).cell? ⟨w.heap.size, i, none⟩ = some (.int .u8 x.toNat) := by
  have hcv := run_bytes_of_string w 9 35 5 ⟨s.toArray⟩ Try.underlying9 Try.underlying35 Try.underlying5
  have h2 := (h.drew).alloc (.cells (bytesRow ⟨s.toArray⟩ (grownCap w s.length 0 5)) 5 ((bytesRow ⟨s.toArray⟩ (grownCap w s.length 0 5)).size, (bytesRow ⟨s.toArray⟩ (grownCap w s.length 0 5)).size + 1))
  refine ⟨_, _, grownCap_ge w s.length 0 _, hcv, h2, fun i x hx => h2.cell i ?_⟩
  have hi : i < s.length := (List.getElem?_eq_some_iff.1 hx).1
  unfold bytesRow
  rw [Array.getElem?_append_left (by simpa using hi)]
  simp [hx]

theorem bytesOf_nat (l : List UInt8) : Lib.bytesOf (l.map fun b => (b.toNat : Int)) = l := by
  unfold Lib.bytesOf
  rw [List.map_map]
  conv => rhs; rw [← List.map_id l]
  exact List.map_congr_left fun b _ => by simp
theorem nat_byte (l : List UInt8) : ∀ x ∈ (l.map fun b => (b.toNat : Int)), 0 ≤ x ∧ x < 256 := by
  intro x hx
  obtain ⟨b, -, rfl⟩ := List.mem_map.1 hx
  have := b.toNat_lt
  omega
theorem nat_getD (l : List UInt8) (i : Nat) (x : UInt8) (h : l[i]? = some x) : (l.map fun b => (b.toNat : Int)).getD i 0 = x.toNat := by
  simp [List.getD, h]
theorem add_at (b i : Nat) : (⟨b, 0, none⟩ : Addr).add i = ⟨b, i, none⟩ := by unfold Addr.add; split <;> simp_all
theorem later_cell (w : World) (o : Obj) (p : Addr) (v : Value) (h : w.cell? p = some v) : (w.drew.alloc o).cell? p = some v :=
  ((St.start w).drew.alloc o).old (World.block_lt_of_cell? w _ h) |>.trans h

theorem Find_nil (s : List UInt8) (w : World) : Calls Try.prog 33 #[.pointer none, .string ⟨s.toArray⟩] w (Quiet w (.int .i64 (-1))) := by
  go_enter Try.func33, Try.ntmps33
  go_wp2
  go_ret
  exact Quiet.mk0 _ _

def FPost (W : World) (R : Asn) (b : Nat) (mk : Bool) (max : Nat) (l : List UInt8) (n : Int) (e : Ending) (w' : World) : Prop :=
  e = .returned (.int .i64 n) ∧ St W w' (star (BufA b mk max l) R)

set_option maxRecDepth 100000 in
theorem Find_any {W w : World} {R : Asn} {b : Nat} {mk : Bool} {max : Nat} {l : List UInt8} (hm : MaxLen W) (s : List UInt8) (hs : s.length ≤ 9223372036854775807) (h : St W w (star (BufA b mk max l) R)) :
    Calls Try.prog 33 #[.pointer (some ⟨b, 0, none⟩), .string ⟨s.toArray⟩] w (FPost W R b mk max l (if mk then Lib.index l s else -1)) := by
  have h0 := h
  obtain ⟨at_, v, n, all, h1, h2', h3, h4, h5, h6, hS⟩ := BufA.elim h
  have c3 := hS.cell 3 (v := .bool mk) rfl
  have HW := Lib.hid (waits_any hS h1 h6)
  clear h hS
  cases mk
  · go_enter Try.func33, Try.ntmps33
    go_wp2
    go_ret
    exact ⟨rfl, h0⟩
  · go_enter Try.func33, Try.ntmps33
    go_wp2_with fail
    refine HW.out.mono ?_
    rintro e w1 ⟨x, hq, hsl⟩
    have k1 := h0.quiet hq
    obtain ⟨rfl, hw1⟩ := hq
    replace hsl : Sl w1 1 x (n - at_) (bytesV (all.drop at_)) := by obtain ⟨q, rfl⟩ := hw1; exact hsl.drewN q
    obtain ⟨c, o, hlc, hcv, h2, hby⟩ := bytes_of s k1
    have hm2 := hm.at_ h2
    have hs2 : s.length = (s.map fun b => (b.toNat : Int)).length := by simp
    have HI : Hid (Calls Try.prog 51 #[x, .slice (some ⟨w1.heap.size, 0, none⟩) s.length c] (w1.drew.alloc o) (Quiet (w1.drew.alloc o) (.int .i64 (Lib.index l s)))) := Lib.hid (by
      have hln : l.length = n - at_ := by rw [← h2', List.length_drop, h6]
      rw [h2'] at hsl
      obtain ⟨-, a, c', rfl, hle, hmax, hnone, hcells⟩ := hsl
      cases a with
      | none =>
        obtain rfl := hnone rfl
        have h0n : n - at_ = 0 := by omega
        have hl0 : l = [] := by cases l with | nil => rfl | cons _ _ => simp at hln; omega
        subst hl0
        rw [h0n]
        refine (Try.bytes_Index_nil (some ⟨w1.heap.size, 0, none⟩) s.length c _ hs (fun h1 => ?_)).mono ?_
        · obtain ⟨x0, hx0⟩ : ∃ x0, s[0]? = some x0 := ⟨_, List.getElem?_eq_getElem (by omega)⟩
          exact ⟨_, _, _, rfl, hby 0 x0 hx0⟩
        · rintro e w' ⟨rfl, rfl⟩
          refine (Quiet.mk0 _ _).eq ?_
          unfold Lib.index
          cases s <;> simp
      | some ad =>
        obtain ⟨m, hm2⟩ := hm2
        refine (Try.bytes_Index_at ad ⟨w1.heap.size, 0, none⟩ (n - at_) c' s.length c (l.map fun b => (b.toNat : Int)) (s.map fun b => (b.toNat : Int)) m _ (by simpa using hln) (by simp) (nat_byte l) (nat_byte s) ?_ ?_ hle (by omega) hs hm2).mono ?_
        · intro i hi
          obtain ⟨x0, hx0⟩ : ∃ x0, l[i]? = some x0 := ⟨_, List.getElem?_eq_getElem (by omega)⟩
          rw [nat_getD l i x0 hx0]
          exact later_cell _ _ _ _ (hcells ad rfl i _ (by simp [bytesV, hx0]))
        · intro i hi
          obtain ⟨x0, hx0⟩ : ∃ x0, s[i]? = some x0 := ⟨_, List.getElem?_eq_getElem (by omega)⟩
          rw [nat_getD s i x0 hx0]
          rw [add_at]
          exact hby i x0 hx0
        · rintro e w' ⟨rfl, q, rfl⟩
          rw [bytesOf_nat, bytesOf_nat]
          exact Quiet.mkN _ _ _)
    clear hby hsl hs2 hm2 h1 h2' h3 h4 h5 h6 c3
    go_wp2_with fail
    refine HI.out.mono ?_
    rintro e w3 hq
    have h3 := h2.quiet hq
    obtain ⟨rfl, -⟩ := hq
    clear hcv HI h2 k1 hw1 h0 hlc
    go_wp2
    go_ret
    exact ⟨rfl, h3.right⟩

end Go.Proofs.Ytldobldhmodjlaa.BufFind
