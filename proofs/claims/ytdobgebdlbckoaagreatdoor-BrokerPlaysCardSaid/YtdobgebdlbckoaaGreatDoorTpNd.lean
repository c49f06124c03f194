import Derived.Test.YtdobgebdlbckoaaGreatDoorTpM
namespace Go.Proofs.YtdobgebdlbckoaaGreatDoor.TpNd
open Go Go.RowKit Go.Proofs Go.Proofs.YtdobgebdlbckoaaGreatDoor.Sep Go.Proofs.YtdobgebdlbckoaaGreatDoor.Reg Go.Proofs.YtdobgebdlbckoaaGreatDoor.Frame Go.Proofs.YtdobgebdlbckoaaGreatDoor.Strs Go.Proofs.YtdobgebdlbckoaaGreatDoor.Mp Go.Proofs.YtdobgebdlbckoaaGreatDoor.Ms Go.Proofs.YtdobgebdlbckoaaGreatDoor.TpP Go.Proofs.YtdobgebdlbckoaaGreatDoor.TpA Go.Proofs.YtdobgebdlbckoaaGreatDoor.TpB Go.Proofs.YtdobgebdlbckoaaGreatDoor.TpI Go.Proofs.YtdobgebdlbckoaaGreatDoor.TpJ Go.Proofs.YtdobgebdlbckoaaGreatDoor.TpK Go.Proofs.YtdobgebdlbckoaaGreatDoor.TpL Go.Proofs.YtdobgebdlbckoaaGreatDoor.TpM

def foldD (l : List Pr) (k : Int) (ts : List Tx) : List Pr := ts.foldl (fun w t => dropP w t k) l
theorem foldD_le (k : Int) : ∀ (ts : List Tx) (l : List Pr), (foldD l k ts).length ≤ l.length
  | [], _ => Nat.le_refl _
  | t :: ts, l => Nat.le_trans (foldD_le k ts (dropP l t k)) (List.length_filter_le _ _)
def DAPst (W : World) (p : Nat) (l : List Pr) (k : Int) (R : Asn) (e : Ending) (w' : World) : Prop :=
  ∃ a c, e = .returned (.slice a (byP l k).length c) ∧ St W w' (star (Row 9 1 (.slice a (byP l k).length c) (byP l k).length ((byP l k).map kS)) (star (IsR p (dropAllP l k)) R))
set_option maxRecDepth 100000 in
set_option maxHeartbeats 8000000 in
theorem DropAll_any (p : Nat) (l : List Pr) (hl : l.length ≤ 1000000) (k : Int) {W w : World} {R : Asn} (h : St W w (star (IsR p l) R)) :
    Calls Tryz.prog 33 #[.pointer (some ⟨p, 0, none⟩), .int .i64 k] w (DAPst W p l k R) := by
  have HB := Lib.hid (By_any p l hl k h)
  have hbl := byP_le l k
  have HBL : Hid (byP l k = byP l k) := Lib.hid rfl
  go_enter Tryz.func33, Tryz.ntmps33
  go_wp2_with fail
  refine HB.out.mono ?_
  rintro e w2 ⟨a2, c2, rfl, h2⟩
  have hcap : c2 ≤ 9223372036854775807 := by obtain ⟨_, _, _, e, _, h2, _⟩ := h2.rowSl; cases e; simpa [maxLen] using h2
  have HD : Hid (foldD l k (byP l k) = dropAllP l k) := Lib.hid (dropAll_fold k _ l fun t ht => mem_byP.2 ht)
  clear HB h HBL
  generalize hbs : byP l k = bs at *
  have HBS := Lib.hid hbs
  clear hbs
  go_wp2_with fail
  go_loopw [13] (fun iv wr => ∃ i : Nat, i ≤ bs.length ∧ iv = .int .i64 i ∧ St W wr (star (IsR p (foldD l k (bs.take i))) (star (Row 9 1 (.slice a2 bs.length c2) bs.length (bs.map kS)) R))) (fun iv _ => bs.length - (intOf iv).toNat)
  case atStart => exact ⟨0, Nat.zero_le _, rfl, h2.swap⟩
  case round =>
    obtain ⟨i, hi, rfl, hS⟩ := hrel
    clear h2
    by_cases hin : i < bs.length
    · obtain ⟨x, hx⟩ : ∃ x, bs[i]? = some x := ⟨_, List.getElem?_eq_getElem hin⟩
      obtain ⟨ab, ao, rfl, hel⟩ := elS hS.right.rowSl hx
      have he := hel _ _ (St.start wr)
      have HT : Hid (foldD l k (bs.take (i + 1)) = dropP (foldD l k (bs.take i)) x k) := Lib.hid (by
        unfold foldD
        rw [List.take_add_one, hx, List.foldl_append]; rfl)
      have HDR := Lib.hid (Drop_any p (foldD l k (bs.take i)) (Nat.le_trans (foldD_le k _ l) hl) x k hS)
      clear hel hx
      go_wp2_with fail
      refine HDR.out.mono ?_
      rintro e w3 ⟨rfl, h3⟩
      rw [← HT.out] at h3
      go_wp2_with fail
      exact ⟨⟨i + 1, hin, by go_num, h3⟩, by simp [intOf]; omega⟩
    · obtain rfl : i = bs.length := by omega
      rw [List.take_length, HD.out] at hS
      go_wp2
      go_ret
      unfold DAPst
      rw [HBS.out]
      exact ⟨_, _, rfl, hS.swap⟩

end Go.Proofs.YtdobgebdlbckoaaGreatDoor.TpNd
