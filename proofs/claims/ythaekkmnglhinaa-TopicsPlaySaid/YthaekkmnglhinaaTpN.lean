import Derived.Test.YthaekkmnglhinaaTpM
import Derived.Test.YthaekkmnglhinaaIter
namespace Go.Proofs.Ythaekkmnglhinaa.TpN
open Go Go.RowKit Go.Proofs Go.Proofs.Ythaekkmnglhinaa.Sep Go.Proofs.Ythaekkmnglhinaa.Reg Go.Proofs.Ythaekkmnglhinaa.Frame Go.Proofs.Ythaekkmnglhinaa.Strs Go.Proofs.Ythaekkmnglhinaa.Mp Go.Proofs.Ythaekkmnglhinaa.Ms Go.Proofs.Ythaekkmnglhinaa.TpP Go.Proofs.Ythaekkmnglhinaa.TpA Go.Proofs.Ythaekkmnglhinaa.TpB Go.Proofs.Ythaekkmnglhinaa.TpI Go.Proofs.Ythaekkmnglhinaa.TpJ Go.Proofs.Ythaekkmnglhinaa.TpK Go.Proofs.Ythaekkmnglhinaa.TpL Go.Proofs.Ythaekkmnglhinaa.TpM

def foldD (l : List Pr) (k : Int) (ts : List Tx) : List Pr := ts.foldl (fun w t => dropP w t k) l
theorem foldD_le (k : Int) : ∀ (ts : List Tx) (l : List Pr), (foldD l k ts).length ≤ l.length
  | [], _ => Nat.le_refl _
  | t :: ts, l => Nat.le_trans (foldD_le k ts (dropP l t k)) (List.length_filter_le _ _)
def DAPst (W : World) (p : Nat) (l : List Pr) (k : Int) (R : Asn) (e : Ending) (w' : World) : Prop :=
  ∃ a c, e = .returned (.slice a (byP l k).length c) ∧ St W w' (star (Row 9 1 (.slice a (byP l k).length c) (byP l k).length ((byP l k).map kS)) (star (IsR p (dropAllP l k)) R))
set_option maxRecDepth 100000 in
set_option maxHeartbeats 8000000 in
theorem DropAll_any (p : Nat) (l : List Pr) (hl : l.length ≤ 1000000) (k : Int) {W w : World} {R : Asn} (h : St W w (star (IsR p l) R)) :
    Calls Try.prog 21 #[.pointer (some ⟨p, 0, none⟩), .int .i64 k] w (DAPst W p l k R) := by
  have HB := Lib.hid (By_any p l hl k h)
  have hbl := byP_le l k
  have HBL : Hid (byP l k = byP l k) := Lib.hid rfl
  go_enter Try.func21, Try.ntmps21
  go_wp2_with fail
  refine HB.out.mono ?_
  rintro e w2 ⟨a2, c2, rfl, h2⟩
  have hcap : c2 ≤ 9223372036854775807 := by obtain ⟨_, _, _, e, _, h2, _⟩ := h2.rowSl; cases e; simpa [maxLen] using h2
  have HD : Hid (foldD l k (byP l k) = dropAllP l k) := Lib.hid (dropAll_fold k _ l fun t ht => mem_byP.2 ht)
  clear HB h HBL
  generalize hbs : byP l k = bs at *
  have HBS := Lib.hid hbs
  clear hbs
  go_wp2_with fail
  go_loopw [13] (fun iv wr => ∃ i : Nat, i ≤ bs.length ∧ iv = .int .i64 i ∧ St W wr (star (IsR p (foldD l k (bs.take i))) (star (Row 9 1 (.slice a2 bs.length c2) bs.length (bs.map kS)) R))) (fun iv _ => bs.length - (intOf iv).toNat)
  case atStart => exact ⟨0, Nat.zero_le _, rfl, h2.swap⟩
  case round =>
    obtain ⟨i, hi, rfl, hS⟩ := hrel
    clear h2
    by_cases hin : i < bs.length
    · obtain ⟨x, hx⟩ : ∃ x, bs[i]? = some x := ⟨_, List.getElem?_eq_getElem hin⟩
      obtain ⟨ab, ao, rfl, hel⟩ := elS hS.right.rowSl hx
      have he := hel _ _ (St.start wr)
      have HT : Hid (foldD l k (bs.take (i + 1)) = dropP (foldD l k (bs.take i)) x k) := Lib.hid (by
        unfold foldD
        rw [List.take_add_one, hx, List.foldl_append]; rfl)
      have HDR := Lib.hid (Drop_any p (foldD l k (bs.take i)) (Nat.le_trans (foldD_le k _ l) hl) x k hS)
      clear hel hx
      go_wp2_with fail
      refine HDR.out.mono ?_
      rintro e w3 ⟨rfl, h3⟩
      rw [← HT.out] at h3
      go_wp2_with fail
      exact ⟨⟨i + 1, hin, by go_num, h3⟩, by simp [intOf]; omega⟩
    · obtain rfl : i = bs.length := by omega
      rw [List.take_length, HD.out] at hS
      go_wp2
      go_ret
      unfold DAPst
      rw [HBS.out]
      exact ⟨_, _, rfl, hS.swap⟩

/-- A row that the library hands back. -/
theorem own_row {W w w' : World} {A : Asn} {e : TypeId} {v : Value} {n : Nat} {xs : List Value} (h : St W w A) (hb : Below w.heap.size w w') (ho : w'.ownsRow w.heap.size e 1 v n xs) : St W w' (star (Row e 1 v n xs) A) := by
  obtain ⟨hl, hv⟩ := ho
  rcases hv with ⟨rfl, rfl⟩ | ⟨g, cap, cur, rfl, hg, hc, h1, h2, h3, h4⟩
  · obtain rfl : xs = [] := List.eq_nil_of_length_eq_zero (by simpa using hl)
    exact (h.past hb).nilRow
  · refine St.compR h ?_
    refine St.mkRow (R := emp) ⟨hb, fun k => if k = g then some (.cells cur e (0, 0)) else none, ?_, ?_⟩ h1 h2 h3 h4
    · rw [star_emp]; rfl
    · intro b o hbo
      by_cases hk : b = g
      · simp only [hk, if_true, Option.some.injEq] at hbo
        subst hbo
        exact ⟨by rw [hk]; exact hg, by rw [hk]; exact hc⟩
      · simp only [hk, if_false] at hbo; cases hbo
section
open Go.Maps Go.MapKept Go.WideElems
abbrev noE : Value → Option (DataW Unit × List MemPlace) := fun _ => some (.lit (.bool true), [])
/-- What the library's contract asks of a map. -/
theorem owns_of {W w : World} {b : Nat} {es : List (Tx × Value)} {A : Asn} (h : St W w (star (Mp kS b es) A)) (hle : ∀ x ∈ es.map (·.1), x.length ≤ maxLen) (hsz : es.length ≤ maxLen) :
    ∃ D0, w.ownsMap Try.prog 9 noE b es.length D0 ∧ Maps.size D0 = es.length ∧ (strKeys D0).Perm (es.map (·.1)) := by
  obtain ⟨arr, clock, s, e, hp⟩ := Mp.St.mp h
  have hlen : arr.size = es.length := by have := congrArg List.length e; simpa using this
  have hrd : ∀ x ∈ arr.toList, ∃ y ∈ es, x.key = kS y.1 ∧ rd Try.prog 9 noE x = some (.string y.1, .lit (.bool true)) := fun x hx => by
    obtain ⟨y, hy, h1, _⟩ := ent_mem e hx
    refine ⟨y, hy, h1, ?_⟩
    have hk := WideMaps.keyOf_string_mk (P := Try.prog) Try.underlying9 (s := ⟨y.1.toArray⟩) (by simpa [ByteArray.size] using hle y.1 (List.mem_map_of_mem (f := (·.1)) hy))
    unfold rd
    rw [h1, hk]
    simp
  refine ⟨_, ⟨arr, clock, hp.blk, ⟨by omega, s, fun x hx => ?_⟩, by omega, rfl⟩, ?_, ?_⟩
  · obtain ⟨y, _, _, h2⟩ := hrd x hx; exact ⟨_, h2⟩
  · rw [Maps.size_eq, length_sorted]; simp [hlen]
  · unfold strKeys
    refine ((WideShapes.sorted_perm _).map _).trans (List.Perm.of_eq ?_)
    rw [List.map_map]
    have e2 : arr.toList.map (fun x => (x.key, x.val)) = es.map (fun e => (kS e.1, e.2)) := e
    apply List.ext_getElem?
    intro i
    rw [List.getElem?_map, List.getElem?_map]
    cases hi : arr.toList[i]? with
    | none =>
      have h1 := congrArg (fun l => l[i]?) e2
      simp only [List.getElem?_map, hi, Option.map_none] at h1
      cases hy : es[i]? with
      | none => rfl
      | some y => rw [hy] at h1; cases h1
    | some x =>
      obtain ⟨y, hy, h1, _⟩ := ent_get e hi
      obtain ⟨y', hy', h1', h2'⟩ := hrd x (List.mem_of_getElem? hi)
      have : y'.1 = y.1 := keyC_str.inj _ _ (h1'.symm.trans h1)
      rw [hy, Option.map_some, Option.map_some, Function.comp, rg_of h2', this]
      rfl
end

theorem topsP_le : ∀ l : List Pr, (topsP l).length ≤ l.length
  | [] => Nat.le_refl _
  | x :: l => by
    have := topsP_le l
    unfold topsP
    split
    · simp only [List.length_cons]; omega
    · simp only [List.length_cons]; omega
theorem topicsP_le (l : List Pr) : (topicsP l).length ≤ l.length := by
  unfold topicsP; rw [List.length_mergeSort]; exact topsP_le l
def TPst (W : World) (p : Nat) (l : List Pr) (R : Asn) (e : Ending) (w' : World) : Prop :=
  ∃ a c, e = .returned (.slice a (topicsP l).length c) ∧ St W w' (star (Row 9 1 (.slice a (topicsP l).length c) (topicsP l).length ((topicsP l).map kS)) (star (IsR p l) R))
set_option maxRecDepth 100000 in
set_option maxHeartbeats 8000000 in
theorem Topics_any (p : Nat) (l : List Pr) (hl : l.length ≤ 1000000) (htl : ∀ x ∈ l, x.1.length ≤ 1000000) {W w : World} {R : Asn} (h : St W w (star (IsR p l) R)) :
    Calls Try.prog 24 #[.pointer (some ⟨p, 0, none⟩)] w (TPst W p l R) := by
  obtain ⟨bw, bh, who, what, hr, h1⟩ := St.isR h
  obtain ⟨es, hk, hnd, h2⟩ := Ms.St.ms (h1.eq (B := star (MS kS kI 3 bw who) (star (pt p (.cells #[.map (some bw), .map (some bh)] 56 (0, 0))) (star (MS kI kS 9 bh what) R))) (by ac_rfl))
  have hN := Lib.hid (none_any p bw w (h1.cell 0 rfl))
  have hkeys := hr.keys hnd
  have hwl : who.length = (topicsP l).length := by rw [← hkeys, List.length_mergeSort, List.length_map]
  have hel : es.length = who.length := by have := congrArg List.length hk; simpa using this
  have hpc := h1.cell 0 rfl
  have htk : ∀ x ∈ es.map (·.1), x.length ≤ maxLen := fun x hx => by
    rw [hk] at hx
    have : x ∈ topicsP l := by rw [← hkeys, (List.mergeSort_perm _ _).mem_iff]; exact hx
    obtain ⟨k, hk2⟩ := mem_topicsP.1 this
    have := htl _ hk2
    unfold maxLen; simp at this; omega
  have hsz : es.length ≤ maxLen := by have := topicsP_le l; unfold maxLen; omega
  obtain ⟨D0, ho, hs, hpm⟩ := owns_of h2 htk hsz
  have hK := Lib.hid (callsIn_wide.1 (Try.maps_Keys_32 (some bw) w))
  have hS := Lib.hid (callsIn_wide.1 (Try.slices_Sorted_keys_31_32 bw es.length D0 noE w ho (by omega) (by have := topicsP_le l; omega)))
  have HFIN : Hid (∀ ss : List Tx, ss.Perm (strKeys D0) → ss.mergeSort (fun x y => decide (x ≤ y)) = topicsP l) := Lib.hid (fun ss hp => by
    rw [← hkeys]
    have h1 := Go.mergeSort_of_perm ((hp.trans hpm).trans (List.Perm.of_eq hk))
    exact h1)
  have HR := Lib.hid hr
  have HK := Lib.hid hk
  have HND := Lib.hid hnd
  clear hpm ho hs hsz htk hel hwl hkeys hr hk hnd htl
  go_enter Try.func24, Try.ntmps24
  go_wp2_with fail
  refine hN.out.mono ?_
  rintro e w3 ⟨rfl, rfl⟩
  clear hN h h1
  go_wp2_with fail
  refine hK.out.mono ?_
  rintro e w4 ⟨rfl, rfl⟩
  clear hK
  have h5 := h2.alloc (.cells #[.map (some bw)] 53)
  go_wp2_with fail
  refine hS.out.mono ?_
  rintro e w5 ⟨v, ss, rfl, hp, hrow, hnil, hb⟩
  have h6 := own_row h5 hb hrow
  rw [HFIN.out ss hp] at h6
  have hsl : ss.length = (topicsP l).length := by rw [← HFIN.out ss hp, List.length_mergeSort]
  rw [hsl] at h6
  obtain ⟨_, a6, c6, rfl, _⟩ := id h6.rowSl
  clear hS hrow hnil hb h5 h2
  go_wp2
  go_ret
  refine ⟨_, _, rfl, ?_⟩
  have h7 := St.toMs (e := 3) (encV := kI) HK.out (R := star (pt w3.heap.size (.cells #[.map (some bw)] 53 (0, 0))) (star (Row 9 1 (.slice a6 (topicsP l).length c6) (topicsP l).length ((topicsP l).map kS)) (star (pt p (.cells #[.map (some bw), .map (some bh)] 56 (0, 0))) (star (MS kI kS 9 bh what) R)))) (h6.eq (by ac_rfl))
  have h8 := (h7.eq (B := star (pt w3.heap.size (.cells #[.map (some bw)] 53 (0, 0))) (star (MS kS kI 3 bw who) (star (Row 9 1 (.slice a6 (topicsP l).length c6) (topicsP l).length ((topicsP l).map kS)) (star (pt p (.cells #[.map (some bw), .map (some bh)] 56 (0, 0))) (star (MS kI kS 9 bh what) R))))) (by ac_rfl)).right
  exact (St.toR (bw := bw) (bh := bh) HR.out (R := star (Row 9 1 (.slice a6 (topicsP l).length c6) (topicsP l).length ((topicsP l).map kS)) R) (h8.eq (by ac_rfl))).swap
end Go.Proofs.Ythaekkmnglhinaa.TpN
