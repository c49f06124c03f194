import Derived.Test.YtjobidgihjfheaaDoorTrDs
import Derived.Test.YtjobidgihjfheaaDoorTrT
namespace Go.Proofs.YtjobidgihjfheaaDoor.TrEs
open Go Go.RowKit Go.Proofs Go.Proofs.YtjobidgihjfheaaDoor.Sep Go.Proofs.YtjobidgihjfheaaDoor.Reg Go.Proofs.YtjobidgihjfheaaDoor.Frame Go.Proofs.YtjobidgihjfheaaDoor.Strs Go.Proofs.YtjobidgihjfheaaDoor.Mp Go.Proofs.YtjobidgihjfheaaDoor.TrP Go.Proofs.YtjobidgihjfheaaDoor.TrM Go.Proofs.YtjobidgihjfheaaDoor.TrAs Go.Proofs.YtjobidgihjfheaaDoor.TrBs Go.Proofs.YtjobidgihjfheaaDoor.TrCs Go.Proofs.YtjobidgihjfheaaDoor.TrQ Go.Proofs.YtjobidgihjfheaaDoor.TrDs

/-- A row that the library hands back. -/
theorem own_row {W w w' : World} {A : Asn} {e : TypeId} {v : Value} {n : Nat} {xs : List Value} (h : St W w A) (hb : Below w.heap.size w w') (ho : w'.ownsRow w.heap.size e 1 v n xs) : St W w' (star (Row e 1 v n xs) A) := by
  obtain ⟨hl, hv⟩ := ho
  rcases hv with ⟨rfl, rfl⟩ | ⟨g, cap, cur, rfl, hg, hc, h1, h2, h3, h4⟩
  · obtain rfl : xs = [] := List.eq_nil_of_length_eq_zero (by simpa using hl)
    exact (h.past hb).nilRow
  · refine St.compR h ?_
    refine St.mkRow (R := emp) ⟨hb, fun k => if k = g then some (.cells cur e (0, 0)) else none, ?_, ?_⟩ h1 h2 h3 h4
    · rw [star_emp]; rfl
    · intro b o hbo
      by_cases hk : b = g
      · simp only [hk, if_true, Option.some.injEq] at hbo
        subst hbo
        exact ⟨by rw [hk]; exact hg, by rw [hk]; exact hc⟩
      · simp only [hk, if_false] at hbo; cases hbo
def AllPst (W : World) (tp : Nat) (max : Int) (es : EntsV) (R : Asn) (e : Ending) (w' : World) : Prop := ∃ a c, e = .returned (.slice a es.length c) ∧ St W w' (star (Row 9 1 (.slice a es.length c) es.length (strsV (pats es))) (star (IsT tp max es) R))
theorem AllPst.mk {W w' : World} {tp : Nat} {max : Int} {es : EntsV} {R : Asn} {v : Value} {n : Nat} (hn : es.length = n) (hS : St W w' (star (Row 9 1 v n (strsV (pats es))) (star (IsT tp max es) R))) : AllPst W tp max es R (.returned v) w' := by
  subst hn
  obtain ⟨_, a, c, rfl, _⟩ := id hS.rowSl
  exact ⟨a, c, rfl, hS⟩
theorem Clone_any {W w : World} {A : Asn} {a : Option Addr} {n c : Nat} (l : List Tx) (h : St W w A) (hs : Sl w 1 (.slice a n c) n (strsV l)) (hln : l.length = n) (hn : n ≤ 1000000) :
    Calls Tryd.prog 30 #[.slice a n c] w fun e w' => ∃ v, e = .returned v ∧ St W w' (star (Row 9 1 v n (strsV l)) A) := by
  cases n with
  | zero =>
    obtain rfl : l = [] := List.eq_nil_of_length_eq_zero hln
    cases a with
    | none =>
      refine (Tryd.slices_Clone_string_nil 0 c w).mono ?_
      rintro e w' ⟨rfl, rfl⟩
      exact ⟨_, rfl, h.nilRow⟩
    | some ad =>
      refine (Tryd.slices_Clone_string_zero ad c w).mono ?_
      rintro e w' ⟨v', rfl, ho, _, hb⟩
      exact ⟨v', rfl, own_row h hb ho⟩
  | succ m =>
    obtain ⟨y, hy⟩ : ∃ y, l[0]? = some y := ⟨_, List.getElem?_eq_getElem (by omega)⟩
    obtain ⟨ab, ao, rfl, _⟩ := strs_at hs hy
    refine (Tryd.slices_Clone_string ab ao (m + 1) c (l.map fun x => ⟨x.toArray⟩) w (by simp; omega) (by omega) (fun j hj => ?_)).mono ?_
    · rw [List.length_map] at hj
      obtain ⟨ab', ao', e, hel⟩ := strs_at hs (List.getElem?_eq_getElem hj)
      cases e
      rw [hel _ _ (St.start w)]
      simp [hj]
    · rintro e w' ⟨v', rfl, ho, _, hb⟩
      rw [List.take_of_length_le (by simp; omega)] at ho
      have e1 : (l.map fun x => (⟨x.toArray⟩ : ByteArray)).map Value.string = strsV l := by rw [List.map_map]; rfl
      rw [e1] at ho
      exact ⟨v', rfl, own_row h hb ho⟩
set_option maxRecDepth 100000 in
theorem All_any {W w : World} {R : Asn} (tp : Nat) (max : Int) (es : EntsV) (h : St W w (star (IsT tp max es) R)) (hes : es.length ≤ 1000000) : Calls Tryd.prog 15 #[.pointer (some ⟨tp, 0, none⟩)] w (AllPst W tp max es R) := by
  obtain ⟨root, F, lv, hi, hg, h1⟩ := St.isT h
  have HNo := Lib.hid (none_any tp root w (h1.cell 1 rfl))
  obtain ⟨la, lc, hlv⟩ : ∃ la lc, lv = .slice la es.length lc := by obtain ⟨_, a, c, e, _⟩ := h1.right.rowSl; exact ⟨a, c, e⟩
  subst hlv
  have HC := Lib.hid (Clone_any (pats es) h h1.right.rowSl (by simp [pats]) hes)
  have c2 := h1.cell 2 rfl
  clear h h1 hi hg
  go_enter Tryd.func15, Tryd.ntmps15
  go_wp2_with fail
  refine HNo.out.mono ?_
  rintro e w1 ⟨rfl, rfl⟩
  go_wp2_with fail
  refine HC.out.mono ?_
  rintro e w2 ⟨v, rfl, h2⟩
  clear c2
  go_wp2
  go_ret
  exact AllPst.mk rfl h2
end Go.Proofs.YtjobidgihjfheaaDoor.TrEs
