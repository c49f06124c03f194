import Derived.Test.YtedkkcbdhbbegaaTmR2
namespace Go.Proofs.Ytedkkcbdhbbegaa.TmR3
open Go Go.RowKit Go.Proofs Go.Proofs.Ytedkkcbdhbbegaa.Sep Go.Proofs.Ytedkkcbdhbbegaa.Reg Go.Proofs.Ytedkkcbdhbbegaa.Frame Go.Proofs.Ytedkkcbdhbbegaa.Slc Go.Proofs.Ytedkkcbdhbbegaa.TmP Go.Proofs.Ytedkkcbdhbbegaa.TmQ Go.Proofs.Ytedkkcbdhbbegaa.TmI Go.Proofs.Ytedkkcbdhbbegaa.TmI2 Go.Proofs.Ytedkkcbdhbbegaa.TmI3 Go.Proofs.Ytedkkcbdhbbegaa.TmI4 Go.Proofs.Ytedkkcbdhbbegaa.TmI5 Go.Proofs.Ytedkkcbdhbbegaa.TmK Go.Proofs.Ytedkkcbdhbbegaa.TmK3 Go.Proofs.Ytedkkcbdhbbegaa.TmR Go.Proofs.Ytedkkcbdhbbegaa.TmR2

def lenV : Value → Nat
  | .slice _ n _ => n
  | _ => 0
/-- The first one of a list that stands for a sorted one. -/
theorem best_of {x : κ × Int} {l u : List (κ × Int)} (h : Rel ltK (x :: l) u) : ∃ b : Nat, b < u.length ∧ firstZ u u.length = b ∧ u[b]? = some x ∧ Rel ltK l (u.take b ++ u.drop (b + 1)) := by
  obtain ⟨hb, hx, hr⟩ := Rel.best ordK h
  refine ⟨_, hb, ?_, ?_, hr⟩
  · unfold firstZ
    rw [if_neg (by omega)]
  · rw [List.getElem?_eq_getElem hb, hx]
/-- One cell pair laid ahead of an append. -/
theorem one_sl {W w : World} {x : κ × Int} {R : Asn} {g : Nat} {T : TypeId} (h : St W w (star (pt g (.cells #[kv x.1, .int .i64 x.2] T (0, 0))) R)) : Sl w 2 (.slice (some ⟨g, 0, none⟩) 1 1) 1 (tsV [x]) := by
  have := St.mkRow (size := 2) (n := 1) (cap := 1) (xs := tsV [x]) h (Nat.le_refl _) (by unfold maxLen; omega) rfl rfl
  exact this.rowSl
set_option maxRecDepth 100000 in
set_option maxHeartbeats 8000000 in
theorem rSorted_any (v : Value) (l ws : List (κ × Int)) (n : Nat) (hn : ws.length = n) (hn1 : n ≤ 1000000) (hr : Rel ltK l ws) {W w : World} {R : Asn} (h : St W w (star (Row 33 2 v n (tsV ws)) R)) :
    Calls Try.prog 18 #[v] w fun e w' => ∃ v', e = .returned v' ∧ St W w' (star (Row 33 2 v' n (tsV l)) (star (Row 33 2 v n (tsV ws)) R)) := by
  obtain ⟨i0, hi0, hz0, hz1, hz2⟩ := info_parts infoR
  have U := Try.underlying26
  have hln : l.length = n := by rw [hr.len, hn]
  have HLN := Lib.hid hln
  clear hln
  obtain ⟨_, va, vc, rfl, _⟩ := id h.rowSl
  have h1 := h.nilRow (e := 33) (size := 2)
  go_enter Try.func18, Try.ntmps18
  go_wp2_with fail
  go_loopw [0, 3] (fun lv ov wr => ∃ (i m : Nat) (u : List (κ × Int)) (la : Option Addr) (lc : Nat) (oa : Option Addr) (oc : Nat) (F : Asn), i + m = n ∧ lv = .slice la m lc ∧ ov = .slice oa i oc ∧ Rel ltK (l.drop i) u ∧ u.length = m ∧
    St W wr (star (Row 33 2 (.slice oa i oc) i (tsV (l.take i))) (star (Row 33 2 (.slice la m lc) m (tsV u)) F)) ∧
    (∀ w A, St W w (star A (star (Row 33 2 (.slice la m lc) m (tsV u)) F)) → St W w (star A (star (Row 33 2 (.slice va n vc) n (tsV ws)) R)))) (fun lv _ _ => lenV lv)
  case atStart => exact ⟨0, n, ws, va, vc, none, 0, R, by omega, rfl, rfl, by simpa using hr, hn, by simpa [tsV] using h1, fun _ _ h => h⟩
  case round =>
    obtain ⟨i, m, u, la, lc, oa, oc, F, him, rfl, rfl, hru, hum, hS, hF⟩ := hrel
    have HF := Lib.hid hF
    clear hF
    by_cases hm : 0 < m
    · obtain ⟨x, hx⟩ : ∃ x, l[i]? = some x := ⟨_, List.getElem?_eq_getElem (by rw [HLN.out]; omega)⟩
      have hd : l.drop i = x :: l.drop (i + 1) := by
        obtain ⟨hl, hx⟩ := List.getElem?_eq_some_iff.1 hx
        rw [← hx]; exact List.drop_eq_getElem_cons hl
      have HT : Hid (l.take (i + 1) = l.take i ++ [x]) := Lib.hid (by rw [List.take_add_one, hx]; rfl)
      rw [hd] at hru
      obtain ⟨b, hb, hfz, hbx, hru2⟩ := best_of hru
      rw [hum] at hfz hb
      have hfirst := rFirst_any la m lc u hum (by omega) wr hS.right.rowSl
      rw [hfz] at hfirst
      have HF1 := Lib.hid hfirst
      have HRU := Lib.hid hru2
      have HBX := Lib.hid hbx
      have HUM := Lib.hid hum
      have hmI : (0 : Int) < m := by omega
      clear hfirst hru2 hru hd hx hbx hfz hum
      go_wp2_with fail
      refine HF1.out.mono ?_
      rintro e w2 hq
      have h2 := hS.makes hq
      obtain ⟨rfl, -⟩ := hq
      obtain ⟨ab, ao, rfl, hel⟩ := el_at h2.right.rowSl HBX.out
      obtain ⟨x1, x2⟩ := x
      obtain ⟨he0, he1⟩ := hel _ _ (St.start _)
      have h3 := h2.alloc (.cells #[kv x1, .int .i64 x2] 33)
      have hone := one_sl (x := (x1, x2)) h3
      have h4 := h3.right
      have hbI : (b : Int) < m := by omega
      clear hel h3
      go_wp2_with (at_builtin; refine wpList_append_Sl rfl (.tmp 10) (.tmp 15) 26 rfl 33 i0 zV 2 16 U hi0 hz0 hz1 hz2 rfl _ i (tsV (l.take i)) rfl h4 _ 1 (tsV [(x1, x2)]) rfl hone (tsV_one _) (by unfold maxLen; omega) (by omega) ?_; intro v5 w5 h5 hv5; obtain ⟨_, a5, c5, rfl, _⟩ := id h5.rowSl)
      have h6 := h5.swap
      have HD := Lib.hid (rDrop_any _ u m HUM.out (by omega) b (by omega) h6)
      have HT2 : Hid (tsV (l.take i) ++ tsV [(x1, x2)] = tsV (l.take (i + 1))) := Lib.hid (by rw [HT.out, tsV_append])
      rw [HT2.out] at HD
      clear h5 h6 h4 h2 hS hone he0 he1 HT2 HF1
      go_wp2_with fail
      refine HD.out.mono ?_
      rintro e w6 ⟨v6, rfl, h6⟩
      obtain ⟨_, a6, c6, rfl, _⟩ := id h6.rowSl
      go_wp2_with fail
      refine ⟨⟨i + 1, m - 1, _, a6, c6, a5, c5, star (Row 33 2 (.slice (some ⟨ab, ao, none⟩) m lc) m (tsV u)) F, by omega, rfl, rfl, HRU.out, by
        have := HUM.out
        simp only [List.length_append, List.length_take, List.length_drop]
        omega, h6.eq (by ac_rfl), fun w A hA => ?_⟩, by simp [lenV]; omega⟩
      have h7 := HF.out w (star A (Row 33 2 (.slice a6 (m - 1) c6) (m - 1) (tsV (u.take b ++ u.drop (b + 1))))) (hA.eq (by ac_rfl))
      exact (h7.eq (by ac_rfl : _ = star (Row 33 2 (.slice a6 (m - 1) c6) (m - 1) (tsV (u.take b ++ u.drop (b + 1)))) (star A (star (Row 33 2 (.slice va n vc) n (tsV ws)) R)))).right
    · obtain rfl : m = 0 := by omega
      obtain rfl : i = n := by omega
      rw [List.take_of_length_le (by rw [HLN.out]; exact Nat.le_refl _)] at hS
      go_wp2
      go_ret
      exact ⟨_, rfl, HF.out _ _ hS⟩
end Go.Proofs.Ytedkkcbdhbbegaa.TmR3
