import Derived.Test.YtdobgebdlbckoaaDoorWdF
namespace Go.Proofs.YtdobgebdlbckoaaDoor.WdH
open Go Go.RowKit Go.Proofs Go.Proofs.YtdobgebdlbckoaaDoor.Sep Go.Proofs.YtdobgebdlbckoaaDoor.Reg Go.Proofs.YtdobgebdlbckoaaDoor.Frame Go.Proofs.YtdobgebdlbckoaaDoor.Strs Go.Proofs.YtdobgebdlbckoaaDoor.WdP Go.Proofs.YtdobgebdlbckoaaDoor.WdT Go.Proofs.YtdobgebdlbckoaaDoor.WdN Go.Proofs.YtdobgebdlbckoaaDoor.WdC Go.Proofs.YtdobgebdlbckoaaDoor.WdD Go.Proofs.YtdobgebdlbckoaaDoor.WdE Go.Proofs.YtdobgebdlbckoaaDoor.WdF

theorem alloc_size (w : World) (o : Obj) : (w.alloc o).heap.size = w.heap.size + 1 := by show (w.heap.push o).size = _; exact Array.size_push ..
theorem join_five (a b c d e : List UInt8) : Lib.join [a, b, c, d, e] [32] = a ++ 32 :: (b ++ 32 :: (c ++ 32 :: (d ++ 32 :: e))) := by
  simp [Lib.join, List.intercalate]
theorem Join_any {W w : World} {A : Asn} (h : St W w A) (b c d e : List UInt8) (hb : b.length ≤ 1000000) (hc : c.length ≤ 1000000) (hd : d.length ≤ 1000000) (he : e.length ≤ 1000000) (B : Nat) (hB : w.heap.size = B) :
    Calls Tryd.prog 46 #[.slice (some ⟨B, 0, none⟩) 5 5, .string ⟨#[32]⟩] (w.alloc (.cells #[.string ⟨#[77, 83, 71]⟩, .string ⟨b.toArray⟩, .string ⟨c.toArray⟩, .string ⟨d.toArray⟩, .string ⟨e.toArray⟩] 9 (0, 0)))
      fun v w' => v = .returned (.string ⟨(wMSG ++ 32 :: (b ++ 32 :: (c ++ 32 :: (d ++ 32 :: e)))).toArray⟩) ∧ St W w' A := by
  subst hB
  have h1 := h.alloc (.cells #[.string ⟨#[77, 83, 71]⟩, .string ⟨b.toArray⟩, .string ⟨c.toArray⟩, .string ⟨d.toArray⟩, .string ⟨e.toArray⟩] 9 (0, 0))
  have hj : Lib.join (([⟨#[77, 83, 71]⟩, ⟨b.toArray⟩, ⟨c.toArray⟩, ⟨d.toArray⟩, ⟨e.toArray⟩] : List ByteArray).map (·.data.toList)) (⟨#[32]⟩ : ByteArray).data.toList = wMSG ++ 32 :: (b ++ 32 :: (c ++ 32 :: (d ++ 32 :: e))) := join_five _ b c d e
  refine (Tryd.strings_Join w.heap.size 0 5 [⟨#[77, 83, 71]⟩, ⟨b.toArray⟩, ⟨c.toArray⟩, ⟨d.toArray⟩, ⟨e.toArray⟩] ⟨#[32]⟩ _ (fun j x hx => ?_) h1.lt (by simp) (by simp) (by rw [hj]; simp [wMSG]; omega)).mono ?_
  · rw [Nat.zero_add]
    refine h1.cell j ?_
    match j, hx with
    | 0, hx => simp at hx; subst hx; rfl
    | 1, hx => simp at hx; subst hx; rfl
    | 2, hx => simp at hx; subst hx; rfl
    | 3, hx => simp at hx; subst hx; rfl
    | 4, hx => simp at hx; subst hx; rfl
    | j + 5, hx => simp at hx
  · rintro v w' ⟨rfl, hb⟩
    exact ⟨by rw [hj], h1.right.past hb⟩

set_option maxRecDepth 100000 in
set_option maxHeartbeats 4000000 in
theorem Told_any (t : List UInt8) (a b : Int) (d : List UInt8) (q : Value) (hq : txtV (toldW t a b d) = q) (W : World) (hG : Gl W) (ht5 : t.length ≤ 1000000) (hd5 : d.length ≤ 1000000) :
    Calls Tryd.prog 33 #[delA t a b d] W (Makes W q) := by
  have HQ := Lib.hid hq
  clear hq
  have h1 := (St.start W).alloc (.cells #[.string ⟨t.toArray⟩, .int .i64 a, .int .i64 b, .string ⟨d.toArray⟩] 70 (0, 0))
  have hc0 := h1.cell 0 rfl
  have hc1 := h1.cell 1 rfl
  have hc2 := h1.cell 2 rfl
  have hc3 := h1.cell 3 rfl
  have hb0 := h1.below
  cases ht : topic t
  · have HT := Lib.hid fun w => (Topic_any t w (by omega)).mono fun e w' h => h.eq (v := .bool false) (by rw [ht])
    have HP := Lib.hid (told_none (a := a) (b := b) (d := d) (.inl ht))
    clear ht
    go_enter Tryd.func33, Tryd.ntmps33
    go_wp2_with fail
    refine (HT.out _).mono ?_
    rintro e w' ⟨rfl, rfl⟩
    go_wp2
    go_ret2
    exact ⟨by rw [← HQ.out, HP.out]; rfl, hb0⟩
  have HT := Lib.hid fun w => (Topic_any t w (by omega)).mono fun e w' h => h.eq (v := .bool true) (by rw [ht])
  have HTT := Lib.hid ht
  clear ht
  cases ha : may a
  · have HA := Lib.hid fun w => number_any a false ha w
    have HP := Lib.hid (told_none (t := t) (b := b) (d := d) (.inr (.inl ha)))
    clear ha
    go_enter Tryd.func33, Tryd.ntmps33
    go_wp2_with fail
    refine (HT.out _).mono ?_
    rintro e w' ⟨rfl, rfl⟩
    go_wp2_with fail
    refine (HA.out _).mono ?_
    rintro e w' ⟨rfl, rfl⟩
    go_wp2
    go_ret2
    exact ⟨by rw [← HQ.out, HP.out]; rfl, hb0⟩
  obtain ⟨m, rfl, hm2⟩ := (may_nat a).1 ha
  have HA := Lib.hid fun w => number_any (m : Int) true ha w
  have HAA := Lib.hid ha
  clear ha
  cases hb : may b
  · have HB := Lib.hid fun w => number_any b false hb w
    have HP := Lib.hid (told_none (t := t) (a := m) (d := d) (.inr (.inr hb)))
    clear hb
    go_enter Tryd.func33, Tryd.ntmps33
    go_wp2_with fail
    refine (HT.out _).mono ?_
    rintro e w' ⟨rfl, rfl⟩
    go_wp2_with fail
    refine (HA.out _).mono ?_
    rintro e w' ⟨rfl, rfl⟩
    go_wp2_with fail
    refine (HB.out _).mono ?_
    rintro e w' ⟨rfl, rfl⟩
    go_wp2
    go_ret2
    exact ⟨by rw [← HQ.out, HP.out]; rfl, hb0⟩
  obtain ⟨n, rfl, hn2⟩ := (may_nat b).1 hb
  have HB := Lib.hid fun w => number_any (n : Int) true hb w
  have HP := Lib.hid (told_some (d := d) HTT.out HAA.out hb)
  clear hb
  have HDA := Lib.hid fun w h => Itoa_any (m : Int) m rfl (by omega) w h
  have HDB := Lib.hid fun w h => Itoa_any (n : Int) n rfl (by omega) w h
  have hlm := dec_len 19 m (by omega) (by omega)
  have hln := dec_len 19 n (by omega) (by omega)
  generalize Lib.decDigits m = x at *
  generalize Lib.decDigits n = y at *
  have hd1 := h1.drew
  have HK : Hid (∀ w', St W w' (star (pt W.heap.size (.cells #[.string ⟨t.toArray⟩, .int .i64 m, .int .i64 n, .string ⟨d.toArray⟩] 70 (0, 0))) emp) → w'.cell? ⟨W.heap.size, 0, none⟩ = some (.string ⟨t.toArray⟩) ∧ w'.cell? ⟨W.heap.size, 1, none⟩ = some (.int .i64 m) ∧ w'.cell? ⟨W.heap.size, 2, none⟩ = some (.int .i64 n) ∧ w'.cell? ⟨W.heap.size, 3, none⟩ = some (.string ⟨d.toArray⟩)) := Lib.hid fun w' h => ⟨h.cell 0 rfl, h.cell 1 rfl, h.cell 2 rfl, h.cell 3 rfl⟩
  go_enter Tryd.func33, Tryd.ntmps33
  go_wp2_with fail
  refine (HT.out _).mono ?_
  rintro e w' ⟨rfl, rfl⟩
  go_wp2_with fail
  refine (HA.out _).mono ?_
  rintro e w' ⟨rfl, rfl⟩
  go_wp2_with fail
  refine (HB.out _).mono ?_
  rintro e w' ⟨rfl, rfl⟩
  go_wp2_with fail
  go_region_held3 (fun w' => w'.cell? ⟨W.heap.size, 0, none⟩ = some (.string ⟨t.toArray⟩) ∧ w'.cell? ⟨W.heap.size, 1, none⟩ = some (.int .i64 m) ∧ w'.cell? ⟨W.heap.size, 2, none⟩ = some (.int .i64 n) ∧ w'.cell? ⟨W.heap.size, 3, none⟩ = some (.string ⟨d.toArray⟩)) (first | go_keep | (exact HK.out _ (by assumption)))
    (first
      | (go_at_call 40; refine (HDB.out _ (hG.st h5)).mono ?_; intro e w6 hq6; have h6 := St.makes h5 hq6; obtain ⟨rfl, -⟩ := hq6)
      | (go_at_call 40; refine (HDA.out _ (hG.st hd1)).mono ?_; intro e w5 hq5; have h5 := St.makes hd1 hq5; obtain ⟨rfl, -⟩ := hq5)
      | (go_at_call 46; refine (Join_any h6 t x y d (by omega) (by omega) (by omega) (by omega) _ rfl).mono ?_; rintro e w7 ⟨rfl, h7⟩))
  go_wp2
  go_ret2
  exact ⟨by rw [← HQ.out, HP.out]; rfl, h7.below⟩

theorem splitK_mem : ∀ (k : Nat) (s x : List UInt8), x ∈ Lib.splitK [32] 0 k s → x.length ≤ s.length
  | 0, s, x, h => by rw [splitK_zero] at h; simp at h; rw [h]; exact Nat.le_refl _
  | k + 1, s, x, h => by
    rw [splitK_one] at h
    have hl := cutB_len s
    split at h
    · rcases List.mem_cons.1 h with rfl | h
      · exact hl.1
      · have := splitK_mem k _ x h; omega
    · simp at h; rw [h]; exact Nat.le_refl _
theorem splitB_strs (s : List UInt8) (k : Nat) : ((Lib.splitB ⟨#[32]⟩ 0 k ⟨s.toArray⟩).map Value.string) = strsV (Lib.splitK [32] 0 k s) := by
  have h := Lib.splitB_data ⟨#[32]⟩ 0 k ⟨s.toArray⟩
  have h3 : (Lib.splitB ⟨#[32]⟩ 0 k ⟨s.toArray⟩).map (·.data.toList) = Lib.splitK [32] 0 k s := h
  rw [strsV, ← h3, List.map_map]
  refine List.map_congr_left fun x _ => ?_
  cases x
  simp
theorem five_mem (s x : List UInt8) (h : x ∈ five s) : x.length ≤ s.length := splitK_mem _ s x h

end Go.Proofs.YtdobgebdlbckoaaDoor.WdH
