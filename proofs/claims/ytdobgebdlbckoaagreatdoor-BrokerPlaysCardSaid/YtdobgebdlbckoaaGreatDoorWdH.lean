import Derived.Test.YtdobgebdlbckoaaGreatDoorWdF
namespace Go.Proofs.YtdobgebdlbckoaaGreatDoor.WdH
open Go Go.RowKit Go.Proofs Go.Proofs.YtdobgebdlbckoaaGreatDoor.Sep Go.Proofs.YtdobgebdlbckoaaGreatDoor.Reg Go.Proofs.YtdobgebdlbckoaaGreatDoor.Frame Go.Proofs.YtdobgebdlbckoaaGreatDoor.Strs Go.Proofs.YtdobgebdlbckoaaGreatDoor.WdP Go.Proofs.YtdobgebdlbckoaaGreatDoor.WdT Go.Proofs.YtdobgebdlbckoaaGreatDoor.WdN Go.Proofs.YtdobgebdlbckoaaGreatDoor.WdC Go.Proofs.YtdobgebdlbckoaaGreatDoor.WdD Go.Proofs.YtdobgebdlbckoaaGreatDoor.WdE Go.Proofs.YtdobgebdlbckoaaGreatDoor.WdF

theorem alloc_size (w : World) (o : Obj) : (w.alloc o).heap.size = w.heap.size + 1 := by show (w.heap.push o).size = _; exact Array.size_push ..
theorem join_five (a b c d e : List UInt8) : Lib.join [a, b, c, d, e] [32] = a ++ 32 :: (b ++ 32 :: (c ++ 32 :: (d ++ 32 :: e))) := by
  simp [Lib.join, List.intercalate]
theorem Join_any {W w : World} {A : Asn} (h : St W w A) (b c d e : List UInt8) (hb : b.length ≤ 1000000) (hc : c.length ≤ 1000000) (hd : d.length ≤ 1000000) (he : e.length ≤ 1000000) (B : Nat) (hB : w.heap.size = B) :
    Calls Tryz.prog 80 #[.slice (some ⟨B, 0, none⟩) 5 5, .string ⟨#[32]⟩] (w.alloc (.cells #[.string ⟨#[77, 83, 71]⟩, .string ⟨b.toArray⟩, .string ⟨c.toArray⟩, .string ⟨d.toArray⟩, .string ⟨e.toArray⟩] 9 (0, 0)))
      fun v w' => v = .returned (.string ⟨(wMSG ++ 32 :: (b ++ 32 :: (c ++ 32 :: (d ++ 32 :: e)))).toArray⟩) ∧ St W w' A := by
  subst hB
  have h1 := h.alloc (.cells #[.string ⟨#[77, 83, 71]⟩, .string ⟨b.toArray⟩, .string ⟨c.toArray⟩, .string ⟨d.toArray⟩, .string ⟨e.toArray⟩] 9 (0, 0))
  have hj : Lib.join (([⟨#[77, 83, 71]⟩, ⟨b.toArray⟩, ⟨c.toArray⟩, ⟨d.toArray⟩, ⟨e.toArray⟩] : List ByteArray).map (·.data.toList)) (⟨#[32]⟩ : ByteArray).data.toList = wMSG ++ 32 :: (b ++ 32 :: (c ++ 32 :: (d ++ 32 :: e))) := join_five _ b c d e
  refine (Tryz.strings_Join w.heap.size 0 5 [⟨#[77, 83, 71]⟩, ⟨b.toArray⟩, ⟨c.toArray⟩, ⟨d.toArray⟩, ⟨e.toArray⟩] ⟨#[32]⟩ _ (fun j x hx => ?_) h1.lt (by simp) (by simp) (by rw [hj]; simp [wMSG]; omega)).mono ?_
  · rw [Nat.zero_add]
    refine h1.cell j ?_
    match j, hx with
    | 0, hx => simp at hx; subst hx; rfl
    | 1, hx => simp at hx; subst hx; rfl
    | 2, hx => simp at hx; subst hx; rfl
    | 3, hx => simp at hx; subst hx; rfl
    | 4, hx => simp at hx; subst hx; rfl
    | j + 5, hx => simp at hx
  · rintro v w' ⟨rfl, hb⟩
    exact ⟨by rw [hj], h1.right.past hb⟩

set_option maxRecDepth 100000 in
set_option maxHeartbeats 4000000 in
theorem Told_any (t : List UInt8) (a b : Int) (d : List UInt8) (q : Value) (hq : txtV (toldW t a b d) = q) (W : World) (hG : Gl W) (ht5 : t.length ≤ 1000000) (hd5 : d.length ≤ 1000000) :
    Calls Tryz.prog 57 #[delA t a b d] W (Makes W q) := by
  have HQ := Lib.hid hq
  clear hq
  have h1 := (St.start W).alloc (.cells #[.string ⟨t.toArray⟩, .int .i64 a, .int .i64 b, .string ⟨d.toArray⟩] 66 (0, 0))
  have hc0 := h1.cell 0 rfl
  have hc1 := h1.cell 1 rfl
  have hc2 := h1.cell 2 rfl
  have hc3 := h1.cell 3 rfl
  have hb0 := h1.below
  cases ht : topic t
  · have HT := Lib.hid fun w => (Topic_any t w (by omega)).mono fun e w' h => h.eq (v := .bool false) (by rw [ht])
    have HP := Lib.hid (told_none (a := a) (b := b) (d := d) (.inl ht))
    clear ht
    go_enter Tryz.func57, Tryz.ntmps57
    go_wp2_with fail
    refine (HT.out _).mono ?_
    rintro e w' ⟨rfl, rfl⟩
    go_wp2
    go_ret2
    exact ⟨by rw [← HQ.out, HP.out]; rfl, hb0⟩
  have HT := Lib.hid fun w => (Topic_any t w (by omega)).mono fun e w' h => h.eq (v := .bool true) (by rw [ht])
  have HTT := Lib.hid ht
  clear ht
  cases ha : may a
  · have HA := Lib.hid fun w => number_any a false ha w
    have HP := Lib.hid (told_none (t := t) (b := b) (d := d) (.inr (.inl ha)))
    clear ha
    go_enter Tryz.func57, Tryz.ntmps57
    go_wp2_with fail
    refine (HT.out _).mono ?_
    rintro e w' ⟨rfl, rfl⟩
    go_wp2_with fail
    refine (HA.out _).mono ?_
    rintro e w' ⟨rfl, rfl⟩
    go_wp2
    go_ret2
    exact ⟨by rw [← HQ.out, HP.out]; rfl, hb0⟩
  obtain ⟨m, rfl, hm2⟩ := (may_nat a).1 ha
  have HA := Lib.hid fun w => number_any (m : Int) true ha w
  have HAA := Lib.hid ha
  clear ha
  cases hb : may b
  · have HB := Lib.hid fun w => number_any b false hb w
    have HP := Lib.hid (told_none (t := t) (a := m) (d := d) (.inr (.inr hb)))
    clear hb
    go_enter Tryz.func57, Tryz.ntmps57
    go_wp2_with fail
    refine (HT.out _).mono ?_
    rintro e w' ⟨rfl, rfl⟩
    go_wp2_with fail
    refine (HA.out _).mono ?_
    rintro e w' ⟨rfl, rfl⟩
    go_wp2_with fail
    refine (HB.out _).mono ?_
    rintro e w' ⟨rfl, rfl⟩
    go_wp2
    go_ret2
    exact ⟨by rw [← HQ.out, HP.out]; rfl, hb0⟩
  obtain ⟨n, rfl, hn2⟩ := (may_nat b).1 hb
  have HB := Lib.hid fun w => number_any (n : Int) true hb w
  have HP := Lib.hid (told_some (d := d) HTT.out HAA.out hb)
  clear hb
  have HDA := Lib.hid fun w h => Itoa_any (m : Int) m rfl (by omega) w h
  have HDB := Lib.hid fun w h => Itoa_any (n : Int) n rfl (by omega) w h
  have hlm := dec_len 19 m (by omega) (by omega)
  have hln := dec_len 19 n (by omega) (by omega)
  generalize Lib.decDigits m = x at *
  generalize Lib.decDigits n = y at *
  have hd1 := h1.drew
  have HK : Hid (∀ w', St W w' (star (pt W.heap.size (.cells #[.string ⟨t.toArray⟩, .int .i64 m, .int .i64 n, .string ⟨d.toArray⟩] 66 (0, 0))) emp) → w'.cell? ⟨W.heap.size, 0, none⟩ = some (.string ⟨t.toArray⟩) ∧ w'.cell? ⟨W.heap.size, 1, none⟩ = some (.int .i64 m) ∧ w'.cell? ⟨W.heap.size, 2, none⟩ = some (.int .i64 n) ∧ w'.cell? ⟨W.heap.size, 3, none⟩ = some (.string ⟨d.toArray⟩)) := Lib.hid fun w' h => ⟨h.cell 0 rfl, h.cell 1 rfl, h.cell 2 rfl, h.cell 3 rfl⟩
  go_enter Tryz.func57, Tryz.ntmps57
  go_wp2_with fail
  refine (HT.out _).mono ?_
  rintro e w' ⟨rfl, rfl⟩
  go_wp2_with fail
  refine (HA.out _).mono ?_
  rintro e w' ⟨rfl, rfl⟩
  go_wp2_with fail
  refine (HB.out _).mono ?_
  rintro e w' ⟨rfl, rfl⟩
  go_wp2_with fail
  go_region_held3 (fun w' => w'.cell? ⟨W.heap.size, 0, none⟩ = some (.string ⟨t.toArray⟩) ∧ w'.cell? ⟨W.heap.size, 1, none⟩ = some (.int .i64 m) ∧ w'.cell? ⟨W.heap.size, 2, none⟩ = some (.int .i64 n) ∧ w'.cell? ⟨W.heap.size, 3, none⟩ = some (.string ⟨d.toArray⟩)) (first | go_keep | (exact HK.out _ (by assumption)))
    (first
      | (go_at_call 74; refine (HDB.out _ (hG.st h5)).mono ?_; intro e w6 hq6; have h6 := St.makes h5 hq6; obtain ⟨rfl, -⟩ := hq6)
      | (go_at_call 74; refine (HDA.out _ (hG.st hd1)).mono ?_; intro e w5 hq5; have h5 := St.makes hd1 hq5; obtain ⟨rfl, -⟩ := hq5)
      | (go_at_call 80; refine (Join_any h6 t x y d (by omega) (by omega) (by omega) (by omega) _ rfl).mono ?_; rintro e w7 ⟨rfl, h7⟩))
  go_wp2
  go_ret2
  exact ⟨by rw [← HQ.out, HP.out]; rfl, h7.below⟩

theorem splitK_mem : ∀ (k : Nat) (s x : List UInt8), x ∈ Lib.splitK [32] 0 k s → x.length ≤ s.length
  | 0, s, x, h => by rw [splitK_zero] at h; simp at h; rw [h]; exact Nat.le_refl _
  | k + 1, s, x, h => by
    rw [splitK_one] at h
    have hl := cutB_len s
    split at h
    · rcases List.mem_cons.1 h with rfl | h
      · exact hl.1
      · have := splitK_mem k _ x h; omega
    · simp at h; rw [h]; exact Nat.le_refl _
theorem splitB_strs (s : List UInt8) (k : Nat) : ((Lib.splitB ⟨#[32]⟩ 0 k ⟨s.toArray⟩).map Value.string) = strsV (Lib.splitK [32] 0 k s) := by
  have h := Lib.splitB_data ⟨#[32]⟩ 0 k ⟨s.toArray⟩
  have h3 : (Lib.splitB ⟨#[32]⟩ 0 k ⟨s.toArray⟩).map (·.data.toList) = Lib.splitK [32] 0 k s := h
  rw [strsV, ← h3, List.map_map]
  refine List.map_congr_left fun x _ => ?_
  cases x
  simp
theorem SplitN_any (s : List UInt8) (w : World) (hs : s.length ≤ 1000000) (hG : Gl w) : Calls Tryz.prog 51 #[.string ⟨s.toArray⟩, .string ⟨#[32]⟩, .int .i64 5] w fun e w' =>
    ∃ c cs, e = .returned (.slice (some ⟨w.heap.size, 0, none⟩) (five s).length c) ∧ w' = w.alloc (.cells cs 9 (0, 0)) ∧ ((five s).length = 5 → c = 5 ∧ cs = (strsV (five s)).toArray) := by
  obtain ⟨m, hm⟩ := hG.1
  have hz : (⟨s.toArray⟩ : ByteArray).size = s.length := by simp [ByteArray.size]
  refine (Tryz.strings_SplitN ⟨s.toArray⟩ ⟨#[32]⟩ 5 m w (by omega) hm (by decide) (by omega) (by omega)).mono ?_
  rintro e w' ⟨rfl, rfl⟩
  have hst := splitB_strs s (min 5 (s.length + 1) - 1)
  have hlen : (Lib.splitB ⟨#[32]⟩ 0 (min 5 (s.length + 1) - 1) ⟨s.toArray⟩).length = (five s).length := by
    have := congrArg List.length hst
    simpa [strsV, five] using this
  rw [hz]
  refine ⟨_, _, by rw [hlen], rfl, fun h5 => ?_⟩
  have h4 := (splitK_len (min 5 (s.length + 1) - 1) s).2
  have h4' : (five s).length ≤ s.length + 1 := h4
  refine ⟨by omega, ?_⟩
  unfold Lib.cellsOf
  rw [hst, hlen, h5]
  have : min 5 (s.length + 1) - 5 = 0 := by omega
  rw [this]
  simp [five]

theorem five_mem (s x : List UInt8) (h : x ∈ five s) : x.length ≤ s.length := splitK_mem _ s x h

set_option maxRecDepth 100000 in
set_option maxHeartbeats 4000000 in
theorem Hear_any (s : List UInt8) (q : Value) (hq : delV (hearW s) = q) (W : World) (hG : Gl W) (hE : Er W) (hs : s.length ≤ 1000000) : Calls Tryz.prog 29 #[.string ⟨s.toArray⟩] W (Makes W q) := by
  have HQ := Lib.hid hq
  clear hq
  have h1 := (St.start W).alloc (.cells #[.string ⟨#[]⟩, .int .i64 0, .int .i64 0, .string ⟨#[]⟩] 66 (0, 0))
  have HC := Lib.hid fun w h => SplitN_any s w hs h
  have hmem := five_mem s
  rcases five_of s with ⟨hl, hn⟩ | ⟨a, b, c, d, f, h5, -, hh⟩
  · have HP := Lib.hid hn
    clear hn hmem
    generalize five s = l at *
    go_enter Tryz.func29, Tryz.ntmps29
    go_wp2_with fail
    refine (HC.out _ (hG.st h1)).mono ?_
    rintro e w' ⟨cp, cs, rfl, rfl, -⟩
    have h2 := h1.alloc (.cells cs 9 (0, 0))
    have hc0 := h2.swap.cell 0 rfl
    have hc1 := h2.swap.cell 1 rfl
    have hc2 := h2.swap.cell 2 rfl
    have hc3 := h2.swap.cell 3 rfl
    have hf0 := h2.swap.free 0
    have hf1 := h2.swap.free 1
    have hf2 := h2.swap.free 2
    have hf3 := h2.swap.free 3
    go_wp2
    refine bodyPost_ret (v := .tuple #[delA [] 0 0 [], .bool false]) (by simp [results, Tryz.results29, go_sem, hc0, hc1, hc2, hc3]) rfl ⟨by rw [← HQ.out, HP.out]; rfl, ?_⟩
    first | exact ((((h2.swap.setCell 0 _).setCell 1 _).setCell 2 _).setCell 3 _).below | exact h2.below
  · have hbl := hmem b (by rw [h5]; simp)
    have hcl := hmem c (by rw [h5]; simp)
    have hdl := hmem d (by rw [h5]; simp)
    have HH := Lib.hid hh
    rw [h5] at HC
    clear hmem hh h5
    by_cases ha : a = [77, 83, 71]
    · subst ha
      cases ht : topic b
      · have HT := Lib.hid fun w => (Topic_any b w (by omega)).mono fun e w' h => h.eq (v := .bool false) (by rw [ht])
        have HP : Hid (hearW s = none) := Lib.hid (by rw [HH.out, if_neg]; rw [ht]; simp)
        clear ht
        go_enter Tryz.func29, Tryz.ntmps29
        go_wp2_with fail
        refine (HC.out _ (hG.st h1)).mono ?_
        rintro e w' ⟨cp, cs, rfl, rfl, hcs⟩
        obtain ⟨rfl, rfl⟩ := hcs rfl
        clear hcs
        have h2 := h1.alloc (.cells (strsV [[77, 83, 71], b, c, d, f]).toArray 9 (0, 0))
        rw [alloc_size] at h2
        have hc0 := h2.swap.cell 0 rfl
        have hc1 := h2.swap.cell 1 rfl
        have hc2 := h2.swap.cell 2 rfl
        have hc3 := h2.swap.cell 3 rfl
        have hf0 := h2.swap.free 0
        have hf1 := h2.swap.free 1
        have hf2 := h2.swap.free 2
        have hf3 := h2.swap.free 3
        have he0 : World.cell? _ ⟨W.heap.size + 1, 0, none⟩ = some (.string ⟨#[77, 83, 71]⟩) := h2.cell 0 rfl
        have he1 : World.cell? _ ⟨W.heap.size + 1, 1, none⟩ = some (.string ⟨b.toArray⟩) := h2.cell 1 rfl
        have he2 : World.cell? _ ⟨W.heap.size + 1, 2, none⟩ = some (.string ⟨c.toArray⟩) := h2.cell 2 rfl
        have he3 : World.cell? _ ⟨W.heap.size + 1, 3, none⟩ = some (.string ⟨d.toArray⟩) := h2.cell 3 rfl
        have he4 : World.cell? _ ⟨W.heap.size + 1, 4, none⟩ = some (.string ⟨f.toArray⟩) := h2.cell 4 rfl
        go_wp2_with fail
        refine (HT.out _).mono ?_
        rintro e w' ⟨rfl, rfl⟩
        go_wp2
        refine bodyPost_ret (v := .tuple #[delA [] 0 0 [], .bool false]) (by simp [results, Tryz.results29, go_sem, hc0, hc1, hc2, hc3]) rfl ⟨by rw [← HQ.out, HP.out]; rfl, ?_⟩
        first | exact ((((h2.swap.setCell 0 _).setCell 1 _).setCell 2 _).setCell 3 _).below | exact h2.below
      · have HT := Lib.hid fun w => (Topic_any b w (by omega)).mono fun e w' h => h.eq (v := .bool true) (by rw [ht])
        have HH2 : Hid (hearW s = match num c, num d with | some m, some n => some (b, m, n, f) | _, _ => none) := Lib.hid (by rw [HH.out, if_pos ⟨rfl, ht⟩]; rfl)
        have R1 := Lib.hid fun w h hE => read_any c _ rfl w h hE (by omega)
        have R2 := Lib.hid fun w h hE => read_any d _ rfl w h hE (by omega)
        clear ht HH
        generalize num c = u at *
        generalize num d = v at *
        cases u with
        | none =>
          have HP : Hid (hearW s = none) := Lib.hid (by rw [HH2.out])
          cases v
          all_goals
            simp only [numV] at R1 R2
            go_enter Tryz.func29, Tryz.ntmps29
            go_wp2_with fail
            refine (HC.out _ (hG.st h1)).mono ?_
            rintro e w' ⟨cp, cs, rfl, rfl, hcs⟩
            obtain ⟨rfl, rfl⟩ := hcs rfl
            clear hcs
            have h2 := h1.alloc (.cells (strsV [[77, 83, 71], b, c, d, f]).toArray 9 (0, 0))
            rw [alloc_size] at h2
            have hc0 := h2.swap.cell 0 rfl
            have hc1 := h2.swap.cell 1 rfl
            have hc2 := h2.swap.cell 2 rfl
            have hc3 := h2.swap.cell 3 rfl
            have hf0 := h2.swap.free 0
            have hf1 := h2.swap.free 1
            have hf2 := h2.swap.free 2
            have hf3 := h2.swap.free 3
            have he0 : World.cell? _ ⟨W.heap.size + 1, 0, none⟩ = some (.string ⟨#[77, 83, 71]⟩) := h2.cell 0 rfl
            have he1 : World.cell? _ ⟨W.heap.size + 1, 1, none⟩ = some (.string ⟨b.toArray⟩) := h2.cell 1 rfl
            have he2 : World.cell? _ ⟨W.heap.size + 1, 2, none⟩ = some (.string ⟨c.toArray⟩) := h2.cell 2 rfl
            have he3 : World.cell? _ ⟨W.heap.size + 1, 3, none⟩ = some (.string ⟨d.toArray⟩) := h2.cell 3 rfl
            have he4 : World.cell? _ ⟨W.heap.size + 1, 4, none⟩ = some (.string ⟨f.toArray⟩) := h2.cell 4 rfl
            go_wp2_with fail
            refine (HT.out _).mono ?_
            rintro e w' ⟨rfl, rfl⟩
            go_wp2_with fail
            refine (R1.out _ (hG.st h2) (hE.st h2)).mono ?_
            rintro e w3 hq
            have h3 := h2.makes hq
            obtain ⟨rfl, -⟩ := hq
            clear hc0 hc1 hc2 hc3 hf0 hf1 hf2 hf3 he0 he1 he2 he3 he4
            have hc0 := h3.swap.cell 0 rfl
            have hc1 := h3.swap.cell 1 rfl
            have hc2 := h3.swap.cell 2 rfl
            have hc3 := h3.swap.cell 3 rfl
            have hf0 := h3.swap.free 0
            have hf1 := h3.swap.free 1
            have hf2 := h3.swap.free 2
            have hf3 := h3.swap.free 3
            have he0 : World.cell? _ ⟨W.heap.size + 1, 0, none⟩ = some (.string ⟨#[77, 83, 71]⟩) := h3.cell 0 rfl
            have he1 : World.cell? _ ⟨W.heap.size + 1, 1, none⟩ = some (.string ⟨b.toArray⟩) := h3.cell 1 rfl
            have he2 : World.cell? _ ⟨W.heap.size + 1, 2, none⟩ = some (.string ⟨c.toArray⟩) := h3.cell 2 rfl
            have he3 : World.cell? _ ⟨W.heap.size + 1, 3, none⟩ = some (.string ⟨d.toArray⟩) := h3.cell 3 rfl
            have he4 : World.cell? _ ⟨W.heap.size + 1, 4, none⟩ = some (.string ⟨f.toArray⟩) := h3.cell 4 rfl
            go_wp2_with fail
            refine (R2.out _ (hG.st h3) (hE.st h3)).mono ?_
            rintro e w4 hq
            have h4 := h3.makes hq
            obtain ⟨rfl, -⟩ := hq
            clear hc0 hc1 hc2 hc3 hf0 hf1 hf2 hf3 he0 he1 he2 he3 he4
            have hc0 := h4.swap.cell 0 rfl
            have hc1 := h4.swap.cell 1 rfl
            have hc2 := h4.swap.cell 2 rfl
            have hc3 := h4.swap.cell 3 rfl
            have hf0 := h4.swap.free 0
            have hf1 := h4.swap.free 1
            have hf2 := h4.swap.free 2
            have hf3 := h4.swap.free 3
            have he0 : World.cell? _ ⟨W.heap.size + 1, 0, none⟩ = some (.string ⟨#[77, 83, 71]⟩) := h4.cell 0 rfl
            have he1 : World.cell? _ ⟨W.heap.size + 1, 1, none⟩ = some (.string ⟨b.toArray⟩) := h4.cell 1 rfl
            have he2 : World.cell? _ ⟨W.heap.size + 1, 2, none⟩ = some (.string ⟨c.toArray⟩) := h4.cell 2 rfl
            have he3 : World.cell? _ ⟨W.heap.size + 1, 3, none⟩ = some (.string ⟨d.toArray⟩) := h4.cell 3 rfl
            have he4 : World.cell? _ ⟨W.heap.size + 1, 4, none⟩ = some (.string ⟨f.toArray⟩) := h4.cell 4 rfl
            go_wp2
            refine bodyPost_ret (v := .tuple #[delA [] 0 0 [], .bool false]) (by simp [results, Tryz.results29, go_sem, hc0, hc1, hc2, hc3]) rfl ⟨by rw [← HQ.out, HP.out]; rfl, ?_⟩
            first | exact ((((h4.swap.setCell 0 _).setCell 1 _).setCell 2 _).setCell 3 _).below | exact h4.below
        | some m =>
          cases v with
          | none =>
            have HP : Hid (hearW s = none) := Lib.hid (by rw [HH2.out])
            simp only [numV] at R1 R2
            go_enter Tryz.func29, Tryz.ntmps29
            go_wp2_with fail
            refine (HC.out _ (hG.st h1)).mono ?_
            rintro e w' ⟨cp, cs, rfl, rfl, hcs⟩
            obtain ⟨rfl, rfl⟩ := hcs rfl
            clear hcs
            have h2 := h1.alloc (.cells (strsV [[77, 83, 71], b, c, d, f]).toArray 9 (0, 0))
            rw [alloc_size] at h2
            have hc0 := h2.swap.cell 0 rfl
            have hc1 := h2.swap.cell 1 rfl
            have hc2 := h2.swap.cell 2 rfl
            have hc3 := h2.swap.cell 3 rfl
            have hf0 := h2.swap.free 0
            have hf1 := h2.swap.free 1
            have hf2 := h2.swap.free 2
            have hf3 := h2.swap.free 3
            have he0 : World.cell? _ ⟨W.heap.size + 1, 0, none⟩ = some (.string ⟨#[77, 83, 71]⟩) := h2.cell 0 rfl
            have he1 : World.cell? _ ⟨W.heap.size + 1, 1, none⟩ = some (.string ⟨b.toArray⟩) := h2.cell 1 rfl
            have he2 : World.cell? _ ⟨W.heap.size + 1, 2, none⟩ = some (.string ⟨c.toArray⟩) := h2.cell 2 rfl
            have he3 : World.cell? _ ⟨W.heap.size + 1, 3, none⟩ = some (.string ⟨d.toArray⟩) := h2.cell 3 rfl
            have he4 : World.cell? _ ⟨W.heap.size + 1, 4, none⟩ = some (.string ⟨f.toArray⟩) := h2.cell 4 rfl
            go_wp2_with fail
            refine (HT.out _).mono ?_
            rintro e w' ⟨rfl, rfl⟩
            go_wp2_with fail
            refine (R1.out _ (hG.st h2) (hE.st h2)).mono ?_
            rintro e w3 hq
            have h3 := h2.makes hq
            obtain ⟨rfl, -⟩ := hq
            clear hc0 hc1 hc2 hc3 hf0 hf1 hf2 hf3 he0 he1 he2 he3 he4
            have hc0 := h3.swap.cell 0 rfl
            have hc1 := h3.swap.cell 1 rfl
            have hc2 := h3.swap.cell 2 rfl
            have hc3 := h3.swap.cell 3 rfl
            have hf0 := h3.swap.free 0
            have hf1 := h3.swap.free 1
            have hf2 := h3.swap.free 2
            have hf3 := h3.swap.free 3
            have he0 : World.cell? _ ⟨W.heap.size + 1, 0, none⟩ = some (.string ⟨#[77, 83, 71]⟩) := h3.cell 0 rfl
            have he1 : World.cell? _ ⟨W.heap.size + 1, 1, none⟩ = some (.string ⟨b.toArray⟩) := h3.cell 1 rfl
            have he2 : World.cell? _ ⟨W.heap.size + 1, 2, none⟩ = some (.string ⟨c.toArray⟩) := h3.cell 2 rfl
            have he3 : World.cell? _ ⟨W.heap.size + 1, 3, none⟩ = some (.string ⟨d.toArray⟩) := h3.cell 3 rfl
            have he4 : World.cell? _ ⟨W.heap.size + 1, 4, none⟩ = some (.string ⟨f.toArray⟩) := h3.cell 4 rfl
            go_wp2_with fail
            refine (R2.out _ (hG.st h3) (hE.st h3)).mono ?_
            rintro e w4 hq
            have h4 := h3.makes hq
            obtain ⟨rfl, -⟩ := hq
            clear hc0 hc1 hc2 hc3 hf0 hf1 hf2 hf3 he0 he1 he2 he3 he4
            have hc0 := h4.swap.cell 0 rfl
            have hc1 := h4.swap.cell 1 rfl
            have hc2 := h4.swap.cell 2 rfl
            have hc3 := h4.swap.cell 3 rfl
            have hf0 := h4.swap.free 0
            have hf1 := h4.swap.free 1
            have hf2 := h4.swap.free 2
            have hf3 := h4.swap.free 3
            have he0 : World.cell? _ ⟨W.heap.size + 1, 0, none⟩ = some (.string ⟨#[77, 83, 71]⟩) := h4.cell 0 rfl
            have he1 : World.cell? _ ⟨W.heap.size + 1, 1, none⟩ = some (.string ⟨b.toArray⟩) := h4.cell 1 rfl
            have he2 : World.cell? _ ⟨W.heap.size + 1, 2, none⟩ = some (.string ⟨c.toArray⟩) := h4.cell 2 rfl
            have he3 : World.cell? _ ⟨W.heap.size + 1, 3, none⟩ = some (.string ⟨d.toArray⟩) := h4.cell 3 rfl
            have he4 : World.cell? _ ⟨W.heap.size + 1, 4, none⟩ = some (.string ⟨f.toArray⟩) := h4.cell 4 rfl
            go_wp2
            refine bodyPost_ret (v := .tuple #[delA [] 0 0 [], .bool false]) (by simp [results, Tryz.results29, go_sem, hc0, hc1, hc2, hc3]) rfl ⟨by rw [← HQ.out, HP.out]; rfl, ?_⟩
            first | exact ((((h4.swap.setCell 0 _).setCell 1 _).setCell 2 _).setCell 3 _).below | exact h4.below
          | some n =>
            have HP : Hid (hearW s = some (b, m, n, f)) := Lib.hid (by rw [HH2.out])
            simp only [numV] at R1 R2
            go_enter Tryz.func29, Tryz.ntmps29
            go_wp2_with fail
            refine (HC.out _ (hG.st h1)).mono ?_
            rintro e w' ⟨cp, cs, rfl, rfl, hcs⟩
            obtain ⟨rfl, rfl⟩ := hcs rfl
            clear hcs
            have h2 := h1.alloc (.cells (strsV [[77, 83, 71], b, c, d, f]).toArray 9 (0, 0))
            rw [alloc_size] at h2
            have hc0 := h2.swap.cell 0 rfl
            have hc1 := h2.swap.cell 1 rfl
            have hc2 := h2.swap.cell 2 rfl
            have hc3 := h2.swap.cell 3 rfl
            have hf0 := h2.swap.free 0
            have hf1 := h2.swap.free 1
            have hf2 := h2.swap.free 2
            have hf3 := h2.swap.free 3
            have he0 : World.cell? _ ⟨W.heap.size + 1, 0, none⟩ = some (.string ⟨#[77, 83, 71]⟩) := h2.cell 0 rfl
            have he1 : World.cell? _ ⟨W.heap.size + 1, 1, none⟩ = some (.string ⟨b.toArray⟩) := h2.cell 1 rfl
            have he2 : World.cell? _ ⟨W.heap.size + 1, 2, none⟩ = some (.string ⟨c.toArray⟩) := h2.cell 2 rfl
            have he3 : World.cell? _ ⟨W.heap.size + 1, 3, none⟩ = some (.string ⟨d.toArray⟩) := h2.cell 3 rfl
            have he4 : World.cell? _ ⟨W.heap.size + 1, 4, none⟩ = some (.string ⟨f.toArray⟩) := h2.cell 4 rfl
            go_wp2_with fail
            refine (HT.out _).mono ?_
            rintro e w' ⟨rfl, rfl⟩
            go_wp2_with fail
            refine (R1.out _ (hG.st h2) (hE.st h2)).mono ?_
            rintro e w3 hq
            have h3 := h2.makes hq
            obtain ⟨rfl, -⟩ := hq
            clear hc0 hc1 hc2 hc3 hf0 hf1 hf2 hf3 he0 he1 he2 he3 he4
            have hc0 := h3.swap.cell 0 rfl
            have hc1 := h3.swap.cell 1 rfl
            have hc2 := h3.swap.cell 2 rfl
            have hc3 := h3.swap.cell 3 rfl
            have hf0 := h3.swap.free 0
            have hf1 := h3.swap.free 1
            have hf2 := h3.swap.free 2
            have hf3 := h3.swap.free 3
            have he0 : World.cell? _ ⟨W.heap.size + 1, 0, none⟩ = some (.string ⟨#[77, 83, 71]⟩) := h3.cell 0 rfl
            have he1 : World.cell? _ ⟨W.heap.size + 1, 1, none⟩ = some (.string ⟨b.toArray⟩) := h3.cell 1 rfl
            have he2 : World.cell? _ ⟨W.heap.size + 1, 2, none⟩ = some (.string ⟨c.toArray⟩) := h3.cell 2 rfl
            have he3 : World.cell? _ ⟨W.heap.size + 1, 3, none⟩ = some (.string ⟨d.toArray⟩) := h3.cell 3 rfl
            have he4 : World.cell? _ ⟨W.heap.size + 1, 4, none⟩ = some (.string ⟨f.toArray⟩) := h3.cell 4 rfl
            go_wp2_with fail
            refine (R2.out _ (hG.st h3) (hE.st h3)).mono ?_
            rintro e w4 hq
            have h4 := h3.makes hq
            obtain ⟨rfl, -⟩ := hq
            clear hc0 hc1 hc2 hc3 hf0 hf1 hf2 hf3 he0 he1 he2 he3 he4
            have hc0 := h4.swap.cell 0 rfl
            have hc1 := h4.swap.cell 1 rfl
            have hc2 := h4.swap.cell 2 rfl
            have hc3 := h4.swap.cell 3 rfl
            have hf0 := h4.swap.free 0
            have hf1 := h4.swap.free 1
            have hf2 := h4.swap.free 2
            have hf3 := h4.swap.free 3
            have he0 : World.cell? _ ⟨W.heap.size + 1, 0, none⟩ = some (.string ⟨#[77, 83, 71]⟩) := h4.cell 0 rfl
            have he1 : World.cell? _ ⟨W.heap.size + 1, 1, none⟩ = some (.string ⟨b.toArray⟩) := h4.cell 1 rfl
            have he2 : World.cell? _ ⟨W.heap.size + 1, 2, none⟩ = some (.string ⟨c.toArray⟩) := h4.cell 2 rfl
            have he3 : World.cell? _ ⟨W.heap.size + 1, 3, none⟩ = some (.string ⟨d.toArray⟩) := h4.cell 3 rfl
            have he4 : World.cell? _ ⟨W.heap.size + 1, 4, none⟩ = some (.string ⟨f.toArray⟩) := h4.cell 4 rfl
            go_wp2_with fail
            refine wp_region_canon [0, 1, 2, 3, 4, 5, 6, 7, 8, 9, 10] (by kernel_rfl) (by kernel_rfl) ?_
            simp only [pickOps, nthOp]
            have h5 := h4.drew
            go_wp2_with fail
            try simp only [Only]
            try go_wp2_with fail
            refine bodyPost_ret (v := .tuple #[delA b m n f, .bool true]) (by simp [results, Tryz.results29, go_sem, hc0, hc1, hc2, hc3]) rfl ⟨by rw [← HQ.out, HP.out]; rfl, ?_⟩
            exact ((((h5.swap.setCell 0 _).setCell 1 _).setCell 2 _).setCell 3 _).below
    have HP : Hid (hearW s = none) := Lib.hid (by rw [HH.out, if_neg (fun h => ha h.1)])
    have hab : (a == [77, 83, 71]) = false := by simpa using ha
    clear ha
    go_enter Tryz.func29, Tryz.ntmps29
    go_wp2_with fail
    refine (HC.out _ (hG.st h1)).mono ?_
    rintro e w' ⟨cp, cs, rfl, rfl, hcs⟩
    obtain ⟨rfl, rfl⟩ := hcs rfl
    clear hcs
    have h2 := h1.alloc (.cells (strsV [a, b, c, d, f]).toArray 9 (0, 0))
    rw [alloc_size] at h2
    have hc0 := h2.swap.cell 0 rfl
    have hc1 := h2.swap.cell 1 rfl
    have hc2 := h2.swap.cell 2 rfl
    have hc3 := h2.swap.cell 3 rfl
    have hf0 := h2.swap.free 0
    have hf1 := h2.swap.free 1
    have hf2 := h2.swap.free 2
    have hf3 := h2.swap.free 3
    have he0 : World.cell? _ ⟨W.heap.size + 1, 0, none⟩ = some (.string ⟨a.toArray⟩) := h2.cell 0 rfl
    have he1 : World.cell? _ ⟨W.heap.size + 1, 1, none⟩ = some (.string ⟨b.toArray⟩) := h2.cell 1 rfl
    have he2 : World.cell? _ ⟨W.heap.size + 1, 2, none⟩ = some (.string ⟨c.toArray⟩) := h2.cell 2 rfl
    have he3 : World.cell? _ ⟨W.heap.size + 1, 3, none⟩ = some (.string ⟨d.toArray⟩) := h2.cell 3 rfl
    have he4 : World.cell? _ ⟨W.heap.size + 1, 4, none⟩ = some (.string ⟨f.toArray⟩) := h2.cell 4 rfl
    go_wp2
    refine bodyPost_ret (v := .tuple #[delA [] 0 0 [], .bool false]) (by simp [results, Tryz.results29, go_sem, hc0, hc1, hc2, hc3]) rfl ⟨by rw [← HQ.out, HP.out]; rfl, ?_⟩
    first | exact ((((h2.swap.setCell 0 _).setCell 1 _).setCell 2 _).setCell 3 _).below | exact h2.below

end Go.Proofs.YtdobgebdlbckoaaGreatDoor.WdH
