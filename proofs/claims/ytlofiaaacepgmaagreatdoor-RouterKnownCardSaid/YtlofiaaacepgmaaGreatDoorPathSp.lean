import Derived.Test.YtlofiaaacepgmaaGreatDoorPathS
namespace Go.Proofs.YtlofiaaacepgmaaGreatDoor.PathSp
open Go Go.RowKit Go.Proofs Go.Proofs.YtlofiaaacepgmaaGreatDoor.Sep Go.Proofs.YtlofiaaacepgmaaGreatDoor.Reg Go.Proofs.YtlofiaaacepgmaaGreatDoor.Frame Go.Proofs.YtlofiaaacepgmaaGreatDoor.PathP Go.Proofs.YtlofiaaacepgmaaGreatDoor.PathQ Go.Proofs.YtlofiaaacepgmaaGreatDoor.PathW Go.Proofs.YtlofiaaacepgmaaGreatDoor.PathL Go.Proofs.YtlofiaaacepgmaaGreatDoor.PathM Go.Proofs.YtlofiaaacepgmaaGreatDoor.PathT Go.Proofs.YtlofiaaacepgmaaGreatDoor.PathS

def strsV (l : List (List UInt8)) : List Value := l.map fun x => Value.string ⟨x.toArray⟩
theorem strsV_length (l : List (List UInt8)) : (strsV l).length = l.length := by simp [strsV]
theorem strsV_get (l : List (List UInt8)) (i : Nat) : (strsV l)[i]? = (l[i]?).map fun x => Value.string ⟨x.toArray⟩ := by simp [strsV]
theorem strsV_append (l k : List (List UInt8)) : strsV (l ++ k) = strsV l ++ strsV k := by simp [strsV]
theorem strsV_set (l : List (List UInt8)) (i : Nat) (x : List UInt8) : (strsV l).set i (.string ⟨x.toArray⟩) = strsV (l.set i x) := by simp [strsV, List.map_set]

/-- What a split hands back. -/
def SegPost (w : World) (r : Option (List (List UInt8))) (e : Ending) (w' : World) : Prop :=
  match r with
  | some l => ∃ a c, e = .returned (.tuple #[.slice a l.length c, .bool true]) ∧ St w w' (star (Row 9 1 (.slice a l.length c) l.length (strsV l)) emp)
  | none => e = .returned (.tuple #[.slice none 0 0, .bool false]) ∧ Below w.heap.size w w'
theorem SegPost.no {w w' : World} {r : Option (List (List UInt8))} {e : Ending} (h : r = none) (he : e = .returned (.tuple #[.slice none 0 0, .bool false])) (hb : Below w.heap.size w w') : SegPost w r e w' := by subst h; exact ⟨he, hb⟩
theorem SegPost.yes {w w' : World} {r : Option (List (List UInt8))} {e : Ending} {l : List (List UInt8)} {a : Option Addr} {c n : Nat} (h : r = some l) (hn : l.length = n) (he : e = .returned (.tuple #[.slice a n c, .bool true])) (hb : St w w' (star (Row 9 1 (.slice a n c) n (strsV l)) emp)) : SegPost w r e w' := by subst h; subst hn; exact ⟨a, c, he, hb⟩

theorem part_wfp : ∀ (n : Nat) (r : List UInt8), r.length ≤ n → wfp r = true → ∀ x ∈ parts r, wfp x = true
  | _, [], _, _, x, hx => by simp [parts] at hx; subst hx; rfl
  | 0, _ :: _, h, _, _, _ => by simp at h
  | n + 1, c :: r, hn, hw, x, hx => by
    by_cases h47 : c = 47
    · subst h47
      rw [parts_slash] at hx
      rw [wfp_cons _ _ (by decide)] at hw
      rcases List.mem_cons.1 hx with rfl | hx
      · rfl
      · exact part_wfp n r (by simpa using hn) hw x hx
    · by_cases h37 : c = 37
      · subst h37
        obtain ⟨a, b, q, rfl, ha, hb, hq⟩ := wfp_pct r hw
        obtain ⟨y, ys, hy⟩ := parts_ne q
        have hpp : parts (37 :: a :: b :: q) = (37 :: a :: b :: y) :: ys := parts_cons _ _ _ _ (by decide) (parts_cons _ _ _ _ (hex_ne a ha).2.1 (parts_cons _ _ _ _ (hex_ne b hb).2.1 hy))
        rw [hpp] at hx
        have ih := part_wfp n q (by simp at hn; omega) hq
        rw [hy] at ih
        rcases List.mem_cons.1 hx with rfl | hx
        · have := ih y (by simp)
          simp [wfp, ha, hb, this]
        · exact ih x (by simp [hx])
      · rw [wfp_cons _ _ h37] at hw
        obtain ⟨y, ys, hy⟩ := parts_ne r
        rw [parts_cons _ _ _ _ h47 hy] at hx
        have ih := part_wfp n r (by simpa using hn) hw
        rw [hy] at ih
        rcases List.mem_cons.1 hx with rfl | hx
        · rw [wfp_cons _ _ h37]; exact ih y (by simp)
        · exact ih x (by simp [hx])
theorem part_len (r : List UInt8) : ∀ x ∈ parts r, x.length ≤ r.length := by
  have : ∀ (l : List (List UInt8)), ∀ x ∈ l, x.length + 1 ≤ tot l := by
    intro l
    induction l with
    | nil => intro x hx; cases hx
    | cons y ys ih =>
      intro x hx
      rcases List.mem_cons.1 hx with rfl | hx
      · simp only [tot]; omega
      · have := ih x hx; simp only [tot]; omega
  intro x hx
  have h1 := this _ x hx
  rw [parts_tot] at h1
  omega

theorem splitB_strs (s : List UInt8) : ((Lib.splitB ⟨#[47]⟩ 0 (Lib.countB ⟨s.toArray⟩ ⟨#[47]⟩) ⟨s.toArray⟩).map Value.string) = strsV (parts s) := by
  have h := Lib.splitB_data ⟨#[47]⟩ 0 (Lib.countB ⟨s.toArray⟩ ⟨#[47]⟩) ⟨s.toArray⟩
  have h2 : Lib.splitK [47] 0 (Lib.countB ⟨s.toArray⟩ ⟨#[47]⟩) s = parts s := split_eq s
  have h3 : (Lib.splitB ⟨#[47]⟩ 0 (Lib.countB ⟨s.toArray⟩ ⟨#[47]⟩) ⟨s.toArray⟩).map (·.data.toList) = parts s := h.trans h2
  rw [strsV, ← h3, List.map_map]
  refine List.map_congr_left fun x _ => ?_
  cases x
  simp
theorem Split_any (s : List UInt8) (w : World) (hs : s.length ≤ 1000000) (hm : MaxLen w) : Calls Tryz.prog 28 #[.string ⟨s.toArray⟩, .string ⟨#[47]⟩] w fun e w' =>
    e = .returned (.slice (some ⟨w.heap.size, 0, none⟩) (parts s).length (parts s).length) ∧ w' = w.alloc (.cells (strsV (parts s)).toArray 9 (0, 0)) := by
  obtain ⟨m, hm⟩ := hm
  refine (Tryz.strings_Split ⟨s.toArray⟩ ⟨#[47]⟩ m w (by simp [ByteArray.size]; omega) hm (by decide)).mono ?_
  rintro e w' ⟨rfl, rfl⟩
  have h1 : Lib.countB ⟨s.toArray⟩ ⟨#[47]⟩ + 1 = (parts s).length := count_eq (s.length + 1) s (by omega)
  rw [h1]
  rw [splitB_strs]
  exact ⟨rfl, rfl⟩

/-- The first i parts turned. -/
def cur (raw : List (List UInt8)) (i : Nat) : List (List UInt8) := (raw.map unpct).take i ++ raw.drop i
theorem cur_get (raw : List (List UInt8)) (i : Nat) (x : List UInt8) (h : raw[i]? = some x) : (cur raw i)[i]? = some x := by
  have hi := (List.getElem?_eq_some_iff.1 h).1
  unfold cur
  rw [List.getElem?_append_right (by simp; omega), List.getElem?_drop]
  simp only [List.length_take, List.length_map]
  rw [show i + (i - min i raw.length) = i from by omega]
  exact h
theorem cur_set (raw : List (List UInt8)) (i : Nat) (x : List UInt8) (h : raw[i]? = some x) : (cur raw i).set i (unpct x) = cur raw (i + 1) := by
  have hi := (List.getElem?_eq_some_iff.1 h).1
  have hd : raw.drop i = x :: raw.drop (i + 1) := by
    rw [List.drop_eq_getElem_cons hi]
    congr 1
    exact Option.some.inj ((List.getElem?_eq_getElem hi).symm.trans h)
  have ht : (raw.map unpct).take (i + 1) = (raw.map unpct).take i ++ [unpct x] := by
    rw [List.take_add_one, List.getElem?_map, h]; rfl
  unfold cur
  rw [List.set_append_right _ _ (by simp; omega), hd, ht]
  simp only [List.length_take, List.length_map]
  rw [show i - min i raw.length = 0 from by omega]
  simp
theorem cur_length (raw : List (List UInt8)) (i : Nat) (h : i ≤ raw.length) : (cur raw i).length = raw.length := by simp [cur]; omega
theorem toArray_set (l : List Value) (i : Nat) (v : Value) : l.toArray.setIfInBounds i v = (l.set i v).toArray := by simp

set_option maxRecDepth 100000 in
set_option maxHeartbeats 4000000 in
theorem pSplit_any (s : List UInt8) (w : World) (hs : s.length ≤ 1000000) (hm : MaxLen w) : Calls Tryz.prog 17 #[.string ⟨s.toArray⟩] w (SegPost w (segs s)) := by
  have h0 := St.start w
  have HT := Lib.hid (Target_any s w hs hm)
  by_cases hp : isPath s = true
  · obtain ⟨q, hq⟩ := (isPath_iff s).1 hp
    obtain ⟨hpl, hhd, h512, _⟩ := target_wfp hq
    rw [targV_some hq] at HT
    have hwf := wfp_drop hhd (plainB_wfp _ _ (Nat.le_refl _) hpl)
    have hsg : segs s = if ((parts (s.drop 1)).map unpct).all may then some ((parts (s.drop 1)).map unpct) else none := by unfold segs; rw [if_pos hp]
    have hpos : 1 ≤ s.length := by cases s with | nil => cases hhd | cons => simp
    have hstr := run_str_l (P := Tryz.prog) 9 Tryz.underlying9 s 1 1 rfl hpos
    have hw1 := part_wfp _ _ (Nat.le_refl _) hwf
    have hl1 := part_len (s.drop 1)
    have hpt := parts_tot (s.drop 1)
    have hne : 0 < (parts (s.drop 1)).length := by obtain ⟨x, xs, hx⟩ := parts_ne (s.drop 1); rw [hx]; simp
    have hnb : (parts (s.drop 1)).length ≤ 1000001 := by rw [parts_count]; have := List.count_le_length (a := (47 : UInt8)) (l := s.drop 1); simp at this ⊢; omega
    have hSp : Hid (∀ w, MaxLen w → _) := Lib.hid fun w hm => Split_any (s.drop 1) w (by simp; omega) hm
    have hl2 : ∀ x ∈ parts (s.drop 1), x.length ≤ 1000000 := by
      intro x hx; have := hl1 x hx; simp at this; omega
    generalize parts (s.drop 1) = raw at *
    generalize s.drop 1 = s1 at *
    have HW1 := Lib.hid hw1
    have HL2 := Lib.hid hl2
    have HSG := Lib.hid hsg
    clear hw1 hl1 hl2 hpt hsg hp hpl hhd hwf hq
    go_enter Tryz.func17, Tryz.ntmps17
    go_wp2_with fail
    refine HT.out.mono ?_
    rintro e w1 hq
    have h1 := h0.makes hq
    obtain ⟨rfl, -⟩ := hq
    go_wp2_with fail
    refine (hSp.out _ (hm.st h1)).mono ?_
    rintro e w2 ⟨rfl, rfl⟩
    have h2 := h1.alloc (.cells (strsV raw).toArray 9 (0, 0))
    obtain ⟨b, hb⟩ : ∃ b, w1.heap.size = b := ⟨_, rfl⟩
    go_wp2_with fail
    rw [hb] at h2
    obtain ⟨n, hn⟩ : ∃ n, raw.length = n := ⟨_, rfl⟩
    rw [hn] at hnb hne ⊢
    have HN := Lib.hid hn
    clear hn hb
    go_loopw [27] (fun iv wr => ∃ i : Nat, i ≤ n ∧ iv = .int .i64 i ∧ ((raw.map unpct).take i).all may = true ∧ St w wr (star (pt b (.cells (strsV (cur raw i)).toArray 9 (0, 0))) emp)) (fun iv _ => n - (intOf iv).toNat)
    case atStart => exact ⟨0, by omega, rfl, rfl, by simpa [cur] using h2⟩
    case round =>
      obtain ⟨i, hi, rfl, hall, hS⟩ := hrel
      have HA := Lib.hid hall
      clear hall
      by_cases hi2 : i < n
      · obtain ⟨x, hx⟩ : ∃ x, raw[i]? = some x := ⟨_, List.getElem?_eq_getElem (by rw [HN.out]; exact hi2)⟩
        have HCX : Hid ((strsV (cur raw i)).toArray[i]? = some (.string ⟨x.toArray⟩)) := Lib.hid (by
          have : (strsV (cur raw i))[i]? = some (.string ⟨x.toArray⟩) := by rw [strsV_get, cur_get _ _ _ hx]; rfl
          simpa using this)
        have hc0 := hS.cell i (v := .string ⟨x.toArray⟩) HCX.out
        have hf0 := hS.free i
        have hxw := HW1.out x (List.mem_of_getElem? hx)
        have hxl := HL2.out x (List.mem_of_getElem? hx)
        have hul := unpct_len _ x (Nat.le_refl _)
        have HPL := Lib.hid fun w => pplain_any x w hxl hxw
        have HMY := Lib.hid fun w => may_any (unpct x) w (by omega)
        have HSet : Hid ((strsV (cur raw i)).toArray.setIfInBounds i (.string ⟨(unpct x).toArray⟩) = (strsV (cur raw (i + 1))).toArray) := Lib.hid (by rw [toArray_set, strsV_set, cur_set _ _ _ hx])
        have HTk : Hid ((raw.map unpct).take (i + 1) = (raw.map unpct).take i ++ [unpct x]) := Lib.hid (by rw [List.take_add_one, List.getElem?_map, hx]; rfl)
        have HMem : Hid (unpct x ∈ raw.map unpct) := Lib.hid (List.mem_map.2 ⟨x, List.mem_of_getElem? hx, rfl⟩)
        generalize unpct x = y at *
        clear hx hxw
        go_wp2_with fail
        refine (HPL.out _).mono ?_
        rintro e w3 hq
        have h3 := hS.makes hq
        obtain ⟨rfl, -⟩ := hq
        have hf3 := h3.free i
        have hc3 := h3.cell i (v := .string ⟨x.toArray⟩) HCX.out
        have h4 := h3.setCell i (.string ⟨y.toArray⟩)
        rw [HSet.out] at h4
        have hc4 := h4.cell i (v := .string ⟨y.toArray⟩) (by
          rw [← HSet.out]
          have hlen : i < (strsV (cur raw i)).length := by rw [strsV_length, cur_length _ _ (by rw [HN.out]; omega), HN.out]; exact hi2
          simp [hlen])
        cases hmy : may y
        · rw [hmy] at HMY
          have HF : Hid (segs s = none) := Lib.hid (by
            rw [HSG.out, if_neg]
            intro h
            have := List.all_eq_true.1 h y HMem.out
            rw [hmy] at this; cases this)
          clear hmy
          go_wp2_with fail
          refine (HMY.out _).mono ?_
          rintro e w5 hq
          have h5 := h4.makes hq
          obtain ⟨rfl, -⟩ := hq
          go_wp2
          go_ret2
          exact SegPost.no HF.out rfl h5.below
        · rw [hmy] at HMY
          have HAl : Hid (((raw.map unpct).take (i + 1)).all may = true) := Lib.hid (by rw [HTk.out, List.all_append, HA.out]; simp [hmy])
          clear hmy
          go_wp2_with fail
          refine (HMY.out _).mono ?_
          rintro e w5 hq
          have h5 := h4.makes hq
          obtain ⟨rfl, -⟩ := hq
          go_wp2
          refine ⟨⟨i + 1, by omega, by go_num, HAl.out, h5⟩, by simp [intOf]; omega⟩
      · obtain rfl : i = n := by omega
        have hcr : cur raw i = raw.map unpct := by
          unfold cur
          rw [List.take_of_length_le (by simp [HN.out]), List.drop_of_length_le (by simp [HN.out])]; simp
        have HF : Hid (segs s = some (raw.map unpct)) := Lib.hid (by
          have h := HA.out
          rw [List.take_of_length_le (by simp [HN.out])] at h
          rw [HSG.out, if_pos h])
        rw [hcr] at hS
        have hR := St.mkRow (xs := strsV (raw.map unpct)) (size := 1) (n := i) (cap := i) hS (Nat.le_refl _) (by unfold maxLen; omega) (by simp [strsV, HN.out]) (by rw [Nat.mul_one]; exact List.take_of_length_le (by simp [strsV, HN.out]))
        have HL : Hid ((raw.map unpct).length = i) := Lib.hid (by simp [HN.out])
        clear hcr
        go_wp2
        go_ret2
        exact SegPost.yes HF.out HL.out rfl hR
  · have HF : Hid (segs s = none) := Lib.hid (by unfold segs; rw [if_neg hp])
    cases hT : target s with
    | none =>
      rw [targV_none hT] at HT
      clear hT hp
      go_enter Tryz.func17, Tryz.ntmps17
      go_wp2_with fail
      refine HT.out.mono ?_
      rintro e w1 hq
      have h1 := h0.makes hq
      obtain ⟨rfl, -⟩ := hq
      go_wp2
      go_ret2
      exact SegPost.no HF.out rfl h1.below
    | some pq =>
      obtain ⟨p, q⟩ := pq
      rw [targV_some hT] at HT
      have hne : ¬ p = s := by rintro rfl; exact hp ((isPath_iff _).2 ⟨q, hT⟩)
      have hneb : (p == s) = false := by simpa using hne
      clear hT hp hne
      go_enter Tryz.func17, Tryz.ntmps17
      go_wp2_with fail
      refine HT.out.mono ?_
      rintro e w1 hq
      have h1 := h0.makes hq
      obtain ⟨rfl, -⟩ := hq
      go_wp2
      go_ret2
      exact SegPost.no HF.out rfl h1.below

end Go.Proofs.YtlofiaaacepgmaaGreatDoor.PathSp
