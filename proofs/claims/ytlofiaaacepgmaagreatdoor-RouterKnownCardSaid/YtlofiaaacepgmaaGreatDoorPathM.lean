import Derived.Test.YtlofiaaacepgmaaGreatDoorPathW
import Derived.Test.YtlofiaaacepgmaaGreatDoorPathL
import Derived.Lib.RuneBytes
import Derived.Deep.QuietTactic
import Derived.BigQuiet
namespace Go.Proofs.YtlofiaaacepgmaaGreatDoor.PathM
open Go Go.RowKit Go.Proofs Go.Proofs.YtlofiaaacepgmaaGreatDoor.Sep Go.Proofs.YtlofiaaacepgmaaGreatDoor.Reg Go.Proofs.YtlofiaaacepgmaaGreatDoor.Frame Go.Proofs.YtlofiaaacepgmaaGreatDoor.PathP Go.Proofs.YtlofiaaacepgmaaGreatDoor.PathQ Go.Proofs.YtlofiaaacepgmaaGreatDoor.PathW

abbrev mchars : ByteArray := ⟨#[47, 0]⟩

theorem dec_mchars : ∀ pos, pos < 2 → (Utf8.decode mchars pos).2 = 1 ∧ (Utf8.decode mchars pos).1 < 128 := by decide +kernel
set_option maxRecDepth 100000 in
set_option maxHeartbeats 1600000 in
theorem IndexRune_err (w : World) : Calls Tryz.prog 89 #[.string mchars, .int .i32 65533] w (Makes w (.int .i64 (-1))) := by
  go_enter Tryz.func89, Tryz.ntmps89
  have h0 := (St.start w).iter mchars
  go_wp2_with fail
  generalize hk : w.heap.size = k at *
  go_loopw [] (fun wr => ∃ pos : Nat, pos ≤ 2 ∧ St w wr (star (pt k (.stringIter mchars pos)) emp)) (fun wr => 2 - wr.iterPos k)
  case atStart => exact ⟨0, by omega, h0⟩
  case round =>
    obtain ⟨pos, hp, hS⟩ := hrel
    have hit := hS.blk
    by_cases hp2 : pos < 2
    · have hd := dec_mchars pos hp2
      have hnx : ∀ ty, (Instr.next (.pointer (some ⟨k, 0, none⟩)) true ty).run Tryz.prog wr = _ := fun ty => Lib.run_next_any_at wr k mchars pos ty hit hp2
      have h1 := St.iterAt hS (pos + (Utf8.decode mchars pos).2)
      rw [hd.1] at hnx h1
      have hne : (((Utf8.decode mchars pos).1 : Int) == 65533) = false := by simp; omega
      have hd2 := hd.2
      generalize (Utf8.decode mchars pos).1 = c at *
      clear hd
      go_wp2_with fail
      go_roundw
      case rel => exact ⟨pos + 1, by omega, h1⟩
      case measure =>
        simp only [World.iterPos, h1.blk, hit]
        omega
    · have hnx : ∀ ty, (Instr.next (.pointer (some ⟨k, 0, none⟩)) true ty).run Tryz.prog wr = _ := fun ty => Lib.run_next_end_at wr k mchars pos ty hit (by exact hp2)
      have hb := hS.below
      go_wp2
      go_ret
      exact ⟨rfl, hb⟩

set_option maxRecDepth 100000 in
set_option maxHeartbeats 1600000 in
theorem IndexRune_bad (c : Int) (w : World) (hc : 128 ≤ c) (hc2 : c ≤ 2147483647) (hne : c ≠ 65533) (hv : Lib.validRune c = false) : Calls Tryz.prog 89 #[.string mchars, .int .i32 c] w (Makes w (.int .i64 (-1))) := by
  have hne' : (c == 65533) = false := by simpa using hne
  clear hne
  go_enter Tryz.func89, Tryz.ntmps89
  go_wp2_with fail
  refine (Tryz.utf8_ValidRune _ _).mono ?_
  rintro e w' ⟨rfl, rfl⟩
  go_wp2
  go_ret
  exact ⟨rfl, Below.refl _ _⟩

set_option maxRecDepth 100000 in
set_option maxHeartbeats 1600000 in
theorem IndexRune_high (c : Int) (w : World) (hc : 128 ≤ c) (hc2 : c ≤ 2147483647) (hne : c ≠ 65533) (hv : Lib.validRune c = true) : Calls Tryz.prog 89 #[.string mchars, .int .i32 c] w (Makes w (.int .i64 (-1))) := by
  have hne' : (c == 65533) = false := by simpa using hne
  clear hne
  go_enter Tryz.func89, Tryz.ntmps89
  go_wp2_with fail
  refine (Tryz.utf8_ValidRune _ _).mono ?_
  rintro e w' ⟨rfl, rfl⟩
  have hv' : Utf8.valid c = true := by rw [validRune_eq]; exact hv
  obtain ⟨h2, h4, hl⟩ := encode_facts c hv' hc
  have hcv := run_convert_int_string (P := Tryz.prog) (src := 21) (dst := 9) (k := .i32) (n := c) (hs := by kernel_rfl) (hd := Tryz.underlying9)
  generalize Utf8.encode c = bs at *
  have hv2 : (!Lib.validRune c) = false := by rw [hv]; rfl
  clear hv'
  clear hv hc2
  rcases (show bs.size = 2 ∨ bs.size = 3 ∨ bs.size = 4 by omega) with hsz | hsz | hsz
  · have hlt : 1 < bs.size := by omega
    have hu : 128 ≤ (bs[1]'hlt).toNat := by simpa [hsz] using hl (by omega)
    have hne1 : (((mchars[1]'(by decide)).toNat : Int) != ((bs[1]'hlt).toNat : Int)) = true := by
      have : (mchars[1]'(by decide)).toNat < 128 := by decide
      simp; omega
    have hbI : (bs.size : Int) - 1 = 1 := by omega
    have hno : Lib.indexByte ByteArray.empty.data.toList (((bs[1]'hlt).toNat : Int)).toNat.toUInt8 = -1 := rfl
    clear hl hsz hu
    go_wp2_with fail
    go_step3
    go_wp2_with fail
    refine wp_loop_rounds 1 ?_
    rw [rounds_succ]
    go_wp2_with fail
    go_step3
    go_wp2_with fail
    refine wp_region_canon [0, 1, 2, 3, 4, 5, 6] (by kernel_rfl) (by kernel_rfl) ?_
    simp only [pickOps, nthOp]
    go_wp2_with fail
    simp only [Only]
    go_wp2_with fail
    refine wp_region_canon [0, 1, 4, 5, 6, 2, 3, 7, 8] (by kernel_rfl) (by kernel_rfl) ?_
    simp only [pickOps, nthOp]
    go_wp2_with fail
    refine (Tryz.strings_IndexByte _ _ _).mono ?_
    rintro e w' ⟨rfl, rfl⟩
    rw [hno]
    go_wp2_with fail
    simp only [Only]
    go_wp2_with fail
    rw [Exit.noGoto_ret]
    go_wp2_with fail
    rw [Exit.noGoto_ret]
    go_ret
    exact ⟨rfl, (St.drewN (St.start w') 2).below⟩
  · have hbI : (bs.size : Int) - 1 = 2 := by omega
    clear hl hsz
    go_wp2_with fail
    go_step3
    go_wp2_with fail
    refine wp_loop_rounds 1 ?_
    rw [rounds_succ]
    go_wp2_with fail
    rw [Exit.noGoto_ret]
    go_ret
    exact ⟨rfl, Below.refl _ _⟩
  · have hbI : (bs.size : Int) - 1 = 3 := by omega
    clear hl hsz
    go_wp2_with fail
    go_step3
    go_wp2_with fail
    refine wp_loop_rounds 1 ?_
    rw [rounds_succ]
    go_wp2_with fail
    rw [Exit.noGoto_ret]
    go_ret
    exact ⟨rfl, Below.refl _ _⟩

/-- strings.IndexRune of "/\x00": below 0 at whatever is none of the two. -/
def mI (c : Int) : Int := if c = 47 then 0 else if c = 0 then 1 else -1
theorem mI_ascii : ∀ k : Fin 128, Lib.indexByte mchars.data.toList (UInt8.ofNat k) = mI (k : Nat) := by decide +kernel
theorem IndexRune_m (c : Int) (w : World) (h0 : 0 ≤ c) (h1 : c ≤ 2147483647) : Calls Tryz.prog 89 #[.string mchars, .int .i32 c] w (Makes w (.int .i64 (mI c))) := by
  by_cases hc : c < 128
  · refine (Tryz.strings_IndexRune_ascii mchars c w h0 hc).mono ?_
    rintro e w' ⟨rfl, rfl⟩
    have := mI_ascii ⟨c.toNat, by omega⟩
    refine (Makes.mk0 _ _).eq (int_eq ?_)
    have hcc : ((c.toNat : Nat) : Int) = c := by omega
    simp only [hcc] at this
    exact this
  · have hv : mI c = -1 := by unfold mI; rw [if_neg (by omega), if_neg (by omega)]
    rw [hv]
    by_cases he : c = 65533
    · subst he; exact IndexRune_err w
    · cases hb : Lib.validRune c
      · exact IndexRune_bad c w (by omega) h1 he hb
      · exact IndexRune_high c w (by omega) h1 he hb

/-- Has a text one of the two? -/
def has2 (s : List UInt8) : Bool := s.contains 47 || s.contains 0
def APost (w : World) (s : List UInt8) (e : Ending) (w' : World) : Prop := ∃ n : Int, e = .returned (.int .i64 n) ∧ -1 ≤ n ∧ n ≤ s.length ∧ ((0 ≤ n) ↔ has2 s = true) ∧ Below w.heap.size w w'
theorem hv55 (w : World) : (zeroValue 135).run Tryz.prog w = .ok (.agg (Array.replicate 256 (.bool false))) w := by kernel_rfl
theorem indexAny_has : ∀ (s : List UInt8), (0 ≤ Lib.indexAny s [47, 0] ↔ has2 s = true) ∧ -1 ≤ Lib.indexAny s [47, 0] ∧ Lib.indexAny s [47, 0] ≤ s.length
  | [] => by simp [Lib.indexAny, has2]
  | b :: l => by
    obtain ⟨h1, h2, h3⟩ := indexAny_has l
    unfold Lib.indexAny
    by_cases hb : ([47, 0] : List UInt8).contains b = true
    · rw [if_pos hb]
      refine ⟨⟨fun _ => ?_, fun _ => by omega⟩, by omega, by omega⟩
      simp at hb
      unfold has2
      rcases hb with rfl | rfl <;> simp
    · rw [if_neg hb]
      have hh : has2 (b :: l) = has2 l := by
        simp at hb
        have e1 : ((47 : UInt8) == b) = false := by simpa using fun e => hb.1 e.symm
        have e2 : ((0 : UInt8) == b) = false := by simpa using fun e => hb.2 e.symm
        unfold has2
        simp only [List.contains_cons, e1, e2, Bool.false_or]
      rw [hh, ← h1]
      by_cases h : Lib.indexAny l [47, 0] = -1
      · rw [h]; simp; omega
      · have : (Lib.indexAny l [47, 0] == -1) = false := by simpa using h
        rw [this]
        simp only [Bool.false_eq_true, if_false, List.length_cons]
        refine ⟨⟨fun _ => ?_, fun _ => ?_⟩, ?_, ?_⟩ <;> omega
theorem has2_drop (s : List UInt8) (i : Nat) (h : has2 s = false) : has2 (s.drop i) = false := by
  unfold has2 at *
  simp only [Bool.or_eq_false_iff] at *
  constructor
  · cases hc : (s.drop i).contains 47
    · rfl
    · have : (47 : UInt8) ∈ s.drop i := by simpa using hc
      have h2 := List.mem_of_mem_drop this
      have h3 : s.contains 47 = true := by simpa using h2
      rw [h3] at h; cases h.1
  · cases hc : (s.drop i).contains 0
    · rfl
    · have : (0 : UInt8) ∈ s.drop i := by simpa using hc
      have h2 := List.mem_of_mem_drop this
      have h3 : s.contains 0 = true := by simpa using h2
      rw [h3] at h; cases h.2

theorem dec_tail (s : ByteArray) (pos k : Nat) (hk : 1 ≤ k) (hk2 : k < (Utf8.decode s pos).2) : 128 ≤ (s.get! (pos + k)).toNat := by
  simp only [Utf8.decode] at hk2
  repeat' split at hk2
  all_goals simp only at hk2
  all_goals first
    | omega
    | (rename_i h1 h2
       have h3 : k = 1 ∨ k = 2 ∨ k = 3 := by omega
       simp only [Bool.and_eq_true, beq_iff_eq, decide_eq_true_eq] at h1
       rcases h3 with rfl | rfl | rfl <;> first | omega | (simp_all; omega))
theorem get!_eq (s : List UInt8) (i : Nat) (c : UInt8) (h : s[i]? = some c) : (ByteArray.mk s.toArray).get! i = c := by
  have hi := (List.getElem?_eq_some_iff.1 h).1
  have hsz : i < (ByteArray.mk s.toArray).size := by simpa [ByteArray.size] using hi
  have h2 := get_at ⟨s.toArray⟩ i hsz
  rw [Nat.add_zero] at h2
  rw [h2]
  have := get_byte s i hsz
  rw [h] at this
  exact (Option.some.inj this).symm

theorem useSet_any (n : Int) (w : World) : Calls Tryz.prog 90 #[.int .i64 n] w (Same w (.bool (decide (8 < n)))) := by
  go_enter Tryz.func90, Tryz.ntmps90
  go_wp2
  go_ret
  exact ⟨rfl, rfl⟩
set_option maxRecDepth 100000 in
set_option maxHeartbeats 1600000 in
theorem IndexAny_short (s : List UInt8) (w : World) (hs : s.length ≤ 8) : Calls Tryz.prog 69 #[.string ⟨s.toArray⟩, .string mchars] w (APost w s) := by
  have h0 := fun w : World => St.iter (St.start w) ⟨s.toArray⟩
  have hd8 : decide ((8 : Int) < (s.length : Int)) = false := by simp; omega
  go_enter Tryz.func69, Tryz.ntmps69
  go_wp2_with fail
  refine (useSet_any _ _).mono ?_
  rintro e w' ⟨rfl, rfl⟩
  rw [hd8]
  go_wp2_with fail
  have h0 := h0 w'
  obtain ⟨k, hk⟩ : ∃ k, w'.heap.size = k := ⟨_, rfl⟩
  rw [hk] at h0 ⊢
  clear hk
  go_loopw [] (fun wr => ∃ pos : Nat, (∀ a ∈ s.take pos, a ≠ 47 ∧ a ≠ 0) ∧ St w' wr (star (pt k (.stringIter ⟨s.toArray⟩ pos)) emp)) (fun wr => s.length - wr.iterPos k)
  case atStart => exact ⟨0, by simp, h0⟩
  case round =>
    obtain ⟨pos, hno, hS⟩ := hrel
    have hit := hS.blk
    have HN := Lib.hid hno
    clear hno hd8
    by_cases hp2 : pos < s.length
    · have hps : pos < (ByteArray.mk s.toArray).size := by simpa [ByteArray.size] using hp2
      have hgp := get_byte s pos hps
      have hnx : ∀ ty, (Instr.next (.pointer (some ⟨k, 0, none⟩)) true ty).run Tryz.prog wr = _ := fun ty => Lib.run_next_any_at wr k ⟨s.toArray⟩ pos ty hit hps
      have h1 := St.iterAt hS (pos + (Utf8.decode ⟨s.toArray⟩ pos).2)
      have hdl := decode_le ⟨s.toArray⟩ pos
      have HV := Lib.hid fun w => IndexRune_m ((Utf8.decode ⟨s.toArray⟩ pos).1 : Int) w (by omega) (by omega)
      generalize hc : (ByteArray.mk s.toArray)[pos]'hps = c at *
      by_cases hbad : c = 47 ∨ c = 0
      · have hd : Utf8.decode ⟨s.toArray⟩ pos = (c.toNat, 1) := by
          rw [decode_ascii _ pos hps (by rw [hc]; rcases hbad with rfl | rfl <;> decide), hc]
        have hm : ∃ n : Nat, mI ((c.toNat : Nat) : Int) = n := by
          rcases hbad with rfl | rfl
          · exact ⟨0, rfl⟩
          · exact ⟨1, rfl⟩
        obtain ⟨n, hm⟩ := hm
        have hh : has2 s = true := by
          have hmem := List.mem_of_getElem? hgp
          unfold has2
          rcases hbad with rfl | rfl
          · simp [hmem]
          · simp [hmem]
        rw [hd] at HV hnx h1
        simp only [hm] at HV
        have HH := Lib.hid hh
        clear hd hm hh hbad hc hgp
        go_wp2_with fail
        refine (HV.out _).mono ?_
        rintro e w2 hq
        have h3 := St.makes h1 hq
        obtain ⟨rfl, -⟩ := hq
        go_wp2
        go_ret
        exact ⟨pos, rfl, by omega, by omega, ⟨fun _ => HH.out, fun _ => by omega⟩, h3.below⟩
      · have hm : mI ((Utf8.decode ⟨s.toArray⟩ pos).1 : Int) = -1 := by
          by_cases ha : c.toNat < 128
          · rw [decode_ascii _ pos hps (by rw [hc]; exact ha), hc]
            have h47 : c.toNat ≠ 47 := fun h => hbad (.inl (UInt8.toNat_inj.1 h))
            have h00 : c.toNat ≠ 0 := fun h => hbad (.inr (UInt8.toNat_inj.1 h))
            unfold mI
            rw [if_neg (by simp only; omega), if_neg (by simp only; omega)]
          · have hd := (decode_high _ pos hps (by rw [hc]; omega)).1
            unfold mI
            rw [if_neg (by omega), if_neg (by omega)]
        have hal : ∀ a ∈ s.take (pos + (Utf8.decode ⟨s.toArray⟩ pos).2), a ≠ 47 ∧ a ≠ 0 := by
          intro a ha
          obtain ⟨i, hi⟩ := List.getElem?_of_mem ha
          rw [List.getElem?_take] at hi
          split at hi
          · rename_i hil
            by_cases h1 : i < pos
            · exact HN.out a (List.mem_of_getElem? (i := i) (by rw [List.getElem?_take, if_pos h1]; exact hi))
            · by_cases h2 : i = pos
              · subst h2
                rw [hgp] at hi
                cases hi
                exact ⟨fun h => hbad (.inl h), fun h => hbad (.inr h)⟩
              · have h3 := dec_tail ⟨s.toArray⟩ pos (i - pos) (by omega) (by omega)
                rw [show pos + (i - pos) = i from by omega, get!_eq s i a hi] at h3
                constructor <;> (rintro rfl; exact absurd h3 (by decide))
          · cases hi
        have hwd : 1 ≤ (Utf8.decode ⟨s.toArray⟩ pos).2 := by
          by_cases ha : c.toNat < 128
          · rw [decode_ascii _ pos hps (by rw [hc]; exact ha)]; exact Nat.le_refl _
          · exact (decode_high _ pos hps (by rw [hc]; omega)).2
        rw [hm] at HV
        have HAL := Lib.hid hal
        clear hm hal hbad hc hgp
        generalize (Utf8.decode ⟨s.toArray⟩ pos).1 = r at *
        generalize (Utf8.decode ⟨s.toArray⟩ pos).2 = wd at *
        go_wp2_with fail
        refine (HV.out _).mono ?_
        rintro e w2 hq
        have h3 := St.makes h1 hq
        obtain ⟨rfl, -⟩ := hq
        go_wp2
        go_roundw
        case rel =>
          exact ⟨pos + wd, HAL.out, h3⟩
        case measure => simp only [World.iterPos, h3.blk, hit]; omega
    · have hnx : ∀ ty, (Instr.next (.pointer (some ⟨k, 0, none⟩)) true ty).run Tryz.prog wr = _ := fun ty => Lib.run_next_end_at wr k ⟨s.toArray⟩ pos ty hit (by simpa [ByteArray.size] using hp2)
      have hh : has2 s = false := by
        have h := HN.out
        rw [List.take_of_length_le (by omega)] at h
        unfold has2
        simp only [Bool.or_eq_false_iff]
        constructor
        · cases hcn : s.contains 47
          · rfl
          · exact absurd rfl (h 47 (by simpa using hcn)).1
        · cases hcn : s.contains 0
          · rfl
          · exact absurd rfl (h 0 (by simpa using hcn)).2
      have HH := Lib.hid hh
      clear hh
      go_wp2
      go_ret
      exact ⟨-1, rfl, by omega, by omega, ⟨fun h => by omega, fun h => by rw [HH.out] at h; cases h⟩, hS.below⟩

theorem IndexAny_any (s : List UInt8) (w : World) (hs : s.length ≤ 1000000) : Calls Tryz.prog 69 #[.string ⟨s.toArray⟩, .string mchars] w (APost w s) := by
  by_cases h8 : s.length ≤ 8
  · exact IndexAny_short s w h8
  · refine (Tryz.strings_IndexAny_long hv55 ⟨s.toArray⟩ mchars w (by decide) (by simp [ByteArray.size]; omega) (by simp [ByteArray.size]; omega) (by decide) (by
      intro j b hb
      have : b ∈ mchars.data.toList := List.mem_of_getElem? hb
      simp at this
      rcases this with rfl | rfl <;> decide)).mono ?_
    rintro e w' ⟨rfl, rfl⟩
    obtain ⟨h1, h2, h3⟩ := indexAny_has s
    exact ⟨_, rfl, h2, h3, h1, (((St.start w).alloc _).alloc _).below⟩
set_option maxRecDepth 100000 in
theorem ContainsAny_any (s : List UInt8) (w : World) (hs : s.length ≤ 1000000) : Calls Tryz.prog 52 #[.string ⟨s.toArray⟩, .string mchars] w (Makes w (.bool (has2 s))) := by
  have HI := Lib.hid (IndexAny_any s w hs)
  go_enter Tryz.func52, Tryz.ntmps52
  go_wp2_with fail
  refine HI.out.mono ?_
  rintro e w2 ⟨n, rfl, h1, h2, h3, hb⟩
  have H3 := Lib.hid h3
  clear h3
  by_cases hn : 0 ≤ n
  · have hn' : decide (0 ≤ n) = true := by simpa using hn
    go_wp2
    go_ret
    exact ⟨by rw [H3.out.1 hn]; rfl, hb⟩
  · have hn' : decide (0 ≤ n) = false := by simpa using hn
    have hf : has2 s = false := by
      cases hh : has2 s
      · rfl
      · exact absurd (H3.out.2 hh) hn
    have HF := Lib.hid hf
    clear hf
    go_wp2
    go_ret
    exact ⟨by rw [HF.out]; rfl, hb⟩

set_option maxRecDepth 100000 in
theorem may_any (s : List UInt8) (w : World) (hs : s.length ≤ 1000000) : Calls Tryz.prog 30 #[.string ⟨s.toArray⟩] w (Makes w (.bool (may s))) := by
  have HC := Lib.hid fun w => ContainsAny_any s w hs
  have hmay : may s = (s != [46] && s != [46, 46] && !has2 s) := by unfold may has2; cases s.contains 47 <;> cases s.contains 0 <;> simp
  have HM := Lib.hid hmay
  clear hmay
  by_cases h1 : s = [46]
  · subst h1
    go_enter Tryz.func30, Tryz.ntmps30
    go_wp2_with fail
    go_ret
    exact Makes.mk0 _ _
  by_cases h2 : s = [46, 46]
  · subst h2
    go_enter Tryz.func30, Tryz.ntmps30
    go_wp2_with fail
    go_ret
    exact Makes.mk0 _ _
  have e1 : (s != [46]) = true := by simpa using h1
  have e2 : (s != [46, 46]) = true := by simpa using h2
  have e : may s = !has2 s := by rw [HM.out, e1, e2]; simp
  have HE := Lib.hid e
  clear e
  go_enter Tryz.func30, Tryz.ntmps30
  go_wp2_with fail
  refine (HC.out _).mono ?_
  rintro e w2 ⟨rfl, hb⟩
  go_wp2
  go_ret
  exact ⟨by rw [HM.out]; rfl, hb⟩

end Go.Proofs.YtlofiaaacepgmaaGreatDoor.PathM
