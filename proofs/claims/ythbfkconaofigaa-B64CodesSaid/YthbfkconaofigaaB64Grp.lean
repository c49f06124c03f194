import Derived.Test.YthbfkconaofigaaB64Val
namespace Go.Proofs.Ythbfkconaofigaa.B64Grp
open Go Go.RowKit Go.Proofs Go.Proofs.Ythbfkconaofigaa.Sep Go.Proofs.Ythbfkconaofigaa.Reg Go.Proofs.Ythbfkconaofigaa.Frame Go.Proofs.Ythbfkconaofigaa.B64Law Go.Proofs.Ythbfkconaofigaa.Bld Go.Proofs.Ythbfkconaofigaa.B64Enc Go.Proofs.Ythbfkconaofigaa.B64Val

def valI (c : Int) : Int := if c < 128 then (match val (UInt8.ofNat c.toNat) with | some n => (n : Int) | none => -1) else -1
theorem valI_ascii : ∀ k : Fin 256, Lib.indexByte letters.data.toList (UInt8.ofNat k) = (match val (UInt8.ofNat k) with | some n => (n : Int) | none => -1) := by decide +kernel
theorem value_any (c : Int) (w : World) (h0 : 0 ≤ c) (h1 : c ≤ 2147483647) : Calls Try.prog 54 #[.int .i32 c] w (Makes w (.int .i64 (valI c))) := by
  have key : Calls Try.prog 72 #[.string letters, .int .i32 c] w (Makes w (.int .i64 (valI c))) := by
    by_cases hc : c < 128
    · refine (Try.strings_IndexRune_ascii letters c w h0 hc).mono ?_
      rintro e w' ⟨rfl, rfl⟩
      have := valI_ascii ⟨c.toNat, by omega⟩
      refine (Makes.mk0 _ _).eq ?_
      rw [valI, if_pos hc]
      exact congrArg _ this
    · have hv : valI c = -1 := if_neg hc
      rw [hv]
      by_cases he : c = 65533
      · subst he; exact IndexRune_err w
      · cases hb : Lib.validRune c
        · exact IndexRune_bad c w (by omega) h1 he hb
        · exact IndexRune_high c w (by omega) h1 he hb
  have HK := Lib.hid key
  clear key
  go_enter Try.func54, Try.ntmps54
  go_wp2_with fail
  refine HK.out.mono ?_
  rintro e w' ⟨rfl, hb⟩
  go_wp2
  go_ret
  exact ⟨rfl, hb⟩

def GPost (w : World) (g : List UInt8) (e : Ending) (w' : World) : Prop :=
  ∃ o ok, e = .returned (.tuple #[.string ⟨(o : List UInt8).toArray⟩, .bool ok]) ∧ (ok = true → dec1 g = some o) ∧ (ok = false → dec1 g = none) ∧ o.length ≤ 3 ∧ Below w.heap.size w w'
theorem GPost.none {w w' : World} {g : List UInt8} (h : dec1 g = none) (hb : Below w.heap.size w w') : GPost w g (.returned (.tuple #[.string ⟨#[]⟩, .bool false])) w' :=
  ⟨[], false, rfl, (by intro h; cases h), fun _ => h, by simp, hb⟩
def accN (l : List Nat) : Nat := l.foldl (fun a b => a * 64 + b) 0
theorem accN_snoc (l : List Nat) (m : Nat) : accN (l ++ [m]) = accN l * 64 + m := by simp [accN]
theorem nums_snoc : ∀ (g : List UInt8) (c : UInt8) (l : List Nat) (m : Nat), nums g = some l → val c = some m → nums (g ++ [c]) = some (l ++ [m])
  | [], c, l, m, h, hv => by
    simp [nums] at h; subst h
    simp [nums, hv]
  | x :: g, c, l, m, h, hv => by
    unfold nums at h
    split at h
    · rename_i n k h1 h2
      cases h
      have ih := nums_snoc g c k m h2 hv
      show nums (x :: (g ++ [c])) = _
      unfold nums
      rw [h1, ih]
      rfl
    · cases h
theorem nums_mem : ∀ (g : List UInt8) (c : UInt8), c ∈ g → val c = none → nums g = none
  | x :: g, c, h, hv => by
    rcases List.mem_cons.1 h with rfl | h
    · unfold nums; rw [hv]
    · have ih := nums_mem g c h hv
      unfold nums; rw [ih]; split <;> simp_all
theorem val_high : ∀ k : Fin 256, 128 ≤ k.val → val (UInt8.ofNat k) = none := by decide +kernel
theorem val_lt (c : UInt8) (m : Nat) (h : val c = some m) : m < 64 := (let_val c m h).2
theorem accN_le : ∀ (l : List Nat), (∀ m ∈ l, m < 64) → l.length ≤ 4 → accN l < 64 ^ l.length
  | [], _, _ => by simp [accN]
  | [a], h, _ => by simp [accN] at *; omega
  | [a, b], h, _ => by simp [accN] at *; omega
  | [a, b, c], h, _ => by simp [accN] at *; omega
  | [a, b, c, d], h, _ => by simp [accN] at *; omega
  | _ :: _ :: _ :: _ :: _ :: _, _, h => by simp at h
theorem nums_mem_lt : ∀ (g : List UInt8) (l : List Nat), nums g = some l → l.length = g.length ∧ ∀ m ∈ l, m < 64
  | [], l, h => by simp [nums] at h; subst h; simp
  | x :: g, l, h => by
    obtain ⟨n, k, rfl, _, h1, h2⟩ := nums_cons h
    obtain ⟨h3, h4⟩ := nums_mem_lt g k h2
    refine ⟨by simp [h3], fun m hm => ?_⟩
    rcases List.mem_cons.1 hm with rfl | hm
    · exact h1
    · exact h4 m hm

theorem grp_end2 {w w' : World} {g : List UInt8} {l : List Nat} {x : Nat} {e : Ending} (hx : accN l = x) (hd : dec1 g = group l) (hl : l.length = 2) (hm : ∀ m ∈ l, m < 64)
    (he : e = .returned (.tuple #[.string ⟨#[UInt8.ofNat (x / 16)]⟩, .bool (bits .and .i64 (x : Int) 15 == 0)])) (hb : Below w.heap.size w w') : GPost w g e w' := by
  match l, hl with
  | [a, b], _ =>
    simp only [List.mem_cons, List.not_mem_nil, or_false, forall_eq_or_imp, forall_eq] at hm
    simp only [accN, List.foldl_cons, List.foldl_nil] at hx
    have hand : bits .and .i64 (x : Int) 15 = ((x % 16 : Nat) : Int) := by
      have := bits_mask .i64 63 (by decide) (fun n h0 h1 => by rw [IntKind.wrap_i64]; omega) 4 (by decide) (x : Int) (by omega) (by omega)
      simpa using this
    refine ⟨[UInt8.ofNat (x / 16)], bits .and .i64 (x : Int) 15 == 0, he, fun h => ?_, fun h => ?_, by simp, hb⟩
    · rw [hand] at h
      have h0 : x % 16 = 0 := by simp at h; omega
      rw [hd]
      simp only [group]
      rw [if_pos (by omega)]
      subst hx
      simp only [Option.some.injEq, List.cons.injEq, and_true]
      refine ?_
      congr 1; omega
    · rw [hand] at h
      have h0 : ¬ x % 16 = 0 := by simp at h; omega
      rw [hd]
      simp only [group]
      rw [if_neg (by omega)]
theorem grp_end3 {w w' : World} {g : List UInt8} {l : List Nat} {x : Nat} {e : Ending} (hx : accN l = x) (hd : dec1 g = group l) (hl : l.length = 3) (hm : ∀ m ∈ l, m < 64)
    (he : e = .returned (.tuple #[.string ⟨#[UInt8.ofNat (x / 1024), UInt8.ofNat (x / 4 % 256)]⟩, .bool (bits .and .i64 (x : Int) 3 == 0)])) (hb : Below w.heap.size w w') : GPost w g e w' := by
  match l, hl with
  | [a, b, c], _ =>
    simp only [List.mem_cons, List.not_mem_nil, or_false, forall_eq_or_imp, forall_eq] at hm
    simp only [accN, List.foldl_cons, List.foldl_nil] at hx
    have hand : bits .and .i64 (x : Int) 3 = ((x % 4 : Nat) : Int) := by
      have := bits_mask .i64 63 (by decide) (fun n h0 h1 => by rw [IntKind.wrap_i64]; omega) 2 (by decide) (x : Int) (by omega) (by omega)
      simpa using this
    refine ⟨[UInt8.ofNat (x / 1024), UInt8.ofNat (x / 4 % 256)], bits .and .i64 (x : Int) 3 == 0, he, fun h => ?_, fun h => ?_, by simp, hb⟩
    · rw [hand] at h
      have h0 : x % 4 = 0 := by simp at h; omega
      rw [hd]
      simp only [group]
      rw [if_pos (by omega)]
      subst hx
      simp only [Option.some.injEq, List.cons.injEq, and_true]
      refine ⟨?_, ?_⟩ <;> congr 1 <;> omega
    · rw [hand] at h
      have h0 : ¬ x % 4 = 0 := by simp at h; omega
      rw [hd]
      simp only [group]
      rw [if_neg (by omega)]
theorem grp_end4 {w w' : World} {g : List UInt8} {l : List Nat} {x : Nat} {e : Ending} (hx : accN l = x) (hd : dec1 g = group l) (hl : l.length = 4) (hm : ∀ m ∈ l, m < 64)
    (he : e = .returned (.tuple #[.string ⟨#[UInt8.ofNat (x / 65536), UInt8.ofNat (x / 256 % 256), UInt8.ofNat (x % 256)]⟩, .bool (bits .and .i64 (x : Int) 0 == 0)])) (hb : Below w.heap.size w w') : GPost w g e w' := by
  match l, hl with
  | [a, b, c, d], _ =>
    simp only [List.mem_cons, List.not_mem_nil, or_false, forall_eq_or_imp, forall_eq] at hm
    simp only [accN, List.foldl_cons, List.foldl_nil] at hx
    have hand : bits .and .i64 (x : Int) 0 = ((x % 1 : Nat) : Int) := by
      have := bits_mask .i64 63 (by decide) (fun n h0 h1 => by rw [IntKind.wrap_i64]; omega) 0 (by decide) (x : Int) (by omega) (by omega)
      simpa using this
    refine ⟨[UInt8.ofNat (x / 65536), UInt8.ofNat (x / 256 % 256), UInt8.ofNat (x % 256)], bits .and .i64 (x : Int) 0 == 0, he, fun h => ?_, fun h => ?_, by simp, hb⟩
    · rw [hand] at h
      have h0 : x % 1 = 0 := by simp at h; omega
      rw [hd]
      simp only [group]
      
      subst hx
      simp only [Option.some.injEq, List.cons.injEq, and_true]
      refine ⟨?_, ?_, ?_⟩ <;> congr 1 <;> omega
    · rw [hand] at h
      have h0 : ¬ x % 1 = 0 := by simp at h
      rw [hd]
      simp only [group]
      omega
set_option maxRecDepth 100000 in
set_option maxHeartbeats 1600000 in
theorem group_any (g : List UInt8) (w : World) (h2 : 2 ≤ g.length) (h4 : g.length ≤ 4) : Calls Try.prog 36 #[.string ⟨g.toArray⟩] w (GPost w g) := by
  have h0 := St.iter (St.start w) ⟨g.toArray⟩
  go_enter Try.func36, Try.ntmps36
  go_wp2_with fail
  obtain ⟨k, hk⟩ : ∃ k, w.heap.size = k := ⟨_, rfl⟩
  rw [hk] at h0 ⊢
  clear hk
  go_loopw [4, 5] (fun x n wr => ∃ (pos : Nat) (l : List Nat), pos ≤ g.length ∧ nums (g.take pos) = some l ∧ x = .int .i64 (accN l : Nat) ∧ n = .int .i64 ((6 * pos : Nat) : Int) ∧ St w wr (star (pt k (.stringIter ⟨g.toArray⟩ pos)) emp)) (fun _ _ wr => g.length - wr.iterPos k)
  case atStart => exact ⟨0, [], by omega, rfl, rfl, rfl, h0⟩
  case round =>
    obtain ⟨pos, l, hp, hl, rfl, rfl, hS⟩ := hrel
    have hit := hS.blk
    by_cases hp2 : pos < g.length
    · have hlN := nums_mem_lt _ _ hl
      have hacc := accN_le l hlN.2 (by rw [hlN.1]; simp; omega)
      have hps : pos < (ByteArray.mk g.toArray).size := by simpa [ByteArray.size] using hp2
      have hgp : g[pos]? = some ((ByteArray.mk g.toArray)[pos]'hps) := by rw [List.getElem?_eq_getElem hp2]; rfl
      have hnx : ∀ ty, (Instr.next (.pointer (some ⟨k, 0, none⟩)) true ty).run Try.prog wr = _ := fun ty => Lib.run_next_any_at wr k ⟨g.toArray⟩ pos ty hit hps
      have h1 := St.iterAt hS (pos + (Utf8.decode ⟨g.toArray⟩ pos).2)
      have htk : g.take (pos + 1) = g.take pos ++ [(ByteArray.mk g.toArray)[pos]'hps] := by rw [List.take_add_one, hgp]; rfl
      have hmem : (ByteArray.mk g.toArray)[pos]'hps ∈ g := List.mem_of_getElem? hgp
      have hdl := decode_le ⟨g.toArray⟩ pos
      have hacc3 : accN l ≤ 262143 := by
        have : l.length ≤ 3 := by rw [hlN.1]; simp; omega
        have h64 : 64 ^ l.length ≤ 64 ^ 3 := Nat.pow_le_pow_right (by decide) this
        omega
      generalize hc : (ByteArray.mk g.toArray)[pos]'hps = c at *
      have hval : valI ((Utf8.decode ⟨g.toArray⟩ pos).1 : Int) = (match val c with | some n => (n : Int) | none => -1) := by
        by_cases ha : c.toNat < 128
        · rw [decode_ascii _ pos hps (by rw [hc]; exact ha), hc]
          rw [valI, if_pos (by omega)]
          simp
        · have hd := (decode_high _ pos hps (by rw [hc]; omega)).1
          rw [valI, if_neg (by omega)]
          have := val_high ⟨c.toNat, c.toNat_lt⟩ (by show 128 ≤ c.toNat; omega)
          simp at this
          rw [this]
      have hw2 : val c ≠ none → (Utf8.decode ⟨g.toArray⟩ pos).2 = 1 := by
        intro hn
        by_cases ha : c.toNat < 128
        · rw [decode_ascii _ pos hps (by rw [hc]; exact ha)]
        · exfalso
          have := val_high ⟨c.toNat, c.toNat_lt⟩ (by show 128 ≤ c.toNat; omega)
          simp at this
          exact hn this
      have HV := Lib.hid fun w => value_any ((Utf8.decode ⟨g.toArray⟩ pos).1 : Int) w (by omega) (by omega)
      rw [hval] at HV
      clear hval hgp hc
      generalize (Utf8.decode ⟨g.toArray⟩ pos).1 = r at *
      generalize (Utf8.decode ⟨g.toArray⟩ pos).2 = wd at *
      have HT := Lib.hid htk
      have HL := Lib.hid hl
      clear htk hl hlN hit
      cases hv : val c with
      | none =>
        have hnone : dec1 g = none := by unfold dec1; rw [nums_mem g c hmem hv]
        simp only [hv] at HV
        clear hv hw2
        have HN := Lib.hid hnone
        clear hnone
        go_wp2_with fail
        refine (HV.out _).mono ?_
        rintro e w2 hq
        have h3 := St.makes h1 hq
        obtain ⟨rfl, -⟩ := hq
        go_wp2
        go_ret2
        exact GPost.none HN.out h3.below
      | some m =>
        simp only [hv] at HV
        have hm := val_lt c m hv
        have hw1 : wd = 1 := hw2 (by rw [hv]; simp)
        subst hw1
        have HW := Lib.hid hv
        clear hv hw2
        have hor : bits .or .i64 (((accN l : Nat) : Int) * 64) (m : Int) = ((accN (l ++ [m]) : Nat) : Int) := by
          rw [bits_join .i64 63 (by decide) (fun n h0 h1 => by rw [IntKind.wrap_i64]; omega) 6 _ _ (by omega) (by omega) (by omega) (by omega) (by omega) (by omega), accN_snoc]
          omega
        go_wp2_with fail
        refine (HV.out _).mono ?_
        rintro e w2 hq
        have h3 := St.makes h1 hq
        obtain ⟨rfl, -⟩ := hq
        go_wp2
        refine ⟨⟨pos + 1, l ++ [m], by omega, ?_, rfl, ?_, h3⟩, ?_⟩
        · rw [HT.out]; exact nums_snoc _ _ _ _ HL.out HW.out
        · simp; omega
        · simp only [World.iterPos, h3.blk, hS.blk]; omega
    · obtain rfl : pos = g.length := by omega
      have hnx : ∀ ty, (Instr.next (.pointer (some ⟨k, 0, none⟩)) true ty).run Try.prog wr = _ := fun ty => Lib.run_next_end_at wr k ⟨g.toArray⟩ g.length ty hit (by simp [ByteArray.size])
      rw [List.take_length] at hl
      have hlN := nums_mem_lt _ _ hl
      have hd1 : dec1 g = group l := by unfold dec1; rw [hl]
      obtain ⟨hll, hlm⟩ := hlN
      have hacc := accN_le l hlm (by omega)
      generalize hx : accN l = x at *
      rcases (show g.length = 2 ∨ g.length = 3 ∨ g.length = 4 by omega) with hg | hg | hg
      · rw [hg] at hll ⊢
        have hx1 : x < 4096 := by rw [hll] at hacc; simpa using hacc
        clear hacc
        have HX := Lib.hid hx
        have HD := Lib.hid hd1
        have HL := Lib.hid hll
        have HM := Lib.hid hlm
        clear hx hd1 hll hlm hl hg h2 h4 hp hp2 hit
        have hcv0 := run_string_one (P := Try.prog) 29 9 5 Try.underlying29 Try.underlying5 Try.underlying9 wr wr.heap.size (by simp) ((x : Int) / 16) (x / 16) (by omega) (by omega) (0, 0)
        have hadd0 := run_str_add (P := Try.prog) [] [UInt8.ofNat (x / 16)] (by simp)
        simp only [List.nil_append] at hadd0
        go_wp2_with fail
        refine wp_loop_rounds 2 ?_
        rw [rounds_succ]
        go_wp2_with fail
        rw [rounds_succ]
        go_wp2_with fail
        refine wp_region_canon [0, 1, 2, 7, 3, 4, 5, 6, 8] (by kernel_rfl) (by kernel_rfl) ?_
        simp only [pickOps, nthOp]
        go_wp2_with fail
        simp only [Only]
        go_wp2_with fail
        go_ret2
        exact grp_end2 (l := l) HX.out HD.out HL.out HM.out (by simp) ((hS.alloc _).drew.below)
      · rw [hg] at hll ⊢
        have hx1 : x < 262144 := by rw [hll] at hacc; simpa using hacc
        clear hacc
        have HX := Lib.hid hx
        have HD := Lib.hid hd1
        have HL := Lib.hid hll
        have HM := Lib.hid hlm
        clear hx hd1 hll hlm hl hg h2 h4 hp hp2 hit
        have hcv0 := run_string_one (P := Try.prog) 29 9 5 Try.underlying29 Try.underlying5 Try.underlying9 wr wr.heap.size (by simp) ((x : Int) / 1024) (x / 1024) (by omega) (by omega) (0, 0)
        have hadd0 := run_str_add (P := Try.prog) [] [UInt8.ofNat (x / 1024)] (by simp)
        simp only [List.nil_append] at hadd0
        have hcv1 := run_string_one (P := Try.prog) 29 9 5 Try.underlying29 Try.underlying5 Try.underlying9 (World.alloc wr (.cells #[.int .u8 ((x : Int) / 1024)] 5 (0, 0))) (wr.heap.size + 1) (by simp) (((x : Int) / 4) % 256) ((x / 4) % 256) (by omega) (by omega) (0, 0)
        have hadd1 := run_str_add (P := Try.prog) [UInt8.ofNat (x / 1024)] [UInt8.ofNat ((x / 4) % 256)] (by simp)
        simp only [List.nil_append, List.cons_append] at hadd1
        go_wp2_with fail
        refine wp_loop_rounds 3 ?_
        rw [rounds_succ]
        go_wp2_with fail
        rw [rounds_succ]
        go_wp2_with fail
        rw [rounds_succ]
        go_wp2_with fail
        refine wp_region_canon [0, 1, 2, 7, 3, 4, 5, 6, 8] (by kernel_rfl) (by kernel_rfl) ?_
        simp only [pickOps, nthOp]
        go_wp2_with fail
        simp only [Only]
        go_wp2_with fail
        go_ret2
        exact grp_end3 (l := l) HX.out HD.out HL.out HM.out (by simp) (((hS.alloc _).alloc _).drew.below)
      · rw [hg] at hll ⊢
        have hx1 : x < 16777216 := by rw [hll] at hacc; simpa using hacc
        clear hacc
        have HX := Lib.hid hx
        have HD := Lib.hid hd1
        have HL := Lib.hid hll
        have HM := Lib.hid hlm
        clear hx hd1 hll hlm hl hg h2 h4 hp hp2 hit
        have hcv0 := run_string_one (P := Try.prog) 29 9 5 Try.underlying29 Try.underlying5 Try.underlying9 wr wr.heap.size (by simp) ((x : Int) / 65536) (x / 65536) (by omega) (by omega) (0, 0)
        have hadd0 := run_str_add (P := Try.prog) [] [UInt8.ofNat (x / 65536)] (by simp)
        simp only [List.nil_append] at hadd0
        have hcv1 := run_string_one (P := Try.prog) 29 9 5 Try.underlying29 Try.underlying5 Try.underlying9 (World.alloc wr (.cells #[.int .u8 ((x : Int) / 65536)] 5 (0, 0))) (wr.heap.size + 1) (by simp) (((x : Int) / 256) % 256) ((x / 256) % 256) (by omega) (by omega) (0, 0)
        have hadd1 := run_str_add (P := Try.prog) [UInt8.ofNat (x / 65536)] [UInt8.ofNat ((x / 256) % 256)] (by simp)
        simp only [List.nil_append, List.cons_append] at hadd1
        have hcv2 := run_string_one (P := Try.prog) 29 9 5 Try.underlying29 Try.underlying5 Try.underlying9 (World.alloc (World.alloc wr (.cells #[.int .u8 ((x : Int) / 65536)] 5 (0, 0))) (.cells #[.int .u8 (((x : Int) / 256) % 256)] 5 (0, 0))) (wr.heap.size + 2) (by simp) ((x : Int) % 256) (x % 256) (by omega) (by omega) (0, 0)
        have hadd2 := run_str_add (P := Try.prog) [UInt8.ofNat (x / 65536), UInt8.ofNat ((x / 256) % 256)] [UInt8.ofNat (x % 256)] (by simp)
        simp only [List.nil_append, List.cons_append] at hadd2
        go_wp2_with fail
        refine wp_loop_rounds 4 ?_
        rw [rounds_succ]
        go_wp2_with fail
        rw [rounds_succ]
        go_wp2_with fail
        rw [rounds_succ]
        go_wp2_with fail
        rw [rounds_succ]
        go_wp2_with fail
        refine wp_region_canon [0, 1, 2, 7, 3, 4, 5, 6, 8] (by kernel_rfl) (by kernel_rfl) ?_
        simp only [pickOps, nthOp]
        go_wp2_with fail
        simp only [Only]
        go_wp2_with fail
        go_ret2
        exact grp_end4 (l := l) HX.out HD.out HL.out HM.out (by simp) ((((hS.alloc _).alloc _).alloc _).drew.below)

end Go.Proofs.Ythbfkconaofigaa.B64Grp
