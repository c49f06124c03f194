import Derived.Test.YtlofiaaacepgmaaGreatDoorTrP
import Derived.Test.YtlofiaaacepgmaaGreatDoorStrs
import Derived.Test.YtlofiaaacepgmaaGreatDoorReg
import Derived.Test.YtlofiaaacepgmaaGreatDoorShelf
import Derived.Test.YtlofiaaacepgmaaGreatDoorProg
import Derived.Deep.Cut
import Derived.WalkSpells
namespace Go.Proofs.YtlofiaaacepgmaaGreatDoor.TrS
open Go Go.RowKit Go.Proofs Go.Proofs.YtlofiaaacepgmaaGreatDoor.Sep Go.Proofs.YtlofiaaacepgmaaGreatDoor.Reg Go.Proofs.YtlofiaaacepgmaaGreatDoor.Frame Go.Proofs.YtlofiaaacepgmaaGreatDoor.Strs Go.Proofs.YtlofiaaacepgmaaGreatDoor.PathP Go.Proofs.YtlofiaaacepgmaaGreatDoor.TrP

def MaxLen (w : World) : Prop := ∃ m, w.cell? ⟨0, 0, none⟩ = some (.int .i64 m)
theorem MaxLen.st {W w : World} {A : Asn} (h : MaxLen W) (hS : St W w A) : MaxLen w := by
  obtain ⟨m, hm⟩ := h
  exact ⟨m, by rw [hS.old (World.block_lt_of_cell? W _ hm)]; exact hm⟩
def Same (w : World) (v : Value) (e : Ending) (w' : World) : Prop := e = .returned v ∧ w' = w
theorem byte_no {x c : UInt8} (h : x ≠ c) : ((x.toNat : Int) == (c.toNat : Int)) = false := by
  simp only [beq_eq_false_iff_ne, ne_eq]
  intro e
  exact h (UInt8.toNat_inj.1 (by omega))
theorem head_get (s : Tx) (hsz : 0 < (ByteArray.mk s.toArray).size) : s.head? = some ((ByteArray.mk s.toArray)[0]'hsz) := by
  cases s with
  | nil => simp [ByteArray.size] at hsz
  | cons c t => rfl
theorem get_byte (s : List UInt8) (i : Nat) (h : i < (ByteArray.mk s.toArray).size) : s[i]? = some ((ByteArray.mk s.toArray)[i]'h) := by
  have hi : i < s.length := by simpa [ByteArray.size] using h
  rw [List.getElem?_eq_getElem hi]; rfl
theorem nameC_nat (c : UInt8) : nameC c = (c.toNat == 95 || (48 ≤ c.toNat && c.toNat ≤ 57) || (97 ≤ c.toNat && c.toNat ≤ 122) || (65 ≤ c.toNat && c.toNat ≤ 90)) := by
  have e : (c == 95) = (c.toNat == 95) := by
    rw [Bool.eq_iff_iff]
    simp only [beq_iff_eq]
    exact ⟨fun h => by rw [h]; rfl, fun h => UInt8.toNat_inj.1 h⟩
  unfold nameC
  rw [e]
  rfl
theorem named_bad {s : Tx} {c : UInt8} (h : c ∈ s) (hc : nameC c = false) : named s = false := by
  unfold named
  have : s.all nameC = false := by
    rw [List.all_eq_false]
    exact ⟨c, h, by simp [hc]⟩
  rw [this]; rfl
theorem all_snoc {s : Tx} {pos : Nat} {c : UInt8} (h : s[pos]? = some c) (ha : (s.take pos).all nameC = true) (hc : nameC c = true) : (s.take (pos + 1)).all nameC = true := by
  rw [List.take_add_one, h, List.all_append, ha]
  simp [hc]
set_option maxRecDepth 100000 in
set_option maxHeartbeats 8000000 in
theorem named_any (s : Tx) (w : World) : Calls Tryz.prog 53 #[.string ⟨s.toArray⟩] w (Makes w (.bool (named s))) := by
  have h0 := St.iter (St.start w) ⟨s.toArray⟩
  go_enter Tryz.func53, Tryz.ntmps53
  go_wp2_with fail
  obtain ⟨k, hk⟩ : ∃ k, w.heap.size = k := ⟨_, rfl⟩
  rw [hk] at h0 ⊢
  clear hk
  go_loopw [] (fun wr => ∃ pos : Nat, pos ≤ s.length ∧ (s.take pos).all nameC = true ∧ St w wr (star (pt k (.stringIter ⟨s.toArray⟩ pos)) emp)) (fun wr => s.length - wr.iterPos k)
  case atStart => exact ⟨0, by omega, rfl, h0⟩
  case round =>
    obtain ⟨pos, hp, hal, hS⟩ := hrel
    have hit := hS.blk
    have HAL := Lib.hid hal
    clear hal h0
    by_cases hp2 : pos < s.length
    · have hps : pos < (ByteArray.mk s.toArray).size := by simpa [ByteArray.size] using hp2
      have hgp := get_byte s pos hps
      have hnx : ∀ ty, (Instr.next (.pointer (some ⟨k, 0, none⟩)) true ty).run Tryz.prog wr = _ := fun ty => Lib.run_next_any_at wr k ⟨s.toArray⟩ pos ty hit hps
      have h1 := St.iterAt hS (pos + (Utf8.decode ⟨s.toArray⟩ pos).2)
      have hdl := decode_le ⟨s.toArray⟩ pos
      generalize hc : (ByteArray.mk s.toArray)[pos]'hps = c at *
      have hgood : (∃ r, (Utf8.decode ⟨s.toArray⟩ pos) = (r, 1) ∧ r = c.toNat) ∨ (128 ≤ (Utf8.decode ⟨s.toArray⟩ pos).1 ∧ nameC c = false) := by
        by_cases ha : c.toNat < 128
        · left; exact ⟨_, by rw [decode_ascii _ pos hps (by rw [hc]; exact ha), hc], rfl⟩
        · right
          refine ⟨(decode_high _ pos hps (by rw [hc]; omega)).1, ?_⟩
          rw [nameC_nat]
          simp; omega
      have hmem : c ∈ s := List.mem_of_getElem? hgp
      obtain ⟨r, hr⟩ : ∃ r, (Utf8.decode ⟨s.toArray⟩ pos).1 = r := ⟨_, rfl⟩
      obtain ⟨wd, hwd⟩ : ∃ wd, (Utf8.decode ⟨s.toArray⟩ pos).2 = wd := ⟨_, rfl⟩
      have HY : Hid (nameC c = true → wd = 1) := Lib.hid (by
        intro hn
        rcases hgood with ⟨r', e, _⟩ | ⟨_, e⟩
        · rw [← hwd, e]
        · rw [hn] at e; cases e)
      have HR : Hid (nameC c = (r == 95 || (48 ≤ r && r ≤ 57) || (97 ≤ r && r ≤ 122) || (65 ≤ r && r ≤ 90))) := Lib.hid (by
        rcases hgood with ⟨r', e, e2⟩ | ⟨e, e2⟩
        · rw [e] at hr
          simp only at hr
          rw [← hr, e2, nameC_nat]
        · rw [e2, ← hr]
          simp; omega)
      rw [hr] at hdl
      rw [hr, hwd] at hnx
      rw [hwd] at h1
      have HG := Lib.hid hgp
      have HM := Lib.hid hmem
      clear hgood hr hwd hgp hmem hc hit
      by_cases hb0 : r ≤ 47
      · have n95 : ((r : Int) != 95) = true := by simp; omega
        have b95 : ((r : Int) == 95) = false := beq_eq_false_iff_ne.2 (by omega)
        have b48 : decide ((r : Int) < 48) = true := decide_eq_true (by omega)
        have b57 : decide (57 < (r : Int)) = false := decide_eq_false (by omega)
        have b97 : decide ((r : Int) < 97) = true := decide_eq_true (by omega)
        have b122 : decide (122 < (r : Int)) = false := decide_eq_false (by omega)
        have b65 : decide ((r : Int) < 65) = true := decide_eq_true (by omega)
        have b90 : decide (90 < (r : Int)) = false := decide_eq_false (by omega)
        have HN : Hid (nameC c = false) := Lib.hid (by rw [HR.out]; simp; omega)
        clear hb0
        have HF := Lib.hid (named_bad HM.out HN.out)
        rw [HF.out]
        go_wp2
        go_ret
        exact Makes.of h1
      · skip
        by_cases hb1 : r ≤ 57
        · have n95 : ((r : Int) != 95) = true := by simp; omega
          have b95 : ((r : Int) == 95) = false := beq_eq_false_iff_ne.2 (by omega)
          have b48 : decide ((r : Int) < 48) = false := decide_eq_false (by omega)
          have b57 : decide (57 < (r : Int)) = false := decide_eq_false (by omega)
          have b97 : decide ((r : Int) < 97) = true := decide_eq_true (by omega)
          have b122 : decide (122 < (r : Int)) = false := decide_eq_false (by omega)
          have b65 : decide ((r : Int) < 65) = true := decide_eq_true (by omega)
          have b90 : decide (90 < (r : Int)) = false := decide_eq_false (by omega)
          have HN : Hid (nameC c = true) := Lib.hid (by rw [HR.out]; simp; omega)
          clear hb0 hb1
          have hw1 : wd = 1 := HY.out HN.out
          subst hw1
          go_wp2_with fail
          refine ⟨⟨pos + 1, hp2, all_snoc HG.out HAL.out HN.out, h1⟩, ?_⟩
          simp only [World.iterPos, h1.blk, hS.blk]; omega
        · skip
          by_cases hb2 : r ≤ 64
          · have n95 : ((r : Int) != 95) = true := by simp; omega
            have b95 : ((r : Int) == 95) = false := beq_eq_false_iff_ne.2 (by omega)
            have b48 : decide ((r : Int) < 48) = false := decide_eq_false (by omega)
            have b57 : decide (57 < (r : Int)) = true := decide_eq_true (by omega)
            have b97 : decide ((r : Int) < 97) = true := decide_eq_true (by omega)
            have b122 : decide (122 < (r : Int)) = false := decide_eq_false (by omega)
            have b65 : decide ((r : Int) < 65) = true := decide_eq_true (by omega)
            have b90 : decide (90 < (r : Int)) = false := decide_eq_false (by omega)
            have HN : Hid (nameC c = false) := Lib.hid (by rw [HR.out]; simp; omega)
            clear hb0 hb1 hb2
            have HF := Lib.hid (named_bad HM.out HN.out)
            rw [HF.out]
            go_wp2
            go_ret
            exact Makes.of h1
          · skip
            by_cases hb3 : r ≤ 90
            · have n95 : ((r : Int) != 95) = true := by simp; omega
              have b95 : ((r : Int) == 95) = false := beq_eq_false_iff_ne.2 (by omega)
              have b48 : decide ((r : Int) < 48) = false := decide_eq_false (by omega)
              have b57 : decide (57 < (r : Int)) = true := decide_eq_true (by omega)
              have b97 : decide ((r : Int) < 97) = true := decide_eq_true (by omega)
              have b122 : decide (122 < (r : Int)) = false := decide_eq_false (by omega)
              have b65 : decide ((r : Int) < 65) = false := decide_eq_false (by omega)
              have b90 : decide (90 < (r : Int)) = false := decide_eq_false (by omega)
              have HN : Hid (nameC c = true) := Lib.hid (by rw [HR.out]; simp; omega)
              clear hb0 hb1 hb2 hb3
              have hw1 : wd = 1 := HY.out HN.out
              subst hw1
              go_wp2_with fail
              refine ⟨⟨pos + 1, hp2, all_snoc HG.out HAL.out HN.out, h1⟩, ?_⟩
              simp only [World.iterPos, h1.blk, hS.blk]; omega
            · skip
              by_cases hb4 : r ≤ 94
              · have n95 : ((r : Int) != 95) = true := by simp; omega
                have b95 : ((r : Int) == 95) = false := beq_eq_false_iff_ne.2 (by omega)
                have b48 : decide ((r : Int) < 48) = false := decide_eq_false (by omega)
                have b57 : decide (57 < (r : Int)) = true := decide_eq_true (by omega)
                have b97 : decide ((r : Int) < 97) = true := decide_eq_true (by omega)
                have b122 : decide (122 < (r : Int)) = false := decide_eq_false (by omega)
                have b65 : decide ((r : Int) < 65) = false := decide_eq_false (by omega)
                have b90 : decide (90 < (r : Int)) = true := decide_eq_true (by omega)
                have HN : Hid (nameC c = false) := Lib.hid (by rw [HR.out]; simp; omega)
                clear hb0 hb1 hb2 hb3 hb4
                have HF := Lib.hid (named_bad HM.out HN.out)
                rw [HF.out]
                go_wp2
                go_ret
                exact Makes.of h1
              · skip
                by_cases hb5 : r ≤ 95
                · have n95 : ((r : Int) != 95) = false := by simp; omega
                  have b95 : ((r : Int) == 95) = true := beq_iff_eq.2 (by omega)
                  have b48 : decide ((r : Int) < 48) = false := decide_eq_false (by omega)
                  have b57 : decide (57 < (r : Int)) = true := decide_eq_true (by omega)
                  have b97 : decide ((r : Int) < 97) = true := decide_eq_true (by omega)
                  have b122 : decide (122 < (r : Int)) = false := decide_eq_false (by omega)
                  have b65 : decide ((r : Int) < 65) = false := decide_eq_false (by omega)
                  have b90 : decide (90 < (r : Int)) = true := decide_eq_true (by omega)
                  have HN : Hid (nameC c = true) := Lib.hid (by rw [HR.out]; simp; omega)
                  clear hb0 hb1 hb2 hb3 hb4 hb5
                  have hw1 : wd = 1 := HY.out HN.out
                  subst hw1
                  go_wp2_with fail
                  refine ⟨⟨pos + 1, hp2, all_snoc HG.out HAL.out HN.out, h1⟩, ?_⟩
                  simp only [World.iterPos, h1.blk, hS.blk]; omega
                · skip
                  by_cases hb6 : r ≤ 96
                  · have n95 : ((r : Int) != 95) = true := by simp; omega
                    have b95 : ((r : Int) == 95) = false := beq_eq_false_iff_ne.2 (by omega)
                    have b48 : decide ((r : Int) < 48) = false := decide_eq_false (by omega)
                    have b57 : decide (57 < (r : Int)) = true := decide_eq_true (by omega)
                    have b97 : decide ((r : Int) < 97) = true := decide_eq_true (by omega)
                    have b122 : decide (122 < (r : Int)) = false := decide_eq_false (by omega)
                    have b65 : decide ((r : Int) < 65) = false := decide_eq_false (by omega)
                    have b90 : decide (90 < (r : Int)) = true := decide_eq_true (by omega)
                    have HN : Hid (nameC c = false) := Lib.hid (by rw [HR.out]; simp; omega)
                    clear hb0 hb1 hb2 hb3 hb4 hb5 hb6
                    have HF := Lib.hid (named_bad HM.out HN.out)
                    rw [HF.out]
                    go_wp2
                    go_ret
                    exact Makes.of h1
                  · skip
                    by_cases hb7 : r ≤ 122
                    · have n95 : ((r : Int) != 95) = true := by simp; omega
                      have b95 : ((r : Int) == 95) = false := beq_eq_false_iff_ne.2 (by omega)
                      have b48 : decide ((r : Int) < 48) = false := decide_eq_false (by omega)
                      have b57 : decide (57 < (r : Int)) = true := decide_eq_true (by omega)
                      have b97 : decide ((r : Int) < 97) = false := decide_eq_false (by omega)
                      have b122 : decide (122 < (r : Int)) = false := decide_eq_false (by omega)
                      have b65 : decide ((r : Int) < 65) = false := decide_eq_false (by omega)
                      have b90 : decide (90 < (r : Int)) = true := decide_eq_true (by omega)
                      have HN : Hid (nameC c = true) := Lib.hid (by rw [HR.out]; simp; omega)
                      clear hb0 hb1 hb2 hb3 hb4 hb5 hb6 hb7
                      have hw1 : wd = 1 := HY.out HN.out
                      subst hw1
                      go_wp2_with fail
                      refine ⟨⟨pos + 1, hp2, all_snoc HG.out HAL.out HN.out, h1⟩, ?_⟩
                      simp only [World.iterPos, h1.blk, hS.blk]; omega
                    · skip
                      have n95 : ((r : Int) != 95) = true := by simp; omega
                      have b95 : ((r : Int) == 95) = false := beq_eq_false_iff_ne.2 (by omega)
                      have b48 : decide ((r : Int) < 48) = false := decide_eq_false (by omega)
                      have b57 : decide (57 < (r : Int)) = true := decide_eq_true (by omega)
                      have b97 : decide ((r : Int) < 97) = false := decide_eq_false (by omega)
                      have b122 : decide (122 < (r : Int)) = true := decide_eq_true (by omega)
                      have b65 : decide ((r : Int) < 65) = false := decide_eq_false (by omega)
                      have b90 : decide (90 < (r : Int)) = true := decide_eq_true (by omega)
                      have HN : Hid (nameC c = false) := Lib.hid (by rw [HR.out]; simp; omega)
                      clear hb0 hb1 hb2 hb3 hb4 hb5 hb6 hb7
                      have HF := Lib.hid (named_bad HM.out HN.out)
                      rw [HF.out]
                      go_wp2
                      go_ret
                      exact Makes.of h1
    · obtain rfl : pos = s.length := by omega
      have hnx : ∀ ty, (Instr.next (.pointer (some ⟨k, 0, none⟩)) true ty).run Tryz.prog wr = _ := fun ty => Lib.run_next_end_at wr k ⟨s.toArray⟩ s.length ty hit (by simp [ByteArray.size])
      have HF : Hid (named s = (s != [] && decide (s.length ≤ 32))) := Lib.hid (by
        have := HAL.out
        rw [List.take_length] at this
        unfold named
        rw [this]; rfl)
      clear hit
      by_cases hs : s = []
      · have HV : Hid (named s = false) := Lib.hid (by rw [HF.out, hs]; rfl)
        subst hs
        go_wp2
        go_ret
        exact Makes.eq (u := .bool false) (Makes.of hS) (by rw [HV.out])
      · have hs1 : (s == []) = false := by simpa using hs
        have HV : Hid (named s = decide ((s.length : Int) ≤ 32)) := Lib.hid (by
          rw [HF.out]
          have : (s != []) = true := by simpa using hs
          rw [this, Bool.true_and]
          exact decide_eq_decide.2 (by omega))
        clear hs HF
        go_wp2
        go_ret
        exact Makes.eq (u := .bool (decide ((s.length : Int) ≤ 32))) (Makes.of hS) (by rw [HV.out])

theorem infoS : (Tryz.prog.info? 9).map (fun i => (i.zero, i.size, i.bytes)) = some (some (.string ByteArray.empty), 1, 16) := by kernel_rfl
theorem splitB_strs (s : List UInt8) : ((Lib.splitB ⟨#[47]⟩ 0 (Lib.countB ⟨s.toArray⟩ ⟨#[47]⟩) ⟨s.toArray⟩).map Value.string) = strsV (parts s) := by
  have h := Lib.splitB_data ⟨#[47]⟩ 0 (Lib.countB ⟨s.toArray⟩ ⟨#[47]⟩) ⟨s.toArray⟩
  have h2 : Lib.splitK [47] 0 (Lib.countB ⟨s.toArray⟩ ⟨#[47]⟩) s = parts s := PathL.split_eq s
  have h3 : (Lib.splitB ⟨#[47]⟩ 0 (Lib.countB ⟨s.toArray⟩ ⟨#[47]⟩) ⟨s.toArray⟩).map (·.data.toList) = parts s := h.trans h2
  rw [strsV, ← h3, List.map_map]
  refine List.map_congr_left fun x _ => ?_
  cases x
  simp
theorem Split_any (s : List UInt8) (w : World) (hs : s.length ≤ 1000000) (hm : MaxLen w) : Calls Tryz.prog 28 #[.string ⟨s.toArray⟩, .string ⟨#[47]⟩] w fun e w' =>
    e = .returned (.slice (some ⟨w.heap.size, 0, none⟩) (parts s).length (parts s).length) ∧ w' = w.alloc (.cells (strsV (parts s)).toArray 9 (0, 0)) := by
  obtain ⟨m, hm⟩ := hm
  refine (Tryz.strings_Split ⟨s.toArray⟩ ⟨#[47]⟩ m w (by simp [ByteArray.size]; omega) hm (by decide)).mono ?_
  rintro e w' ⟨rfl, rfl⟩
  have h1 : Lib.countB ⟨s.toArray⟩ ⟨#[47]⟩ + 1 = (parts s).length := PathL.count_eq (s.length + 1) s (by omega)
  rw [h1]
  rw [splitB_strs]
  exact ⟨rfl, rfl⟩
theorem hasP (s : Tx) : Lib.hasPrefix s [47] = decide (s.head? = some 47) := by
  cases s with
  | nil => rfl
  | cons c t =>
    simp only [Lib.hasPrefix, List.isPrefixOf, Bool.and_true, List.head?_cons, Option.some.injEq]
    rw [Bool.eq_iff_iff]
    simp only [beq_iff_eq, decide_eq_true_eq]
    exact ⟨fun h => h.symm, fun h => h.symm⟩
theorem HasPrefix_any (s : Tx) (w : World) : Calls Tryz.prog 48 #[.string ⟨s.toArray⟩, .string ⟨#[47]⟩] w (Same w (.bool (decide (s.head? = some 47)))) := by
  refine (Tryz.strings_HasPrefix ⟨s.toArray⟩ ⟨#[47]⟩ w).mono ?_
  rintro e w' ⟨rfl, rfl⟩
  refine ⟨?_, rfl⟩
  have := hasP s
  simp only [this]
theorem Contains_any {w : World} {a : Option Addr} {n c : Nat} {l : List Tx} (h : Sl w 1 (.slice a n c) n (strsV l)) (hln : l.length = n) (x : Tx) : Calls Tryz.prog 37 #[.slice a n c, .string ⟨x.toArray⟩] w (Same w (.bool (l.contains x))) := by
  cases n with
  | zero =>
    obtain rfl : l = [] := List.eq_nil_of_length_eq_zero hln
    exact (Tryz.slices_Contains_string_empty a c ⟨x.toArray⟩ w).mono fun e w' h => h
  | succ m =>
    have hcap : m + 1 ≤ c ∧ c ≤ 9223372036854775807 := by obtain ⟨_, _, _, hv, h1, h2, _⟩ := h; cases hv; exact ⟨h1, by simpa [maxLen] using h2⟩
    obtain ⟨y, hy⟩ : ∃ y, l[0]? = some y := ⟨_, List.getElem?_eq_getElem (by omega)⟩
    obtain ⟨ab, ao, rfl, _⟩ := strs_at h hy
    refine (Tryz.slices_Contains_string ab ao (m + 1) c (l.map fun x => ⟨x.toArray⟩) ⟨x.toArray⟩ w (by simp; omega) (by omega) (fun j hj => ?_)).mono ?_
    · rw [List.length_map] at hj
      obtain ⟨ab', ao', e, hel⟩ := strs_at h (List.getElem?_eq_getElem hj)
      cases e
      rw [hel _ _ (St.start w)]
      simp [hj]
    · rintro e w' ⟨rfl, rfl⟩
      refine ⟨?_, rfl⟩
      congr 2
      rw [Bool.eq_iff_iff, Lib.containsS_iff, List.take_of_length_le (by simp; omega), List.contains_iff_mem, List.mem_map]
      constructor
      · rintro ⟨y, hy, e⟩
        have : y = x := by
          have h1 : y.toArray = x.toArray := by injection e
          simpa using h1
        rw [← this]; exact hy
      · exact fun hx => ⟨x, hx, rfl⟩

/-- What split hands back. -/
def SpPost (w : World) (r : Option (List Tx)) (e : Ending) (w' : World) : Prop :=
  match r with
  | some l => ∃ a c, e = .returned (.tuple #[.slice a l.length c, .bool true]) ∧ St w w' (star (Row 9 1 (.slice a l.length c) l.length (strsV l)) emp)
  | none => e = .returned (.tuple #[.slice none 0 0, .bool false]) ∧ Below w.heap.size w w'
theorem SpPost.no {w w' : World} {r : Option (List Tx)} {e : Ending} (h : r = none) (he : e = .returned (.tuple #[.slice none 0 0, .bool false])) (hb : Below w.heap.size w w') : SpPost w r e w' := by subst h; exact ⟨he, hb⟩
theorem SpPost.yes {w w' : World} {r : Option (List Tx)} {e : Ending} {l : List Tx} {a : Option Addr} {c n : Nat} (h : r = some l) (hn : l.length = n) (he : e = .returned (.tuple #[.slice a n c, .bool true])) (hb : St w w' (star (Row 9 1 (.slice a n c) n (strsV l)) emp)) : SpPost w r e w' := by subst h; subst hn; exact ⟨a, c, he, hb⟩
theorem parts_pos (s : Tx) : 0 < (parts s).length := by obtain ⟨x, xs, hx⟩ := parts_ne s; rw [hx]; simp
theorem drop_at {l : List Tx} {i : Nat} {x : Tx} (h : l[i]? = some x) : l.drop i = x :: l.drop (i + 1) := by
  obtain ⟨hi, e⟩ := List.getElem?_eq_some_iff.1 h
  rw [List.drop_eq_getElem_cons hi, e]
theorem parts_len_le (r : Tx) : ∀ x ∈ parts r, x.length ≤ r.length := by
  have : ∀ (l : List (List UInt8)), ∀ x ∈ l, x.length + 1 ≤ PathQ.tot l := by
    intro l
    induction l with
    | nil => intro x hx; cases hx
    | cons y ys ih =>
      intro x hx
      rcases List.mem_cons.1 hx with rfl | hx
      · simp only [PathQ.tot]; omega
      · have := ih x hx; simp only [PathQ.tot]; omega
  intro x hx
  have h1 := this _ x hx
  rw [PathQ.parts_tot] at h1
  omega
set_option maxRecDepth 100000 in
set_option maxHeartbeats 8000000 in
theorem split_any (p : Tx) (w : World) (hp : p.length ≤ 1000000) (hm : MaxLen w) : Calls Tryz.prog 33 #[.string ⟨p.toArray⟩] w (SpPost w (splitP p)) := by
  have h0 := St.start w
  by_cases hr : p = [47]
  · subst hr
    go_enter Tryz.func33, Tryz.ntmps33
    go_wp2
    go_ret2
    exact SpPost.yes (l := []) rfl rfl rfl (by exact h0.nilRow)
  · have hr2 : (p == [47]) = false := by simpa using hr
    have HP := Lib.hid fun w => HasPrefix_any p w
    by_cases hh : p.head? = some 47
    · have hsp : splitP p = if goSeg [] (parts (p.drop 1)) = true then some (parts (p.drop 1)) else none := by
        unfold splitP; rw [if_neg hr]; simp only [hh, true_and]
      rw [decide_eq_true hh] at HP
      have hpos : 1 ≤ p.length := by cases p with | nil => cases hh | cons => simp
      have hstr := run_str_l (P := Tryz.prog) 9 Tryz.underlying9 p 1 1 rfl hpos
      have hSp : Hid (∀ w, MaxLen w → _) := Lib.hid fun w hm => Split_any (p.drop 1) w (by simp; omega) hm
      have hnb : (parts (p.drop 1)).length ≤ 1000001 := by rw [PathQ.parts_count]; have := List.count_le_length (a := (47 : UInt8)) (l := p.drop 1); simp at this ⊢; omega
      have hne := parts_pos (p.drop 1)
      have hxl : ∀ x ∈ parts (p.drop 1), x.length ≤ 1000000 := fun x hx => by have := parts_len_le _ x hx; simp at this; omega
      obtain ⟨res, hres⟩ : ∃ res, splitP p = res := ⟨_, rfl⟩
      rw [hres]
      rw [hres] at hsp
      have HRES := Lib.hid hsp
      have HXL := Lib.hid hxl
      generalize parts (p.drop 1) = l at *
      generalize p.drop 1 = p1 at *
      clear hsp hr hh hres hxl
      go_enter Tryz.func33, Tryz.ntmps33
      go_wp2_with fail
      refine (HP.out _).mono ?_
      rintro e w1 ⟨rfl, rfl⟩
      go_wp2_with fail
      refine (hSp.out _ hm).mono ?_
      rintro e w2 ⟨rfl, rfl⟩
      have h2 := h0.alloc (.cells (strsV l).toArray 9 (0, 0))
      clear hstr hSp HP hr2 h0
      have HM := Lib.hid hm
      clear hm
      go_wp2_with fail
      obtain ⟨b, hb⟩ : ∃ b, w1.heap.size = b := ⟨_, rfl⟩
      rw [hb] at h2
      rw [hb]
      obtain ⟨n, hn⟩ : ∃ n, l.length = n := ⟨_, rfl⟩
      rw [hn] at hnb hne
      have HN := Lib.hid hn
      rw [hn]
      clear hn hb
      go_loopw [5, 18] (fun nv iv wr => ∃ (i m : Nat) (va : Option Addr) (vk : Nat) (ns : List Tx), i ≤ n ∧ iv = .int .i64 i ∧ m ≤ i ∧ Hid (ns.length = m) ∧ nv = .slice va m vk ∧ Hid (goSeg [] l = goSeg ns (l.drop i)) ∧ St w1 wr (star (Row 9 1 (.slice va m vk) m (strsV ns)) (star (pt b (.cells (strsV l).toArray 9 (0, 0))) emp))) (fun _ iv _ => n - (intOf iv).toNat)
      case atStart => exact ⟨0, 0, none, 0, [], Nat.zero_le _, rfl, Nat.le_refl _, Lib.hid rfl, rfl, Lib.hid rfl, h2.nilRow⟩
      case round =>
        obtain ⟨i, m, va, vk, ns, hi, rfl, hmi, HNS, rfl, HG, hS⟩ := hrel
        clear h2
        by_cases hin : i < n
        · obtain ⟨x, hx⟩ : ∃ x, l[i]? = some x := ⟨_, List.getElem?_eq_getElem (by rw [HN.out]; exact hin)⟩
          have hc := hS.right.cell i (v := .string ⟨x.toArray⟩) (by simp [strsV, hx])
          have hxlen := HXL.out x (List.mem_of_getElem? hx)
          have HX := Lib.hid hx
          by_cases hx0 : x = []
          · have HF : Hid (res = none) := Lib.hid (by rw [HRES.out, HG.out, drop_at hx, hx0]; simp [goSeg])
            subst hx0
            clear hx
            go_wp2
            go_ret2
            exact SpPost.no HF.out rfl hS.below
          · have hx1 : (x == []) = false := by simpa using hx0
            have hsz : 0 < (ByteArray.mk x.toArray).size := by
              cases x with
              | nil => exact absurd rfl hx0
              | cons => simp [ByteArray.size]
            have hhd := head_get x hsz
            have hz : 0 < x.length := by simpa [ByteArray.size] using hsz
            have hstr := run_str_l (P := Tryz.prog) 9 Tryz.underlying9 x 1 1 rfl hz
            generalize hch : (ByteArray.mk x.toArray)[0]'hsz = c at *
            have HH := Lib.hid hhd
            have HX0 := Lib.hid hx0
            clear hx hx0 hhd
            by_cases hsp : isSp x = true
            · have HE : Hid (goSeg ns (l.drop i) = (TrP.named (x.drop 1) && !ns.contains (x.drop 1) && !(x.head? == some 42 && decide (l.drop (i + 1) ≠ [])) && goSeg (ns ++ [x.drop 1]) (l.drop (i + 1)))) := Lib.hid (by
                rw [drop_at HX.out, goSeg, if_pos hsp]
                simp [HX0.out])
              have HNm := Lib.hid fun w => named_any (x.drop 1) w
              have hxe : (x.drop 1).length ≤ 1000000 := by simp; omega
              have HD1 : Hid (∃ y, x.drop 1 = y) := Lib.hid ⟨_, rfl⟩
              have hc58 : c = 58 ∨ c = 42 := by
                rcases isSp_iff.1 hsp with h | h
                · rw [HH.out] at h; exact .inl (by simpa using h)
                · rw [HH.out] at h; exact .inr (by simpa using h)
              have HSP := Lib.hid hsp
              clear hsp
              generalize hx2 : x.drop 1 = x2 at *
              clear hx2 HD1
              obtain ⟨bn, hbn⟩ : ∃ bn, TrP.named x2 = bn := ⟨_, rfl⟩
              rw [hbn] at HNm HE
              have hb58 : ((c.toNat : Int) == 42) = decide (c = 42) ∧ ((c.toNat : Int) != 58) = decide (c ≠ 58) ∧ ((c.toNat : Int) != 42) = decide (c ≠ 42) := by
                rcases hc58 with rfl | rfl <;> decide
              cases bn with
              | false =>
                have HF : Hid (res = none) := Lib.hid (by rw [HRES.out, HG.out, HE.out]; rfl)
                clear hbn
                rcases hc58 with rfl | rfl
                all_goals
                  simp at hb58
                  obtain ⟨q1, q2, q3⟩ := hb58
                  go_wp2_with fail
                  refine (HNm.out _).mono ?_
                  rintro e w5 hq
                  have h5 := hS.makes hq
                  obtain ⟨rfl, -⟩ := hq
                  clear hS hc
                  go_wp2
                  go_ret2
                  exact SpPost.no HF.out rfl h5.below
              | true =>
                clear hbn
                rw [Bool.true_and] at HE
                obtain ⟨bc, hbc⟩ : ∃ bc, ns.contains x2 = bc := ⟨_, rfl⟩
                rw [hbc] at HE
                obtain ⟨hb42, hn58, hn42⟩ := hb58
                have HBC := Lib.hid hbc
                cases bc with
                | true =>
                  have HF : Hid (res = none) := Lib.hid (by rw [HRES.out, HG.out, HE.out]; rfl)
                  clear hbc
                  rcases hc58 with rfl | rfl
                  all_goals
                    simp at hb42 hn58 hn42
                    go_wp2_with fail
                    refine (HNm.out _).mono ?_
                    rintro e w5 hq
                    have h5 := hS.makes hq
                    obtain ⟨rfl, -⟩ := hq
                    have HCt := Lib.hid (Contains_any h5.rowSl HNS.out x2)
                    rw [HBC.out] at HCt
                    clear hS hc
                    go_wp2_with fail
                    refine HCt.out.mono ?_
                    rintro e w6 ⟨rfl, rfl⟩
                    go_wp2
                    go_ret2
                    exact SpPost.no HF.out rfl h5.below
                | false =>
                  rw [Bool.not_false, Bool.true_and] at HE
                  clear hbc
                  obtain ⟨i0, hi0, hz0, hz1, hz2⟩ := info_parts infoS
                  have hlast : i + 1 = n ∨ i + 1 < n := by omega
                  rcases hc58 with rfl | rfl
                  · have HG2 : Hid (goSeg [] l = goSeg (ns ++ [x2]) (l.drop (i + 1))) := Lib.hid (by rw [HG.out, HE.out, HH.out]; rfl)
                    simp at hb42 hn58 hn42
                    go_wp2_with fail
                    refine (HNm.out _).mono ?_
                    rintro e w5 hq
                    have h5 := hS.makes hq
                    obtain ⟨rfl, -⟩ := hq
                    have HCt := Lib.hid (Contains_any h5.rowSl HNS.out x2)
                    rw [HBC.out] at HCt
                    clear hS hc
                    go_wp2_with fail
                    refine HCt.out.mono ?_
                    rintro e w6 ⟨rfl, rfl⟩
                    go_wp2_with (at_builtin; refine wpList_append1 rfl (.tmp 55) (.tmp 58) 55 rfl 9 i0 _ 1 16 Tryz.underlying55 hi0 hz0 hz1 hz2 rfl _ m _ rfl h5 #[.string ⟨x2.toArray⟩] rfl rfl (by intro u hu; simp at hu; subst hu; rfl) (by unfold maxLen; omega) (by omega) ?_)
                    intro a7 c7 w7 h7
                    go_wp2
                    exact ⟨⟨i + 1, m + 1, _, _, ns ++ [x2], hin, by go_num, by omega, Lib.hid (by rw [List.length_append, HNS.out]; rfl), rfl, HG2, by rw [strsV_append]; exact h7⟩, by simp [intOf]; omega⟩
                  · rcases hlast with hl1 | hl1
                    · have HG2 : Hid (goSeg [] l = goSeg (ns ++ [x2]) (l.drop (i + 1))) := Lib.hid (by
                        have : l.drop (i + 1) = [] := List.drop_of_length_le (by rw [HN.out]; omega)
                        rw [HG.out, HE.out, this]; simp)
                      have hd1 : decide ((i : Int) < (n : Int) - 1) = false := decide_eq_false (by omega)
                      simp at hb42 hn58 hn42
                      go_wp2_with fail
                      refine (HNm.out _).mono ?_
                      rintro e w5 hq
                      have h5 := hS.makes hq
                      obtain ⟨rfl, -⟩ := hq
                      have HCt := Lib.hid (Contains_any h5.rowSl HNS.out x2)
                      rw [HBC.out] at HCt
                      clear hS hc
                      go_wp2_with fail
                      refine HCt.out.mono ?_
                      rintro e w6 ⟨rfl, rfl⟩
                      go_wp2_with (at_builtin; refine wpList_append1 rfl (.tmp 55) (.tmp 58) 55 rfl 9 i0 _ 1 16 Tryz.underlying55 hi0 hz0 hz1 hz2 rfl _ m _ rfl h5 #[.string ⟨x2.toArray⟩] rfl rfl (by intro u hu; simp at hu; subst hu; rfl) (by unfold maxLen; omega) (by omega) ?_)
                      intro a7 c7 w7 h7
                      go_wp2
                      exact ⟨⟨i + 1, m + 1, _, _, ns ++ [x2], hin, by go_num, by omega, Lib.hid (by rw [List.length_append, HNS.out]; rfl), rfl, HG2, by rw [strsV_append]; exact h7⟩, by simp [intOf]; omega⟩
                    · have HF : Hid (res = none) := Lib.hid (by
                        have : l.drop (i + 1) ≠ [] := by
                          intro e
                          have := congrArg List.length e
                          rw [List.length_drop, HN.out] at this
                          simp at this; omega
                        rw [HRES.out, HG.out, HE.out, HH.out]
                        simp [this])
                      have hd1 : decide ((i : Int) < (n : Int) - 1) = true := decide_eq_true (by omega)
                      simp at hb42 hn58 hn42
                      go_wp2_with fail
                      refine (HNm.out _).mono ?_
                      rintro e w5 hq
                      have h5 := hS.makes hq
                      obtain ⟨rfl, -⟩ := hq
                      have HCt := Lib.hid (Contains_any h5.rowSl HNS.out x2)
                      rw [HBC.out] at HCt
                      clear hS hc
                      go_wp2_with fail
                      refine HCt.out.mono ?_
                      rintro e w6 ⟨rfl, rfl⟩
                      go_wp2
                      go_ret2
                      exact SpPost.no HF.out rfl h5.below
            · have HG2 : Hid (goSeg [] l = goSeg ns (l.drop (i + 1))) := Lib.hid (by
                rw [HG.out, drop_at HX.out, goSeg, if_neg hsp]
                simp [HX0.out])
              have hn58 : ((c.toNat : Int) != 58) = true := by
                have : c ≠ 58 := fun e => hsp (isSp_iff.2 (.inl (by rw [HH.out, e])))
                have := byte_no this
                simpa [bne] using this
              have hn42 : ((c.toNat : Int) != 42) = true := by
                have : c ≠ 42 := fun e => hsp (isSp_iff.2 (.inr (by rw [HH.out, e])))
                have := byte_no this
                simpa [bne] using this
              clear hsp
              go_wp2
              exact ⟨⟨i + 1, m, _, _, ns, hin, by go_num, by omega, HNS, rfl, HG2, hS⟩, by simp [intOf]; omega⟩
        · obtain rfl : i = n := by omega
          have HF : Hid (res = some l) := Lib.hid (by
            have h1 : l.drop i = [] := List.drop_of_length_le (by rw [HN.out]; exact Nat.le_refl _)
            have h2 : goSeg [] l = true := by rw [HG.out, h1]; cases ns <;> rfl
            rw [HRES.out, if_pos h2])
          go_wp2
          go_ret2
          exact SpPost.yes HF.out HN.out rfl (St.mkRow hS.right (Nat.le_refl _) (by unfold maxLen; omega) (by simp [strsV, HN.out]) (by simp only [Nat.mul_one]; rw [List.take_of_length_le (by simp [strsV, HN.out])]))
    · have hsp : splitP p = none := by
        unfold splitP; rw [if_neg hr, if_neg (fun h => hh h.1)]
      rw [decide_eq_false hh] at HP
      have HSP := Lib.hid hsp
      clear hsp hr hh
      go_enter Tryz.func33, Tryz.ntmps33
      go_wp2_with fail
      refine (HP.out _).mono ?_
      rintro e w1 ⟨rfl, rfl⟩
      go_wp2
      go_ret2
      exact SpPost.no HSP.out rfl h0.below
end Go.Proofs.YtlofiaaacepgmaaGreatDoor.TrS
