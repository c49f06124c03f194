import Derived.Test.YtedkkcbdhbbegaaTmS8
import Derived.Test.YtedkkcbdhbbegaaTmZ
import Derived.Test.YtedkkcbdhbbegaaHeld
namespace Go.Proofs.Ytedkkcbdhbbegaa.TmV
open Go Go.RowKit Go.Proofs Go.Proofs.Ytedkkcbdhbbegaa.Sep Go.Proofs.Ytedkkcbdhbbegaa.Reg Go.Proofs.Ytedkkcbdhbbegaa.Frame Go.Proofs.Ytedkkcbdhbbegaa.Held Go.Proofs.Ytedkkcbdhbbegaa.Mp Go.Proofs.Ytedkkcbdhbbegaa.MpR Go.Proofs.Ytedkkcbdhbbegaa.TmP Go.Proofs.Ytedkkcbdhbbegaa.TmQ Go.Proofs.Ytedkkcbdhbbegaa.TmS Go.Proofs.Ytedkkcbdhbbegaa.TmS2 Go.Proofs.Ytedkkcbdhbbegaa.TmS3 Go.Proofs.Ytedkkcbdhbbegaa.TmS4 Go.Proofs.Ytedkkcbdhbbegaa.TmS5 Go.Proofs.Ytedkkcbdhbbegaa.TmS8

def kE (k : List UInt8) : Value := .string ⟨k.toArray⟩
def eV (x : List UInt8 × Int) : List UInt8 × Value := (x.1, .int .i64 x.2)
theorem cE : KeyC .string kE := keyC_str
theorem get_eV (k : List UInt8) (m : List (List UInt8 × Int)) : getM k (m.map eV) = (getM k m).map (.int .i64) := by
  induction m with
  | nil => rfl
  | cons x m ih =>
    rw [List.map_cons, getM_cons, getM_cons, ih]
    show (if x.1 = k then _ else _) = _
    split <;> rfl
theorem put_eV (k : List UInt8) (d : Int) (m : List (List UInt8 × Int)) : putM k (.int .i64 d) (m.map eV) = (putM k d m).map eV := by
  unfold putM
  have hk : (m.map eV).map (·.1) = m.map (·.1) := by rw [List.map_map]; rfl
  rw [hk]
  split
  · rw [List.map_map, List.map_map]
    refine List.map_congr_left fun x _ => ?_
    show (if x.1 = k then _ else _) = eV (if x.1 = k then _ else _)
    split <;> rfl
  · rw [List.map_append]; rfl
theorem del_eV (k : List UInt8) (m : List (List UInt8 × Int)) : delM k (m.map eV) = (delM k m).map eV := by
  unfold delM
  rw [List.filter_map]
  rfl
/-- The map beside the sorted list. -/
structure RelM (l m : List (List UInt8 × Int)) : Prop where
  perm : m.Perm l
  srt : Srt ltK l
  nd : (keysOf l).Nodup
  pos : ∀ x ∈ l, 0 ≤ x.2
theorem RelM.ndm {l m : List (List UInt8 × Int)} (h : RelM l m) : (m.map (·.1)).Nodup := (h.perm.map (fun x : List UInt8 × Int => x.1)).nodup_iff.2 h.nd
theorem putM_perm {k : List UInt8} {d : Int} {m : List (List UInt8 × Int)} (hn : (m.map (·.1)).Nodup) : (putM k d m).Perm ((k, d) :: delM k m) := by
  refine (List.perm_ext_iff_of_nodup ?_ ?_).2 fun x => ?_
  · have := putM_nodup (k := k) (v := d) hn
    exact (List.pairwise_map.1 this).imp fun h e => h (by rw [e])
  · rw [List.nodup_cons]
    refine ⟨fun h => ?_, ?_⟩
    · unfold delM at h; simp at h
    · have : m.Nodup := (List.pairwise_map.1 hn).imp fun h e => h (by rw [e])
      exact this.filter _
  · obtain ⟨a, b⟩ := x
    have e1 : (a, b) ∈ putM k d m ↔ getM a (putM k d m) = some b := ⟨fun h => getM_of_mem (putM_nodup hn) h, getM_mem⟩
    rw [e1, getM_put, List.mem_cons]
    by_cases ha : a = k
    · subst ha
      simp [delM]
      constructor <;> (intro h; exact h.symm)
    · have e2 : (a, b) ∈ m ↔ getM a m = some b := ⟨fun h => getM_of_mem hn h, getM_mem⟩
      rw [if_neg ha, ← e2]
      simp [delM, ha]
theorem RelM.nil : RelM [] [] := ⟨List.Perm.refl _, List.Pairwise.nil, by simp [keysOf], by simp⟩
theorem RelM.set {l m : List (List UInt8 × Int)} (h : RelM l m) (k : List UInt8) (d : Int) (hd : 0 ≤ d) : RelM (setP ltK k d l) (putM k d m) := by
  refine ⟨?_, setP_srt ordK h.srt h.nd, setP_nodup h.nd, fun x hx => ?_⟩
  · refine (putM_perm h.ndm).trans (List.Perm.trans ?_ (setP_perm k d l).symm)
    refine List.Perm.cons _ ?_
    rw [cancelP_filter h.nd]
    exact h.perm.filter _
  · rcases (mem_setP h.nd x).1 hx with rfl | ⟨hx, _⟩
    · exact hd
    · exact h.pos x hx
theorem RelM.cancel {l m : List (List UInt8 × Int)} (h : RelM l m) (k : List UInt8) : RelM (cancelP k l) (delM k m) := by
  refine ⟨?_, cancelP_srt h.srt, cancelP_nodup h.nd, fun x hx => h.pos x ((cancelP_sub k l).subset hx)⟩
  rw [cancelP_filter h.nd]
  exact h.perm.filter _
theorem RelM.head {k : List UInt8} {d : Int} {l m : List (List UInt8 × Int)} (h : RelM ((k, d) :: l) m) : getM k m = some d ∧ RelM l (delM k m) := by
  have h2 := h.cancel k
  have e : cancelP k ((k, d) :: l) = l := by simp [cancelP]
  rw [e] at h2
  exact ⟨getM_of_mem h.ndm (h.perm.mem_iff.2 (List.mem_cons_self ..)), h2⟩
/-- How two that are next to each other stand. -/
theorem srt_next {l : List (List UInt8 × Int)} (h : Srt ltK l) {i : Nat} {k : List UInt8} {d : Int} {k' : List UInt8} {d' : Int} (h1 : l[i]? = some (k', d')) (h2 : l[i + 1]? = some (k, d)) : d' ≤ d ∧ (d = d' → k' < k) := by
  obtain ⟨hi, e1⟩ := List.getElem?_eq_some_iff.1 h1
  obtain ⟨hi2, e2⟩ := List.getElem?_eq_some_iff.1 h2
  have := List.pairwise_iff_getElem.1 h i (i + 1) hi hi2 (by omega)
  rw [e1, e2] at this
  simp only [bef, ltK, Bool.or_eq_true, Bool.and_eq_true, decide_eq_true_eq] at this
  constructor
  · omega
  · intro e; rcases this with h | ⟨_, h⟩
    · omega
    · exact h

/-- What is read of the two slices. -/
def CC (ab ao db do_ i : Nat) (x : List UInt8) (y : UInt8) (w : World) : Prop := w.cell? ⟨ab, ao + i, none⟩ = some (.string ⟨x.toArray⟩) ∧ w.cell? ⟨db, do_ + i, none⟩ = some (.int .u8 (y.toNat : Int))
def tr10 : Tr := .plain 0 (.plain 1 (.plain 2 (.plain 3 (.held 4 (.plain 5 (.plain 6 (.plain 7 (.held 8 (.plain 9 (.one 10 (.one 11 .done)))))))))))
def tr12 : Tr := .plain 0 (.plain 1 (.plain 2 (.plain 3 (.held 4 (.plain 5 (.plain 6 (.plain 7 (.held 8 (.plain 9 (.one 10 .done))))))))))
set_option maxRecDepth 100000 in
set_option maxHeartbeats 8000000 in
theorem words_walk (a : Option Addr) (len cap : Nat) (xs : List (List UInt8)) {W : World} (hlen : xs.length = len) (hsl : Sl W 1 (.slice a len cap) len (xs.flatMap Str.E)) (_hok : ∀ x ∈ xs, Str.Ok x)
    (a2 : Option Addr) (len2 cap2 : Nat) (ys : List UInt8) (hlen2 : ys.length = len2) (hsl2 : Sl W 1 (.slice a2 len2 cap2) len2 (ys.flatMap Byte.E)) (_hok2 : ∀ x ∈ ys, Byte.Ok x) :
    Calls Try.prog 6 #[.slice a len cap, .slice a2 len2 cap2] W (Law W emp) := by
  have h0 := St.start W
  have HLEN := Lib.hid hlen
  have HSL := Lib.hid hsl
  have HLEN2 := Lib.hid hlen2
  have HSL2 := Lib.hid hsl2
  clear hlen hsl hlen2 hsl2
  by_cases hbig : 40 < len
  · have HWK := Lib.hid (TmK3.wakes_any W)
    go_enter Try.func6, Try.ntmps6
    go_wp2_with fail
    refine HWK.out.mono ?_
    rintro e w1 hq
    have h1 := h0.makes hq
    obtain ⟨rfl, -⟩ := hq
    go_wp2
    go_ret
    exact ⟨rfl, h1⟩
  by_cases hfew : len2 < len
  · have HWK := Lib.hid (TmK3.wakes_any W)
    go_enter Try.func6, Try.ntmps6
    go_wp2_with fail
    refine HWK.out.mono ?_
    rintro e w1 hq
    have h1 := h0.makes hq
    obtain ⟨rfl, -⟩ := hq
    go_wp2
    go_ret
    exact ⟨rfl, h1⟩
  have HN := Lib.hid (New_any h0)
  have hmm := @run_makeMap Try.prog
  go_enter Try.func6, Try.ntmps6
  go_wp2_with fail
  refine HN.out.mono ?_
  rintro e w1 ⟨p, v, rfl, h1⟩
  have h2 := Mp.St.newMp kE h1
  go_wp2_with fail
  generalize w1.heap.size = mb at *
  clear hmm
  go_loopw [7] (fun iv wr => ∃ (i : Nat) (v : Value) (l m : List (List UInt8 × Int)), i ≤ len ∧ l.length ≤ i ∧ iv = .int .i64 i ∧ RelM l m ∧ (∀ x ∈ l, x.2 ≤ 255) ∧ St W wr (star (Mp kE mb (m.map eV)) (star (IsT p v l) emp))) (fun iv _ => len - (intOf iv).toNat)
  case atStart => exact ⟨0, v, [], [], Nat.zero_le _, Nat.le_refl _, rfl, RelM.nil, by simp, h2⟩
  case round =>
    obtain ⟨i, v, l, m, hi, hli, rfl, hrl, h255, hS⟩ := hrel
    have HRL := Lib.hid hrl
    have H255 := Lib.hid h255
    clear hrl h1 h2 HN h255
    by_cases hin : i < len
    · have hin2 : i < len2 := by omega
      obtain ⟨x, hx⟩ : ∃ x, xs[i]? = some x := ⟨_, List.getElem?_eq_getElem (by rw [HLEN.out]; exact hin)⟩
      obtain ⟨y, hy⟩ : ∃ y, ys[i]? = some y := ⟨_, List.getElem?_eq_getElem (by rw [HLEN2.out]; exact hin2)⟩
      obtain ⟨ab, ao, rfl, hel⟩ := str_at_all HSL.out hx
      obtain ⟨db, do_, rfl, hel2⟩ := byte_at_all HSL2.out hy
      have HC : Hid (∀ w A, St W w A → CC ab ao db do_ i x y w) := Lib.hid (fun w A h => ⟨hel w A h, hel2 w A h⟩)
      have hx0 := hel _ _ hS
      clear hel hel2 hx hy
      have hxz : (ByteArray.mk x.toArray).size = x.length := by simp [ByteArray.size]
      by_cases hlong : 30 < x.length
      · have HWK := Lib.hid (TmK3.wakes_any wr)
        go_wp2_with fail
        refine HWK.out.mono ?_
        rintro e w1 hq
        have h1 := hS.makes hq
        obtain ⟨rfl, -⟩ := hq
        go_wp2
        go_ret
        exact ⟨rfl, h1.forget⟩
      have hyb := y.toNat_lt
      have hy1 : (0 : Int) ≤ (y.toNat : Int) := by omega
      have hy2 : (y.toNat : Int) ≤ 4611686018427387904 := by omega
      have HSS := Lib.hid (Set_any p v l HRL.out.srt (by omega) x (y.toNat : Int) hy1 hy2 (R := star (Mp kE mb (m.map eV)) emp) ((hS.drew).eq (by ac_rfl)))
      have HR2 := Lib.hid (HRL.out.set x (y.toNat : Int) hy1)
      have HLS : Hid ((setP ltK x (y.toNat : Int) l).length ≤ i + 1) := Lib.hid (by have h1 := (setP_perm (lt := ltK) x (y.toNat : Int) l).length_eq; have h2 := (cancelP_sub x l).length_le; simp at h1; omega)
      have HB2 : Hid (∀ z ∈ setP ltK x (y.toNat : Int) l, z.2 ≤ 255) := Lib.hid (fun z hz => by
        rcases (mem_setP HRL.out.nd z).1 hz with rfl | ⟨hz, _⟩
        · show (y.toNat : Int) ≤ 255; omega
        · exact H255.out z hz)
      have hC1 := HC.out _ _ hS.drew
      have hcv : IntKind.i64.wrap (y.toNat : Int) = (y.toNat : Int) := by rw [IntKind.wrap_i64]; omega
      go_wp2_with fail
      refine wp_region_held (CC ab ao db do_ i x y) [10, 11] tr10 (by kernel_rfl) (by kernel_rfl) hC1 ?_
      unfold tr10
      refine tr_plain (.pointer (some ⟨p, 0, none⟩)) rfl ?_ (by simp only [nthOp, Act.put, List.setIfInBounds_toArray, List.set_cons_succ, List.set_cons_zero]; rfl) ?_
      · exact fun _ => rfl
      refine tr_plain (.slice (some ⟨ab, ao, none⟩) len cap) rfl ?_ (by simp only [nthOp, Act.put, List.setIfInBounds_toArray, List.set_cons_succ, List.set_cons_zero]; rfl) ?_
      · exact fun _ => rfl
      refine tr_plain (.int .i64 i) rfl ?_ (by simp only [nthOp, Act.put, List.setIfInBounds_toArray, List.set_cons_succ, List.set_cons_zero]; rfl) ?_
      · exact fun _ => rfl
      refine tr_plain (.pointer (some ⟨ab, ao + i, none⟩)) rfl ?_ (by simp only [nthOp, Act.put, List.setIfInBounds_toArray, List.set_cons_succ, List.set_cons_zero]; rfl) ?_
      · (intro w'; simp only [nthOp]; go_simp)
      refine tr_held (.string ⟨x.toArray⟩) rfl ?_ (by simp only [nthOp, Act.put, List.setIfInBounds_toArray, List.set_cons_succ, List.set_cons_zero]; rfl) ?_
      · (rintro w' ⟨hc1, -⟩; simp only [nthOp]; go_simp)
      refine tr_plain (.slice (some ⟨db, do_, none⟩) len2 cap2) rfl ?_ (by simp only [nthOp, Act.put, List.setIfInBounds_toArray, List.set_cons_succ, List.set_cons_zero]; rfl) ?_
      · exact fun _ => rfl
      refine tr_plain (.int .i64 i) rfl ?_ (by simp only [nthOp, Act.put, List.setIfInBounds_toArray, List.set_cons_succ, List.set_cons_zero]; rfl) ?_
      · exact fun _ => rfl
      refine tr_plain (.pointer (some ⟨db, do_ + i, none⟩)) rfl ?_ (by simp only [nthOp, Act.put, List.setIfInBounds_toArray, List.set_cons_succ, List.set_cons_zero]; rfl) ?_
      · (intro w'; simp only [nthOp]; go_simp)
      refine tr_held (.int .u8 (y.toNat : Int)) rfl ?_ (by simp only [nthOp, Act.put, List.setIfInBounds_toArray, List.set_cons_succ, List.set_cons_zero]; rfl) ?_
      · (rintro w' ⟨-, hc1⟩; simp only [nthOp]; go_simp)
      refine tr_plain (.int .i64 (y.toNat : Int)) rfl ?_ (by simp only [nthOp, Act.put, List.setIfInBounds_toArray, List.set_cons_succ, List.set_cons_zero]; rfl) ?_
      · (intro w'; simp only [nthOp]; go_simp)
      refine tr_one ?_
      simp only [nthOp]
      go_wp2_with fail
      refine HSS.out.mono ?_
      rintro e w9 ⟨rfl, v9, h9⟩
      have hC2 := HC.out _ _ h9.drew
      clear HSS hS hx0 hC1
      go_wp2_with fail
      simp only [Reg.Next]
      refine ⟨fun h => (by simp at h), tr_one ?_⟩
      simp only [nthOp]
      go_wp2_with fail
      simp only [Reg.Next]
      refine ⟨fun h => (by simp at h), tr_done ?_⟩
      have h10 := (h9.drew).eq (B := star (Mp kE mb (m.map eV)) (star (IsT p v9 (setP ltK x (y.toNat : Int) l)) emp)) (by ac_rfl)
      go_wp2_with fail
      refine wp_region_held (CC ab ao db do_ i x y) [10] tr12 (by kernel_rfl) (by kernel_rfl) hC2 ?_
      unfold tr12
      refine tr_plain (.map (some mb)) rfl ?_ (by simp only [nthOp, Act.put, List.setIfInBounds_toArray, List.set_cons_succ, List.set_cons_zero]; rfl) ?_
      · exact fun _ => rfl
      refine tr_plain (.slice (some ⟨ab, ao, none⟩) len cap) rfl ?_ (by simp only [nthOp, Act.put, List.setIfInBounds_toArray, List.set_cons_succ, List.set_cons_zero]; rfl) ?_
      · exact fun _ => rfl
      refine tr_plain (.int .i64 i) rfl ?_ (by simp only [nthOp, Act.put, List.setIfInBounds_toArray, List.set_cons_succ, List.set_cons_zero]; rfl) ?_
      · exact fun _ => rfl
      refine tr_plain (.pointer (some ⟨ab, ao + i, none⟩)) rfl ?_ (by simp only [nthOp, Act.put, List.setIfInBounds_toArray, List.set_cons_succ, List.set_cons_zero]; rfl) ?_
      · (intro w'; simp only [nthOp]; go_simp)
      refine tr_held (.string ⟨x.toArray⟩) rfl ?_ (by simp only [nthOp, Act.put, List.setIfInBounds_toArray, List.set_cons_succ, List.set_cons_zero]; rfl) ?_
      · (rintro w' ⟨hc1, -⟩; simp only [nthOp]; go_simp)
      refine tr_plain (.slice (some ⟨db, do_, none⟩) len2 cap2) rfl ?_ (by simp only [nthOp, Act.put, List.setIfInBounds_toArray, List.set_cons_succ, List.set_cons_zero]; rfl) ?_
      · exact fun _ => rfl
      refine tr_plain (.int .i64 i) rfl ?_ (by simp only [nthOp, Act.put, List.setIfInBounds_toArray, List.set_cons_succ, List.set_cons_zero]; rfl) ?_
      · exact fun _ => rfl
      refine tr_plain (.pointer (some ⟨db, do_ + i, none⟩)) rfl ?_ (by simp only [nthOp, Act.put, List.setIfInBounds_toArray, List.set_cons_succ, List.set_cons_zero]; rfl) ?_
      · (intro w'; simp only [nthOp]; go_simp)
      refine tr_held (.int .u8 (y.toNat : Int)) rfl ?_ (by simp only [nthOp, Act.put, List.setIfInBounds_toArray, List.set_cons_succ, List.set_cons_zero]; rfl) ?_
      · (rintro w' ⟨-, hc1⟩; simp only [nthOp]; go_simp)
      refine tr_plain (.int .i64 (y.toNat : Int)) rfl ?_ (by simp only [nthOp, Act.put, List.setIfInBounds_toArray, List.set_cons_succ, List.set_cons_zero]; rfl) ?_
      · (intro w'; simp only [nthOp]; go_simp)
      refine tr_one ?_
      simp only [nthOp]
      go_wp2_with (at_mapUpdate; refine wpList_mapUpdate cE rfl (.tmp 50) (.tmp 54) (.tmp 59) rfl Try.underlying52 Try.underlying9 rfl h10 x (.int .i64 (y.toNat : Int)) rfl rfl ?_; intro w11 h11)
      rw [put_eV] at h11
      simp only [Reg.Next]
      refine tr_done ?_
      go_wp2_with fail
      exact ⟨⟨i + 1, v9, _, _, by omega, HLS.out, by go_num, HR2.out, HB2.out, h11⟩, by simp [intOf]; omega⟩
    · obtain rfl : i = len := by omega
      have hn := Lib.hid (HRL.out.srt)
      have HOUT : Hid (outP 255 l = keysOf l) := Lib.hid (by
        unfold outP
        congr 1
        have e := List.takeWhile_append_of_pos (l₁ := l) (l₂ := []) (p := fun x : List UInt8 × Int => decide (x.2 ≤ 255)) (fun x hx => by simpa using H255.out x hx)
        simpa using e)
      have HREST : Hid (restP 255 l = []) := Lib.hid (by
        have e := out_rest 255 l
        have e2 : l.takeWhile (fun x => decide (x.2 ≤ 255)) = l := by
          have e := List.takeWhile_append_of_pos (l₁ := l) (l₂ := []) (p := fun x : List UInt8 × Int => decide (x.2 ≤ 255)) (fun x hx => by simpa using H255.out x hx)
          simpa using e
        have := congrArg List.length e
        rw [List.length_append, e2] at this
        exact List.length_eq_zero_iff.1 (by omega))
      have HP := Lib.hid (Pop_any p v l HRL.out.srt (by omega) 255 (R := star (Mp kE mb (m.map eV)) emp) (hS.eq (by ac_rfl)))
      have HLM : Hid ((m.map eV).length = l.length) := Lib.hid (by rw [List.length_map, HRL.out.perm.length_eq])
      have HLK : Hid ((outP 255 l).length = l.length) := Lib.hid (by rw [HOUT.out]; simp [keysOf])
      go_wp2_with fail
      refine HP.out.mono ?_
      rintro e w9 ⟨o, v9, rfl, h9⟩
      rw [HLK.out, HREST.out] at h9
      have HV : Hid (outV 255 l = (keysOf l).map kv) := Lib.hid (by unfold outV; rw [HOUT.out])
      rw [HV.out] at h9
      obtain ⟨_, oa, oc, rfl, _⟩ := id h9.rowSl
      have h10 := h9.eq (B := star (Mp kE mb (m.map eV)) (star (Row 9 1 (.slice oa l.length oc) l.length ((keysOf l).map kv)) (star (IsT p v9 []) emp))) (by ac_rfl)
      have hll : l.length ≤ 40 := by omega
      clear HP hS h9
      go_wp2_with (at_len; refine wpList_mapLen rfl (.tmp 64) rfl Try.underlying52 rfl h10 ?_; rw [HLM.out])
      go_loopw [9] (fun iv wr => ∃ j : Nat, j ≤ l.length ∧ iv = .int .i64 j ∧ St W wr (star (Mp kE mb (m.map eV)) (star (Row 9 1 (.slice oa l.length oc) l.length ((keysOf l).map kv)) (star (IsT p v9 []) emp)))) (fun iv _ => l.length - (intOf iv).toNat)
      case atStart => exact ⟨0, Nat.zero_le _, rfl, h10⟩
      case round =>
        obtain ⟨j, hj, rfl, hS⟩ := hrel
        clear h10
        by_cases hjn : j < l.length
        · obtain ⟨⟨k, d⟩, hx⟩ : ∃ x, l[j]? = some x := ⟨_, List.getElem?_eq_getElem hjn⟩
          have HLOOK : Hid (∀ (i : Nat) (k : List UInt8) (d : Int), l[i]? = some (k, d) → ∀ (w : World) (ok : Bool), St W w (star (Mp kE mb (m.map eV)) (star (Row 9 1 (.slice oa l.length oc) l.length ((keysOf l).map kv)) (star (IsT p v9 []) emp))) → (Instr.lookup 52 (.map (some mb)) (.string ⟨k.toArray⟩) ok).run Try.prog w = .ok (if ok then .tuple #[.int .i64 d, .bool true] else .int .i64 d) w) := Lib.hid (fun i k d hi w ok h => by
            have hg : getM k m = some d := getM_of_mem HRL.out.ndm (HRL.out.perm.mem_iff.2 (List.mem_of_getElem? hi))
            have h1 := run_lookup (P := Try.prog) cE Try.underlying52 Try.underlying9 (Try.zeroValue3 w) h k ok
            rw [get_eV, hg] at h1
            exact h1)
          have hcell : ∀ (i : Nat) (k : List UInt8) (d : Int), l[i]? = some (k, d) → ((keysOf l).map kv)[i]? = some (kv k) := fun i k d hi => by simp [keysOf, hi]
          obtain ⟨ob', oo', rfl, hel⟩ := sl_addr hS.right.rowSl (by simp [keysOf]; omega)
          have hoj := hel j _ (hcell j k d hx)
          have hlk0 : ∀ n, (Instr.lookup 52 (.map (some mb)) (.string ⟨k.toArray⟩) false).run Try.prog (wr.drewN n) = .ok (.int .i64 d) (wr.drewN n) := fun n => HLOOK.out j k d hx _ false (hS.drewN n)
          have hlk1 : ∀ n, (Instr.lookup 52 (.map (some mb)) (.string ⟨k.toArray⟩) true).run Try.prog (wr.drewN n) = .ok (.tuple #[.int .i64 d, .bool true]) (wr.drewN n) := fun n => HLOOK.out j k d hx _ true (hS.drewN n)
          have hjI : (j : Int) < l.length := by omega
          cases j with
          | zero =>
            clear hel hx hcell
            go_wp2_with fail
            go_big_quiet (fail)
            have h11 := hS.drewN nq
            have hoj2 : (wr.drewN nq).cell? ⟨ob', oo', none⟩ = some (kv k) := hoj
            have hlk2 := hlk1 nq
            go_wp2_with fail
            exact ⟨⟨1, hjn, rfl, h11⟩, by simp [intOf]; omega⟩
          | succ q =>
            obtain ⟨⟨k', d'⟩, hy⟩ : ∃ x, l[q]? = some x := ⟨_, List.getElem?_eq_getElem (by omega)⟩
            have hoq := hel q _ (hcell q k' d' hy)
            obtain ⟨hd1, hd2⟩ := srt_next HRL.out.srt hy hx
            have hlq : ∀ n, (Instr.lookup 52 (.map (some mb)) (.string ⟨k'.toArray⟩) false).run Try.prog (wr.drewN n) = .ok (.int .i64 d') (wr.drewN n) := fun n => HLOOK.out q k' d' hy _ false (hS.drewN n)
            have hj0 : decide ((0 : Int) < ((q + 1 : Nat) : Int)) = true := by rw [decide_eq_true_eq]; omega
            have hg1 : decide (d < d') = false := by rw [decide_eq_false_iff_not]; omega
            have hs1 : IntKind.i64.wrap (((q + 1 : Nat) : Int) - 1) = (q : Int) := by rw [IntKind.wrap_i64]; omega
            have hs2 : (((q + 1 : Nat) : Int) - 1) = (q : Int) := by omega
            have hqI : (q : Int) < l.length := by omega
            by_cases hdd : d' = d
            · have hddb : (d' == d) = true := by simpa using hdd
              have hbl : Op.bytesLess k' k = true := by rw [less_lt]; simpa using hd2 hdd.symm
              clear hel hx hy hcell hd1 hd2 hdd
              go_wp2_with fail
              go_big_quiet (fail)
              have h11 := hS.drewN nq
              have hoj2 : (wr.drewN nq).cell? ⟨ob', oo' + (q + 1), none⟩ = some (kv k) := hoj
              have hlk2 := hlk1 nq
              go_wp2_with fail
              exact ⟨⟨q + 1 + 1, hjn, by go_num, h11⟩, by simp [intOf]; omega⟩
            · have hddb : (d' == d) = false := by simpa using hdd
              clear hel hx hy hcell hd1 hd2 hdd
              go_wp2_with fail
              go_big_quiet (fail)
              have h11 := hS.drewN nq
              have hoj2 : (wr.drewN nq).cell? ⟨ob', oo' + (q + 1), none⟩ = some (kv k) := hoj
              have hlk2 := hlk1 nq
              go_wp2_with fail
              exact ⟨⟨q + 1 + 1, hjn, by go_num, h11⟩, by simp [intOf]; omega⟩
        · have hjl : j = l.length := by omega
          have HLN := Lib.hid (Len_any p v9 [] (hS.eq (B := star (IsT p v9 []) (star (Mp kE mb (m.map eV)) (star (Row 9 1 (.slice oa l.length oc) l.length ((keysOf l).map kv)) emp))) (by ac_rfl)))
          subst hjl
          go_wp2_with fail
          refine HLN.out.mono ?_
          rintro e w12 hq
          have h12 := hS.makes hq
          obtain ⟨rfl, -⟩ := hq
          have HWK := Lib.hid (TmK3.wakes_any w12)
          go_wp2_with fail
          refine HWK.out.mono ?_
          rintro e w13 hq
          have h13 := h12.makes hq
          obtain ⟨rfl, -⟩ := hq
          go_wp2
          go_ret
          exact ⟨rfl, h13.forget⟩
end Go.Proofs.Ytedkkcbdhbbegaa.TmV

