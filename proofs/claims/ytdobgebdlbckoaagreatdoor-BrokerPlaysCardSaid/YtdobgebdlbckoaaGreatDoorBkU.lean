import Derived.Test.YtdobgebdlbckoaaGreatDoorBkT
namespace Go.Proofs.YtdobgebdlbckoaaGreatDoor.BkU
open Go Go.Sort Go.RowKit Go.MapKept Go.Proofs Go.Proofs.YtdobgebdlbckoaaGreatDoor.Sep Go.Proofs.YtdobgebdlbckoaaGreatDoor.Reg Go.Proofs.YtdobgebdlbckoaaGreatDoor.Frame Go.Proofs.YtdobgebdlbckoaaGreatDoor.Mp Go.Proofs.YtdobgebdlbckoaaGreatDoor.MpR Go.Proofs.YtdobgebdlbckoaaGreatDoor.WdP Go.Proofs.YtdobgebdlbckoaaGreatDoor.TpP Go.Proofs.YtdobgebdlbckoaaGreatDoor.TpA Go.Proofs.YtdobgebdlbckoaaGreatDoor.TpB Go.Proofs.YtdobgebdlbckoaaGreatDoor.TpI Go.Proofs.YtdobgebdlbckoaaGreatDoor.BkP Go.Proofs.YtdobgebdlbckoaaGreatDoor.BkA Go.Proofs.YtdobgebdlbckoaaGreatDoor.BkR Go.Proofs.YtdobgebdlbckoaaGreatDoor.BkT
def sortI (l : List Int) : List Int := l.mergeSort fun x y => decide (x ≤ y)
theorem sortI_len (l : List Int) : (sortI l).length = l.length := (List.mergeSort_perm l _).length_eq
theorem sortI_perm {l m : List Int} (h : l.Perm m) : sortI l = sortI m := by
  have tr : ∀ a b c : Int, decide (a ≤ b) = true → decide (b ≤ c) = true → decide (a ≤ c) = true := by simp; omega
  have tot : ∀ a b : Int, (decide (a ≤ b) || decide (b ≤ a)) = true := by simp; omega
  refine List.Perm.eq_of_pairwise (le := fun a b => decide (a ≤ b) = true) ?_ (List.pairwise_mergeSort tr tot l) (List.pairwise_mergeSort tr tot m) ?_
  · intro a b _ _ h1 h2; simp at h1 h2; omega
  · exact ((List.mergeSort_perm l _).trans h).trans (List.mergeSort_perm m _).symm
theorem mp_nodup {W w : World} {b : Nat} {es : List (Int × Value)} {R : Asn} (h : St W w (star (Mp kI b es) R)) : (es.map (·.1)).Nodup := by
  obtain ⟨arr, clock, s, e, _⟩ := St.mp h
  have h1 := s.2.2
  have h2 : arr.toList.map (·.key) = (es.map (·.1)).map kI := by
    have := congrArg (List.map Prod.fst) e
    simpa [List.map_map, Function.comp_def] using this
  rw [h2] at h1
  exact List.Pairwise.of_map kI (fun a b hab h' => hab (by rw [h'])) h1
theorem holdsI {W w : World} {e g n cap : Nat} {zs : List Int} {R : Asn} (hz : zs.length = n) (h : St W w (star (Row e 1 (.slice (some ⟨g, 0, none⟩) n cap) n (zs.map kI)) R)) : Holds (Value.int .i64) w g 0 zs.toArray ∧ g < w.heap.size := by
  obtain ⟨_, hv⟩ := h.row
  rcases hv with ⟨hv, _⟩ | ⟨g', cap', cur, hv, hnc, hcm, hcs, htake, hS⟩
  · cases hv
  · cases hv
    refine ⟨fun j hj => ⟨?_, ?_⟩, hS.lt⟩
    · have hj2 : j < zs.length := by simpa using hj
      rw [Nat.zero_add]
      refine hS.cell j ?_
      have h1 : (cur.toList.take (n * 1))[j]? = (zs.map kI)[j]? := by rw [htake]
      rw [List.getElem?_take_of_lt (by omega)] at h1
      rw [← Array.getElem?_toList, h1, List.getElem?_map, List.getElem?_eq_getElem hj2, getElem!_pos zs.toArray j (by simpa using hj2)]
      simp [kI]
    · rw [Nat.zero_add]; exact hS.free j
def SPst (W : World) (bm : Nat) (es : List (Int × Value)) (R : Asn) (e : Ending) (w' : World) : Prop :=
  ∃ a c, e = .returned (.slice a es.length c) ∧ St W w' (star (Row 3 1 (.slice a es.length c) es.length ((sortI (es.map (·.1))).map kI)) (star (Mp kI bm es) R))
set_option maxRecDepth 100000 in
theorem Collect_any {W w : World} {R : Asn} (c1 bm : Nat) (es : List (Int × Value)) (hes : es.length ≤ 1000000) (h : St W w (star (pt c1 (.cells #[.map (some bm)] 58 (0, 0))) (star (Mp kI bm es) R))) :
    Calls Tryz.prog 58 #[.func (.func 60) #[] #[.pointer (some ⟨c1, 0, none⟩)]] w (APst W bm es R) := by
  have HA := Lib.hid (AppSeq_any c1 bm es hes h)
  clear h hes
  go_enter Tryz.func58, Tryz.ntmps58
  go_wp2_with fail
  refine HA.out.mono ?_
  rintro e w1 ⟨L, a, c, hL, rfl, h1⟩
  have HL := Lib.hid hL
  clear hL
  go_wp2
  go_ret
  exact ⟨L, a, c, HL.out, rfl, h1⟩
set_option maxRecDepth 100000 in
theorem Sorted_any {W w : World} {R : Asn} (c1 bm : Nat) (es : List (Int × Value)) (hes : es.length ≤ 1000000) (h : St W w (star (pt c1 (.cells #[.map (some bm)] 58 (0, 0))) (star (Mp kI bm es) R))) :
    Calls Tryz.prog 38 #[.func (.func 60) #[] #[.pointer (some ⟨c1, 0, none⟩)]] w (SPst W bm es R) := by
  have HA := Lib.hid (Collect_any c1 bm es hes h)
  have HD := Lib.hid (mp_nodup h.right)
  have HE := Lib.hid hes
  clear h hes
  go_enter Tryz.func38, Tryz.ntmps38
  go_wp2_with fail
  refine HA.out.mono ?_
  rintro e w1 ⟨L, a, c, hL, rfl, h1⟩
  have HL := Lib.hid (hL.done HD.out)
  have HS := Lib.hid (sortI_perm HL.out)
  have HN : Hid (L.length = es.length) := Lib.hid (by have := HL.out.length_eq; simpa using this)
  clear hL
  rcases Nat.eq_zero_or_pos L.length with h0 | h0
  · have HZ := Lib.hid (Tryz.slices_Sort_int_none a c w1)
    have e0 : L = [] := List.eq_nil_of_length_eq_zero h0
    subst e0
    clear h0 HA
    go_wp2_with fail
    refine HZ.out.mono ?_
    rintro e w2 ⟨rfl, rfl⟩
    go_wp2
    go_ret
    have hn : es.length = 0 := HN.out.symm
    refine ⟨a, c, by rw [hn]; rfl, ?_⟩
    rw [← HS.out, hn, show sortI [] = [] from by simp [sortI]]
    exact h1
  · obtain ⟨n, hn⟩ : ∃ n, L.length = n := ⟨_, rfl⟩
    rw [hn] at h1 h0 ⊢
    obtain ⟨ga, hga⟩ : ∃ g, a = some ⟨g, 0, none⟩ := by
      obtain ⟨_, hv⟩ := h1.row
      rcases hv with ⟨hv, hz, _⟩ | ⟨g', cap', cur, hv, _⟩
      · omega
      · cases hv; exact ⟨g', rfl⟩
    subst hga
    obtain ⟨hh, hg⟩ := holdsI hn h1
    have HZ := Tryz.slices_Sort_int ga 0 c L w1 hh hg (by have := HN.out; have := HE.out; omega)
    rw [hn] at HZ
    have HZ := Lib.hid HZ
    have HLN := Lib.hid hn
    clear h0 HA hh hg hn
    go_wp2_with fail
    refine HZ.out.mono ?_
    rintro e w2 ⟨rfl, k, os, rfl⟩
    have h2 := St.sorted (by rw [sortI_len]; exact HLN.out : (sortI L).length = n) h1 k os
    have h3 : St W (grow (putRow (Value.int .i64) (Sort.ahead w1 k) ga 0 (L.mergeSort fun x y => decide (x ≤ y)).toArray) os) _ := h2
    generalize grow (putRow (Value.int .i64) (Sort.ahead w1 k) ga 0 (L.mergeSort fun x y => decide (x ≤ y)).toArray) os = w3 at *
    clear h1 h2 HZ
    go_wp2
    go_ret
    obtain rfl : n = es.length := HLN.out.symm.trans HN.out
    refine ⟨_, c, rfl, ?_⟩
    rw [← HS.out]
    exact h3
set_option maxRecDepth 100000 in
theorem Members_any {W w : World} {R : Asn} (p : Nat) (b : BS) (h : St W w (star (IsB p b) R)) (hb : b.1.length ≤ 1000000) :
    Calls Tryz.prog 14 #[.pointer (some ⟨p, 0, none⟩)] w fun e w' => ∃ a c, e = .returned (.slice a b.1.length c) ∧ St W w' (star (Row 3 1 (.slice a b.1.length c) b.1.length ((sortI (b.1.map (·.1))).map kI)) (star (IsB p b) R)) := by
  obtain ⟨bm, rp, h1⟩ := St.isB h
  have HN := Lib.hid (BkA.none_any p bm w (h1.cell 0 rfl))
  have c0 := h1.cell 0 (v := .map (some bm)) rfl
  have h2 := h1.alloc (.cells #[.map (some bm)] 58)
  have el : (pubV b.1).length = b.1.length := by simp [pubV, mapV]
  have ek : (pubV b.1).map (·.1) = b.1.map (·.1) := by simp [pubV, mapV]
  have HS := Lib.hid (Sorted_any w.heap.size bm (pubV b.1) (by rw [el]; exact hb) (h2.eq (B := star (pt w.heap.size (.cells #[.map (some bm)] 58 (0, 0))) (star (Mp kI bm (pubV b.1)) (star (pt p (.cells #[.map (some bm), .pointer (some ⟨rp, 0, none⟩)] 72 (0, 0))) (star (IsR rp b.2) R)))) (by ac_rfl)))
  have EL := Lib.hid el
  have EK := Lib.hid ek
  clear h h2 el ek
  have HK : Hid (Calls Tryz.prog 39 #[.map (some bm)] w fun e w' => e = .returned (.func (.func 60) #[] #[.pointer (some ⟨w.heap.size, 0, none⟩)]) ∧ w' = w.alloc (.cells #[.map (some bm)] 58)) := Lib.hid (by
    clear HS HN h1
    go_enter Tryz.func39, Tryz.ntmps39
    go_wp2
    go_ret
    exact ⟨rfl, rfl⟩)
  clear h1
  go_enter Tryz.func14, Tryz.ntmps14
  go_wp2_with fail
  refine HN.out.mono ?_
  rintro e w1 ⟨rfl, rfl⟩
  clear HN
  go_wp2_with fail
  refine HK.out.mono ?_
  rintro e w2 ⟨rfl, rfl⟩
  clear HK
  go_wp2_with fail
  refine HS.out.mono ?_
  rintro e w3 ⟨a, c, rfl, h3⟩
  rw [EL.out, EK.out] at h3
  rw [EL.out]
  go_wp2
  go_ret
  exact ⟨a, c, rfl, (St.toB (b := b) (bm := bm) (rp := rp) (h3.eq (B := star (pt p (.cells #[.map (some bm), .pointer (some ⟨rp, 0, none⟩)] 72 (0, 0))) (star (Mp kI bm (pubV b.1)) (star (IsR rp b.2) (star (Row 3 1 (.slice a b.1.length c) b.1.length ((sortI (b.1.map (·.1))).map kI)) R)))) (by ac_rfl))).swap⟩
end Go.Proofs.YtdobgebdlbckoaaGreatDoor.BkU
