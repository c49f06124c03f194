import Derived.Test.YtcjlbimmplejjaaGreatDoorScQm
namespace Go.Proofs.YtcjlbimmplejjaaGreatDoor.ScPi
open Go Go.RowKit Go.Proofs Go.Proofs.YtcjlbimmplejjaaGreatDoor.Sep Go.Proofs.YtcjlbimmplejjaaGreatDoor.Reg Go.Proofs.YtcjlbimmplejjaaGreatDoor.Fork Go.Proofs.YtcjlbimmplejjaaGreatDoor.Held Go.Proofs.YtcjlbimmplejjaaGreatDoor.Frame Go.Proofs.YtcjlbimmplejjaaGreatDoor.Strs Go.Proofs.YtcjlbimmplejjaaGreatDoor.WdP Go.Proofs.YtcjlbimmplejjaaGreatDoor.WdT Go.Proofs.YtcjlbimmplejjaaGreatDoor.ScP Go.Proofs.YtcjlbimmplejjaaGreatDoor.ScB Go.Proofs.YtcjlbimmplejjaaGreatDoor.ScI Go.Proofs.YtcjlbimmplejjaaGreatDoor.ScM Go.Proofs.YtcjlbimmplejjaaGreatDoor.ScA Go.Proofs.YtcjlbimmplejjaaGreatDoor.ScW Go.Proofs.YtcjlbimmplejjaaGreatDoor.ScNu Go.Proofs.YtcjlbimmplejjaaGreatDoor.ScRp Go.Proofs.YtcjlbimmplejjaaGreatDoor.ScPa Go.Proofs.YtcjlbimmplejjaaGreatDoor.ScPb Go.Proofs.YtcjlbimmplejjaaGreatDoor.ScPf Go.Proofs.YtcjlbimmplejjaaGreatDoor.ScPh

theorem shp_inv {s : Tx} {h : Shp} (hs : shp s = some h) : shT h.k = .tuple #[.string ⟨s.toArray⟩, .bool h.c, .bool h.s, .int .i64 (match h.m with | some m => (m : Int) | none => -1)] ∧ 1 ≤ h.k ∧ kindV s = h.k ∧
    ((h.c = false ∧ h.s = false ∧ h.m = none) ∨ (h.c = true ∧ h.s = true ∧ h.m = none) ∨ (h.c = true ∧ h.s = false ∧ h.m = none) ∨ (∃ mm, mm ≤ 2147483647 ∧ h.c = true ∧ h.s = false ∧ h.m = some mm) ∨ (∃ mm, mm ≤ 2147483647 ∧ h.c = false ∧ h.s = false ∧ h.m = some mm)) := by
  have hk : kindV s = h.k := by unfold kindV; rw [hs]
  unfold shp at hs
  cases hf : shps.find? (fun e => e.1 == s) with
  | none => rw [hf] at hs; cases hs
  | some e =>
    rw [hf] at hs
    simp only [Option.map_some, Option.some.injEq] at hs
    subst hs
    have hm := List.mem_of_find?_eq_some hf
    have he : e.1 = s := by have := List.find?_some hf; simpa using this
    rw [← he] at hk ⊢
    clear hf he
    simp only [shps, List.mem_cons, List.not_mem_nil, or_false] at hm
    rcases hm with rfl | rfl | rfl | rfl | rfl | rfl | rfl | rfl | rfl
    · exact ⟨rfl, by decide, hk, .inl ⟨rfl, rfl, rfl⟩⟩
    · exact ⟨rfl, by decide, hk, .inl ⟨rfl, rfl, rfl⟩⟩
    · exact ⟨rfl, by decide, hk, .inr (.inl ⟨rfl, rfl, rfl⟩)⟩
    · exact ⟨rfl, by decide, hk, .inr (.inr (.inl ⟨rfl, rfl, rfl⟩))⟩
    · exact ⟨rfl, by decide, hk, .inr (.inr (.inr (.inl ⟨_, by decide, rfl, rfl, rfl⟩)))⟩
    · exact ⟨rfl, by decide, hk, .inr (.inr (.inr (.inl ⟨_, by decide, rfl, rfl, rfl⟩)))⟩
    · exact ⟨rfl, by decide, hk, .inr (.inr (.inr (.inr ⟨_, by decide, rfl, rfl, rfl⟩)))⟩
    · exact ⟨rfl, by decide, hk, .inr (.inr (.inr (.inr ⟨_, by decide, rfl, rfl, rfl⟩)))⟩
    · exact ⟨rfl, by decide, hk, .inr (.inr (.inr (.inr ⟨_, by decide, rfl, rfl, rfl⟩)))⟩
theorem numV_some {m : Nat} {s : Tx} {n : Nat} (h : numM m s = some n) : numV m s = n := by unfold numV; rw [h]
theorem numV_none {m : Nat} {s : Tx} (h : numM m s = none) : numV m s = -1 := by unfold numV; rw [h]
def APst (W : World) (l : List Tx) (R : Asn) (e : Ending) (w' : World) : Prop := ∃ (x : Ac) (b : Bool), e = .returned (.tuple #[.agg #[.int .u8 (x.k : Nat), .int .i64 x.c, .int .i64 x.n, .string ⟨x.s.toArray⟩], .bool b]) ∧ actR l = (if b then some x else none) ∧ (b = true → 1 ≤ x.k) ∧ St W w' R
set_option maxRecDepth 100000 in
set_option maxHeartbeats 16000000 in
theorem act_any {W w : World} {R : Asn} (a : Option Addr) (n c : Nat) (w0 : Tx) (r : List Tx) (hln : (w0 :: r).length = n) (hlen : ∀ x ∈ w0 :: r, x.length ≤ 1000000) (hn6 : n ≤ 1000000) (hsl : Sl W 1 (.slice a n c) n (strsV (w0 :: r))) (h : St W w R) :
    Calls Tryz.prog 54 #[.slice a n c] w (APst W (w0 :: r) R) := by
  obtain ⟨ab, ao, rfl, -⟩ := strs_at hsl (k := 0) (x := w0) rfl
  have HAT : Hid (∀ j x, (w0 :: r)[j]? = some x → ∀ w A, St W w A → w.cell? ⟨ab, ao + j, none⟩ = some (.string ⟨x.toArray⟩)) := Lib.hid fun j x hx => by
    obtain ⟨_, _, he, h2⟩ := strs_at hsl hx
    cases he
    exact h2
  have hcap : n ≤ c ∧ c ≤ 9223372036854775807 := by obtain ⟨_, _, _, hv, h1, h2, _⟩ := hsl; cases hv; exact ⟨h1, by simpa [maxLen] using h2⟩
  have hn0 : (0 : Int) < n := by rw [← hln]; simp only [List.length_cons]; omega
  have HLN := Lib.hid hln
  have HLE := Lib.hid hlen
  clear hsl hln hlen
  have hA := h.alloc (.cells #[.int .u8 0, .int .i64 0, .int .i64 0, .string ⟨#[]⟩] 34 (0, 0))
  obtain ⟨rb, hrb⟩ : ∃ z, w.heap.size = z := ⟨_, rfl⟩
  rw [hrb] at hA
  have c0 := HAT.out 0 w0 rfl _ _ hA
  rw [Nat.add_zero] at c0
  have HK := Lib.hid (kind_any w0 hA)
  clear h hA
  go_enter Tryz.func54, Tryz.ntmps54
  go_wp2_with fail
  refine HK.out.mono ?_
  rintro e w2 ⟨rfl, h2⟩
  clear c0 HK hrb
  generalize hkv : kindV w0 = kv at *
  have HKV := Lib.hid hkv
  clear hkv
  have h3 := h2.alloc (.cells #[.int .u8 (kv : Nat), .int .i64 0, .int .i64 0, .string ⟨#[]⟩] 34 (0, 0))
  obtain ⟨xb, hxb⟩ : ∃ z, w2.heap.size = z := ⟨_, rfl⟩
  rw [hxb] at h3
  have hS := h3.swap
  clear h2 h3
  go_upto_region 2 with fail
  clear hxb
  generalize w2.alloc (.cells #[.int .u8 (kv : Nat), .int .i64 0, .int .i64 0, .string ⟨#[]⟩] 34 (0, 0)) = w3 at *
  have hS : St W w3 (star (pt rb (.cells #[.int .u8 0, .int .i64 0, .int .i64 0, .string ⟨#[]⟩] 34 (0, 0))) (star (pt xb (.cells #[.int .u8 (kv : Nat), .int .i64 0, .int .i64 0, .string ⟨#[]⟩] 34 (0, 0))) R)) := hS
  have HSp := Lib.hid (Shape_any kv w3)
  have k0 := hS.right.cell 0 (v := .int .u8 (kv : Nat)) rfl
  have HS := Lib.hid hS
  clear hS
  cases hsp : shp w0 with
  | none =>
    have hkz : kv = 0 := by rw [← HKV.out]; unfold kindV; rw [hsp]
    have hkb : ((kv : Int) == 0) = true := by rw [hkz]; rfl
    have HV : Hid (actR (w0 :: r) = none) := Lib.hid (by simp only [actR]; rw [hsp]; rfl)
    rw [show shT kv = .tuple #[.string ⟨#[]⟩, .bool false, .bool false, .int .i64 (-1)] by rw [hkz]; rfl] at HSp
    have hS := HS.out
    clear HS hsp hkz
    go_wp2_with fail
    refine HSp.out.mono ?_
    rintro e w4 ⟨rfl, rfl⟩
    clear HSp k0
    have z0 := hS.cell 0 (v := .int .u8 0) rfl
    have g0 := hS.free 0
    have z1 := hS.cell 1 (v := .int .i64 0) rfl
    have g1 := hS.free 1
    have z2 := hS.cell 2 (v := .int .i64 0) rfl
    have g2 := hS.free 2
    have z3 := hS.cell 3 (v := .string ⟨#[]⟩) rfl
    have g3 := hS.free 3
    have k0 := hS.right.cell 0 (v := .int .u8 (kv : Nat)) rfl
    have k1 := hS.right.cell 1 (v := .int .i64 (0)) rfl
    have k2 := hS.right.cell 2 (v := .int .i64 (0)) rfl
    have k3 := hS.right.cell 3 (v := .string ⟨#[]⟩) rfl
    have hD := (((hS.setCell 0 (.int .u8 (kv : Nat))).setCell 1 (.int .i64 (0))).setCell 2 (.int .i64 (0))).setCell 3 (.string ⟨#[]⟩)
    have j0 := hD.cell 0 (v := .int .u8 (kv : Nat)) rfl
    have j1 := hD.cell 1 (v := .int .i64 (0)) rfl
    have j2 := hD.cell 2 (v := .int .i64 (0)) rfl
    have j3 := hD.cell 3 (v := .string ⟨#[]⟩) rfl
    have HEnd := Lib.hid hD.right.right
    clear hS hD
    go_wp2
    refine bodyPost_ret (v := .tuple #[.agg #[.int .u8 (kv : Nat), .int .i64 (0), .int .i64 (0), .string ⟨#[]⟩], .bool false]) (by simp [results, Tryz.results54, go_sem, j0, j1, j2, j3]) rfl ⟨⟨kv, 0, 0, []⟩, false, rfl, HV.out, (fun h => by cases h), HEnd.out⟩
  | some h =>
    obtain ⟨hT, hk1, hkk, hcs⟩ := shp_inv hsp
    obtain ⟨hk, hc, hs, hm⟩ := h
    simp only at hT hk1 hkk hcs
    rw [HKV.out] at hkk
    subst hkk
    rw [hT] at HSp
    have HACT : Hid (actR (w0 :: r) = takeR ⟨kv, hc, hs, hm⟩ r) := Lib.hid (by simp only [actR]; rw [hsp]; rfl)
    have HK1 := Lib.hid hk1
    have hkz : ((kv : Int) == 0) = false := by rw [beq_eq_false_iff_ne]; omega
    clear hsp hT hk1
    rcases hcs with ⟨rfl, rfl, rfl⟩ | ⟨rfl, rfl, rfl⟩ | ⟨rfl, rfl, rfl⟩ | ⟨mm, hmm, rfl, rfl, rfl⟩ | ⟨mm, hmm, rfl, rfl, rfl⟩
    · skip
      have hS := HS.out
      clear HS
      go_wp2_with fail
      refine HSp.out.mono ?_
      rintro e w4 ⟨rfl, rfl⟩
      have k0 := hS.right.cell 0 (v := .int .u8 (kv : Nat)) rfl
      clear HSp
      cases r with
      | nil =>
        have hnn : n = 1 := by have := HLN.out; simpa using this.symm
        subst hnn
        have HV : Hid (actR (w0 :: []) = some ⟨kv, 0, 0, []⟩) := Lib.hid (by rw [HACT.out]; simp [takeR, hdN, hdT])
        have z0 := hS.cell 0 (v := .int .u8 0) rfl
        have g0 := hS.free 0
        have z1 := hS.cell 1 (v := .int .i64 0) rfl
        have g1 := hS.free 1
        have z2 := hS.cell 2 (v := .int .i64 0) rfl
        have g2 := hS.free 2
        have z3 := hS.cell 3 (v := .string ⟨#[]⟩) rfl
        have g3 := hS.free 3
        have k0 := hS.right.cell 0 (v := .int .u8 (kv : Nat)) rfl
        have k1 := hS.right.cell 1 (v := .int .i64 (0)) rfl
        have k2 := hS.right.cell 2 (v := .int .i64 (0)) rfl
        have k3 := hS.right.cell 3 (v := .string ⟨#[]⟩) rfl
        have hD := (((hS.setCell 0 (.int .u8 (kv : Nat))).setCell 1 (.int .i64 (0))).setCell 2 (.int .i64 (0))).setCell 3 (.string ⟨#[]⟩)
        have j0 := hD.cell 0 (v := .int .u8 (kv : Nat)) rfl
        have j1 := hD.cell 1 (v := .int .i64 (0)) rfl
        have j2 := hD.cell 2 (v := .int .i64 (0)) rfl
        have j3 := hD.cell 3 (v := .string ⟨#[]⟩) rfl
        have HEnd := Lib.hid hD.right.right
        clear hS hD
        go_wp2
        refine bodyPost_ret (v := .tuple #[.agg #[.int .u8 (kv : Nat), .int .i64 (0), .int .i64 (0), .string ⟨#[]⟩], .bool true]) (by simp [results, Tryz.results54, go_sem, j0, j1, j2, j3]) rfl ⟨⟨kv, 0, 0, []⟩, true, rfl, HV.out, fun _ => HK1.out, HEnd.out⟩
      | cons wz rz =>
        have hnn : 1 < n := by have h5 := HLN.out; simp only [List.length_cons] at h5; omega
        have heq : ((1 : Int) == (n : Int)) = false := by rw [beq_eq_false_iff_ne]; omega
        have HV : Hid (actR (w0 :: wz :: rz) = none) := Lib.hid (by rw [HACT.out]; simp [takeR, hdN, hdT])
        have z0 := hS.cell 0 (v := .int .u8 0) rfl
        have g0 := hS.free 0
        have z1 := hS.cell 1 (v := .int .i64 0) rfl
        have g1 := hS.free 1
        have z2 := hS.cell 2 (v := .int .i64 0) rfl
        have g2 := hS.free 2
        have z3 := hS.cell 3 (v := .string ⟨#[]⟩) rfl
        have g3 := hS.free 3
        have k0 := hS.right.cell 0 (v := .int .u8 (kv : Nat)) rfl
        have k1 := hS.right.cell 1 (v := .int .i64 (0)) rfl
        have k2 := hS.right.cell 2 (v := .int .i64 (0)) rfl
        have k3 := hS.right.cell 3 (v := .string ⟨#[]⟩) rfl
        have hD := (((hS.setCell 0 (.int .u8 (kv : Nat))).setCell 1 (.int .i64 (0))).setCell 2 (.int .i64 (0))).setCell 3 (.string ⟨#[]⟩)
        have j0 := hD.cell 0 (v := .int .u8 (kv : Nat)) rfl
        have j1 := hD.cell 1 (v := .int .i64 (0)) rfl
        have j2 := hD.cell 2 (v := .int .i64 (0)) rfl
        have j3 := hD.cell 3 (v := .string ⟨#[]⟩) rfl
        have HEnd := Lib.hid hD.right.right
        clear hS hD
        go_wp2
        refine bodyPost_ret (v := .tuple #[.agg #[.int .u8 (kv : Nat), .int .i64 (0), .int .i64 (0), .string ⟨#[]⟩], .bool false]) (by simp [results, Tryz.results54, go_sem, j0, j1, j2, j3]) rfl ⟨⟨kv, 0, 0, []⟩, false, rfl, HV.out, (fun h => by cases h), HEnd.out⟩
    · skip
      have hS := HS.out
      clear HS
      go_wp2_with fail
      refine HSp.out.mono ?_
      rintro e w4 ⟨rfl, rfl⟩
      have k0 := hS.right.cell 0 (v := .int .u8 (kv : Nat)) rfl
      clear HSp
      cases r with
      | nil =>
        have hge : (1 : Int) ≥ (n : Int) := by have h5 := HLN.out; simp only [List.length_cons, List.length_nil] at h5; omega
        have HV : Hid (actR (w0 :: []) = none) := Lib.hid (by rw [HACT.out]; simp [takeR, hdN, hdT])
        have z0 := hS.cell 0 (v := .int .u8 0) rfl
        have g0 := hS.free 0
        have z1 := hS.cell 1 (v := .int .i64 0) rfl
        have g1 := hS.free 1
        have z2 := hS.cell 2 (v := .int .i64 0) rfl
        have g2 := hS.free 2
        have z3 := hS.cell 3 (v := .string ⟨#[]⟩) rfl
        have g3 := hS.free 3
        have k0 := hS.right.cell 0 (v := .int .u8 (kv : Nat)) rfl
        have k1 := hS.right.cell 1 (v := .int .i64 (0)) rfl
        have k2 := hS.right.cell 2 (v := .int .i64 (0)) rfl
        have k3 := hS.right.cell 3 (v := .string ⟨#[]⟩) rfl
        have hD := (((hS.setCell 0 (.int .u8 (kv : Nat))).setCell 1 (.int .i64 (0))).setCell 2 (.int .i64 (0))).setCell 3 (.string ⟨#[]⟩)
        have j0 := hD.cell 0 (v := .int .u8 (kv : Nat)) rfl
        have j1 := hD.cell 1 (v := .int .i64 (0)) rfl
        have j2 := hD.cell 2 (v := .int .i64 (0)) rfl
        have j3 := hD.cell 3 (v := .string ⟨#[]⟩) rfl
        have HEnd := Lib.hid hD.right.right
        clear hS hD
        go_wp2
        refine bodyPost_ret (v := .tuple #[.agg #[.int .u8 (kv : Nat), .int .i64 (0), .int .i64 (0), .string ⟨#[]⟩], .bool false]) (by simp [results, Tryz.results54, go_sem, j0, j1, j2, j3]) rfl ⟨⟨kv, 0, 0, []⟩, false, rfl, HV.out, (fun h => by cases h), HEnd.out⟩
      | cons w1 r1 =>
        have hlt1 : (1 : Int) < (n : Int) := by have h5 := HLN.out; simp only [List.length_cons] at h5; omega
        have hge1 : ¬ (1 : Int) ≥ (n : Int) := by omega
        cases hvc : numM 7 w1 with
        | none =>
          have HV : Hid (actR (w0 :: w1 :: r1) = none) := Lib.hid (by rw [HACT.out]; simp [takeR, hdN, hdT, hvc])
          have q0 := HAT.out 1 w1 rfl _ _ hS
          have HNu := Lib.hid (rNumber_any w1 7 (by omega) hS)
          rw [numV_none hvc] at HNu
          clear hS hvc
          go_wp2_with fail
          refine HNu.out.mono ?_
          rintro e u1 ⟨rfl, hS⟩
          clear q0 HNu
          have z0 := hS.cell 0 (v := .int .u8 0) rfl
          have g0 := hS.free 0
          have z1 := hS.cell 1 (v := .int .i64 0) rfl
          have g1 := hS.free 1
          have z2 := hS.cell 2 (v := .int .i64 0) rfl
          have g2 := hS.free 2
          have z3 := hS.cell 3 (v := .string ⟨#[]⟩) rfl
          have g3 := hS.free 3
          have k0 := hS.right.cell 0 (v := .int .u8 (kv : Nat)) rfl
          have k1 := hS.right.cell 1 (v := .int .i64 (0)) rfl
          have k2 := hS.right.cell 2 (v := .int .i64 (0)) rfl
          have k3 := hS.right.cell 3 (v := .string ⟨#[]⟩) rfl
          have hD := (((hS.setCell 0 (.int .u8 (kv : Nat))).setCell 1 (.int .i64 (0))).setCell 2 (.int .i64 (0))).setCell 3 (.string ⟨#[]⟩)
          have j0 := hD.cell 0 (v := .int .u8 (kv : Nat)) rfl
          have j1 := hD.cell 1 (v := .int .i64 (0)) rfl
          have j2 := hD.cell 2 (v := .int .i64 (0)) rfl
          have j3 := hD.cell 3 (v := .string ⟨#[]⟩) rfl
          have HEnd := Lib.hid hD.right.right
          clear hS hD
          go_wp2
          refine bodyPost_ret (v := .tuple #[.agg #[.int .u8 (kv : Nat), .int .i64 (0), .int .i64 (0), .string ⟨#[]⟩], .bool false]) (by simp [results, Tryz.results54, go_sem, j0, j1, j2, j3]) rfl ⟨⟨kv, 0, 0, []⟩, false, rfl, HV.out, (fun h => by cases h), HEnd.out⟩
        | some vc =>
          have q0 := HAT.out 1 w1 rfl _ _ hS
          have HNu := Lib.hid (rNumber_any w1 7 (by omega) hS)
          rw [numV_some hvc] at HNu
          clear hS
          go_wp2_with fail
          refine HNu.out.mono ?_
          rintro e u1a ⟨rfl, hS⟩
          clear q0 HNu
          have hvz : ¬ (vc : Int) < 0 := by omega
          have q0 := HAT.out 1 w1 rfl _ _ hS
          have HNu := Lib.hid (rNumber_any w1 7 (by omega) hS)
          rw [numV_some hvc] at HNu
          clear hS
          go_wp2_with fail
          refine HNu.out.mono ?_
          rintro e u1b ⟨rfl, hS⟩
          clear q0 HNu hvz
          have q1 := hS.right.cell 1 (v := .int .i64 (0)) rfl
          have q2 := hS.right.free 1
          have hSn := (hS.swap.setCell 1 (.int .i64 (vc : Int))).swap
          clear hS
          go_upto_region 10 with fail
          clear q1 q2
          generalize hw1 : World.setCell _ _ _ = u1bc at *
          clear hw1
          have hS : St W u1bc (star (pt rb (.cells #[.int .u8 0, .int .i64 0, .int .i64 0, .string ⟨#[]⟩] 34 (0, 0))) (star (pt xb (.cells #[.int .u8 (kv : Nat), .int .i64 ((vc : Int)), .int .i64 (0), .string ⟨#[]⟩] 34 (0, 0))) R)) := hSn
          clear hSn
          cases r1 with
          | nil =>
            have hge : (2 : Int) ≥ (n : Int) := by have h5 := HLN.out; simp only [List.length_cons, List.length_nil] at h5; omega
            have HV : Hid (actR (w0 :: w1 :: []) = none) := Lib.hid (by rw [HACT.out]; simp [takeR, hdN, hdT, hvc])
            have z0 := hS.cell 0 (v := .int .u8 0) rfl
            have g0 := hS.free 0
            have z1 := hS.cell 1 (v := .int .i64 0) rfl
            have g1 := hS.free 1
            have z2 := hS.cell 2 (v := .int .i64 0) rfl
            have g2 := hS.free 2
            have z3 := hS.cell 3 (v := .string ⟨#[]⟩) rfl
            have g3 := hS.free 3
            have k0 := hS.right.cell 0 (v := .int .u8 (kv : Nat)) rfl
            have k1 := hS.right.cell 1 (v := .int .i64 ((vc : Int))) rfl
            have k2 := hS.right.cell 2 (v := .int .i64 (0)) rfl
            have k3 := hS.right.cell 3 (v := .string ⟨#[]⟩) rfl
            have hD := (((hS.setCell 0 (.int .u8 (kv : Nat))).setCell 1 (.int .i64 ((vc : Int)))).setCell 2 (.int .i64 (0))).setCell 3 (.string ⟨#[]⟩)
            have j0 := hD.cell 0 (v := .int .u8 (kv : Nat)) rfl
            have j1 := hD.cell 1 (v := .int .i64 ((vc : Int))) rfl
            have j2 := hD.cell 2 (v := .int .i64 (0)) rfl
            have j3 := hD.cell 3 (v := .string ⟨#[]⟩) rfl
            have HEnd := Lib.hid hD.right.right
            clear hS hD
            go_wp2
            refine bodyPost_ret (v := .tuple #[.agg #[.int .u8 (kv : Nat), .int .i64 ((vc : Int)), .int .i64 (0), .string ⟨#[]⟩], .bool false]) (by simp [results, Tryz.results54, go_sem, j0, j1, j2, j3]) rfl ⟨⟨kv, (vc : Int), 0, []⟩, false, rfl, HV.out, (fun h => by cases h), HEnd.out⟩
          | cons w2 r2 =>
            have hlt2 : (2 : Int) < (n : Int) := by have h5 := HLN.out; simp only [List.length_cons] at h5; omega
            have hge2 : ¬ (2 : Int) ≥ (n : Int) := by omega
            have q0 := HAT.out 2 w2 rfl _ _ hS
            have HTx := Lib.hid (text_any w2 (HLE.out w2 (by simp)) hS)
            clear hS
            go_wp2_with fail
            refine HTx.out.mono ?_
            rintro e u2 ⟨tt, tb, rfl, htx, -, hS⟩
            clear q0 HTx
            cases tb with
            | false =>
              have htx2 : textR w2 = none := htx
              have HV : Hid (actR (w0 :: w1 :: w2 :: r2) = none) := Lib.hid (by rw [HACT.out]; simp [takeR, hdN, hdT, hvc, htx2])
              clear htx htx2
              have z0 := hS.cell 0 (v := .int .u8 0) rfl
              have g0 := hS.free 0
              have z1 := hS.cell 1 (v := .int .i64 0) rfl
              have g1 := hS.free 1
              have z2 := hS.cell 2 (v := .int .i64 0) rfl
              have g2 := hS.free 2
              have z3 := hS.cell 3 (v := .string ⟨#[]⟩) rfl
              have g3 := hS.free 3
              have k0 := hS.right.cell 0 (v := .int .u8 (kv : Nat)) rfl
              have k1 := hS.right.cell 1 (v := .int .i64 ((vc : Int))) rfl
              have k2 := hS.right.cell 2 (v := .int .i64 (0)) rfl
              have k3 := hS.right.cell 3 (v := .string ⟨#[]⟩) rfl
              have hD := (((hS.setCell 0 (.int .u8 (kv : Nat))).setCell 1 (.int .i64 ((vc : Int)))).setCell 2 (.int .i64 (0))).setCell 3 (.string ⟨#[]⟩)
              have j0 := hD.cell 0 (v := .int .u8 (kv : Nat)) rfl
              have j1 := hD.cell 1 (v := .int .i64 ((vc : Int))) rfl
              have j2 := hD.cell 2 (v := .int .i64 (0)) rfl
              have j3 := hD.cell 3 (v := .string ⟨#[]⟩) rfl
              have HEnd := Lib.hid hD.right.right
              clear hS hD
              go_wp2
              refine bodyPost_ret (v := .tuple #[.agg #[.int .u8 (kv : Nat), .int .i64 ((vc : Int)), .int .i64 (0), .string ⟨#[]⟩], .bool false]) (by simp [results, Tryz.results54, go_sem, j0, j1, j2, j3]) rfl ⟨⟨kv, (vc : Int), 0, []⟩, false, rfl, HV.out, (fun h => by cases h), HEnd.out⟩
            | true =>
              have htx2 : textR w2 = some tt := htx
              clear htx
              have q1 := hS.right.cell 3 (v := .string ⟨#[]⟩) rfl
              have q2 := hS.right.free 3
              have hSn := (hS.swap.setCell 3 (.string ⟨tt.toArray⟩)).swap
              clear hS
              have HTT := Lib.hid htx2
              clear htx2
              go_upto_region 18 with fail
              clear q1 q2
              generalize hw2 : World.setCell _ _ _ = u2c at *
              clear hw2
              have hS : St W u2c (star (pt rb (.cells #[.int .u8 0, .int .i64 0, .int .i64 0, .string ⟨#[]⟩] 34 (0, 0))) (star (pt xb (.cells #[.int .u8 (kv : Nat), .int .i64 ((vc : Int)), .int .i64 (0), .string ⟨tt.toArray⟩] 34 (0, 0))) R)) := hSn
              clear hSn
              cases r2 with
              | nil =>
                have hnn : n = 3 := by have := HLN.out; simpa using this.symm
                subst hnn
                have HV : Hid (actR (w0 :: w1 :: w2 :: []) = some ⟨kv, (vc : Int), 0, tt⟩) := Lib.hid (by rw [HACT.out]; simp [takeR, hdN, hdT, hvc, HTT.out])
                have z0 := hS.cell 0 (v := .int .u8 0) rfl
                have g0 := hS.free 0
                have z1 := hS.cell 1 (v := .int .i64 0) rfl
                have g1 := hS.free 1
                have z2 := hS.cell 2 (v := .int .i64 0) rfl
                have g2 := hS.free 2
                have z3 := hS.cell 3 (v := .string ⟨#[]⟩) rfl
                have g3 := hS.free 3
                have k0 := hS.right.cell 0 (v := .int .u8 (kv : Nat)) rfl
                have k1 := hS.right.cell 1 (v := .int .i64 ((vc : Int))) rfl
                have k2 := hS.right.cell 2 (v := .int .i64 (0)) rfl
                have k3 := hS.right.cell 3 (v := .string ⟨tt.toArray⟩) rfl
                have hD := (((hS.setCell 0 (.int .u8 (kv : Nat))).setCell 1 (.int .i64 ((vc : Int)))).setCell 2 (.int .i64 (0))).setCell 3 (.string ⟨tt.toArray⟩)
                have j0 := hD.cell 0 (v := .int .u8 (kv : Nat)) rfl
                have j1 := hD.cell 1 (v := .int .i64 ((vc : Int))) rfl
                have j2 := hD.cell 2 (v := .int .i64 (0)) rfl
                have j3 := hD.cell 3 (v := .string ⟨tt.toArray⟩) rfl
                have HEnd := Lib.hid hD.right.right
                clear hS hD
                go_wp2
                refine bodyPost_ret (v := .tuple #[.agg #[.int .u8 (kv : Nat), .int .i64 ((vc : Int)), .int .i64 (0), .string ⟨tt.toArray⟩], .bool true]) (by simp [results, Tryz.results54, go_sem, j0, j1, j2, j3]) rfl ⟨⟨kv, (vc : Int), 0, tt⟩, true, rfl, HV.out, fun _ => HK1.out, HEnd.out⟩
              | cons wz rz =>
                have hnn : 3 < n := by have h5 := HLN.out; simp only [List.length_cons] at h5; omega
                have heq : ((3 : Int) == (n : Int)) = false := by rw [beq_eq_false_iff_ne]; omega
                have HV : Hid (actR (w0 :: w1 :: w2 :: wz :: rz) = none) := Lib.hid (by rw [HACT.out]; simp [takeR, hdN, hdT, hvc, HTT.out])
                have z0 := hS.cell 0 (v := .int .u8 0) rfl
                have g0 := hS.free 0
                have z1 := hS.cell 1 (v := .int .i64 0) rfl
                have g1 := hS.free 1
                have z2 := hS.cell 2 (v := .int .i64 0) rfl
                have g2 := hS.free 2
                have z3 := hS.cell 3 (v := .string ⟨#[]⟩) rfl
                have g3 := hS.free 3
                have k0 := hS.right.cell 0 (v := .int .u8 (kv : Nat)) rfl
                have k1 := hS.right.cell 1 (v := .int .i64 ((vc : Int))) rfl
                have k2 := hS.right.cell 2 (v := .int .i64 (0)) rfl
                have k3 := hS.right.cell 3 (v := .string ⟨tt.toArray⟩) rfl
                have hD := (((hS.setCell 0 (.int .u8 (kv : Nat))).setCell 1 (.int .i64 ((vc : Int)))).setCell 2 (.int .i64 (0))).setCell 3 (.string ⟨tt.toArray⟩)
                have j0 := hD.cell 0 (v := .int .u8 (kv : Nat)) rfl
                have j1 := hD.cell 1 (v := .int .i64 ((vc : Int))) rfl
                have j2 := hD.cell 2 (v := .int .i64 (0)) rfl
                have j3 := hD.cell 3 (v := .string ⟨tt.toArray⟩) rfl
                have HEnd := Lib.hid hD.right.right
                clear hS hD
                go_wp2
                refine bodyPost_ret (v := .tuple #[.agg #[.int .u8 (kv : Nat), .int .i64 ((vc : Int)), .int .i64 (0), .string ⟨tt.toArray⟩], .bool false]) (by simp [results, Tryz.results54, go_sem, j0, j1, j2, j3]) rfl ⟨⟨kv, (vc : Int), 0, tt⟩, false, rfl, HV.out, (fun h => by cases h), HEnd.out⟩
    · skip
      have hS := HS.out
      clear HS
      go_wp2_with fail
      refine HSp.out.mono ?_
      rintro e w4 ⟨rfl, rfl⟩
      have k0 := hS.right.cell 0 (v := .int .u8 (kv : Nat)) rfl
      clear HSp
      cases r with
      | nil =>
        have hge : (1 : Int) ≥ (n : Int) := by have h5 := HLN.out; simp only [List.length_cons, List.length_nil] at h5; omega
        have HV : Hid (actR (w0 :: []) = none) := Lib.hid (by rw [HACT.out]; simp [takeR, hdN, hdT])
        have z0 := hS.cell 0 (v := .int .u8 0) rfl
        have g0 := hS.free 0
        have z1 := hS.cell 1 (v := .int .i64 0) rfl
        have g1 := hS.free 1
        have z2 := hS.cell 2 (v := .int .i64 0) rfl
        have g2 := hS.free 2
        have z3 := hS.cell 3 (v := .string ⟨#[]⟩) rfl
        have g3 := hS.free 3
        have k0 := hS.right.cell 0 (v := .int .u8 (kv : Nat)) rfl
        have k1 := hS.right.cell 1 (v := .int .i64 (0)) rfl
        have k2 := hS.right.cell 2 (v := .int .i64 (0)) rfl
        have k3 := hS.right.cell 3 (v := .string ⟨#[]⟩) rfl
        have hD := (((hS.setCell 0 (.int .u8 (kv : Nat))).setCell 1 (.int .i64 (0))).setCell 2 (.int .i64 (0))).setCell 3 (.string ⟨#[]⟩)
        have j0 := hD.cell 0 (v := .int .u8 (kv : Nat)) rfl
        have j1 := hD.cell 1 (v := .int .i64 (0)) rfl
        have j2 := hD.cell 2 (v := .int .i64 (0)) rfl
        have j3 := hD.cell 3 (v := .string ⟨#[]⟩) rfl
        have HEnd := Lib.hid hD.right.right
        clear hS hD
        go_wp2
        refine bodyPost_ret (v := .tuple #[.agg #[.int .u8 (kv : Nat), .int .i64 (0), .int .i64 (0), .string ⟨#[]⟩], .bool false]) (by simp [results, Tryz.results54, go_sem, j0, j1, j2, j3]) rfl ⟨⟨kv, 0, 0, []⟩, false, rfl, HV.out, (fun h => by cases h), HEnd.out⟩
      | cons w1 r1 =>
        have hlt1 : (1 : Int) < (n : Int) := by have h5 := HLN.out; simp only [List.length_cons] at h5; omega
        have hge1 : ¬ (1 : Int) ≥ (n : Int) := by omega
        cases hvc : numM 7 w1 with
        | none =>
          have HV : Hid (actR (w0 :: w1 :: r1) = none) := Lib.hid (by rw [HACT.out]; simp [takeR, hdN, hdT, hvc])
          have q0 := HAT.out 1 w1 rfl _ _ hS
          have HNu := Lib.hid (rNumber_any w1 7 (by omega) hS)
          rw [numV_none hvc] at HNu
          clear hS hvc
          go_wp2_with fail
          refine HNu.out.mono ?_
          rintro e u3 ⟨rfl, hS⟩
          clear q0 HNu
          have z0 := hS.cell 0 (v := .int .u8 0) rfl
          have g0 := hS.free 0
          have z1 := hS.cell 1 (v := .int .i64 0) rfl
          have g1 := hS.free 1
          have z2 := hS.cell 2 (v := .int .i64 0) rfl
          have g2 := hS.free 2
          have z3 := hS.cell 3 (v := .string ⟨#[]⟩) rfl
          have g3 := hS.free 3
          have k0 := hS.right.cell 0 (v := .int .u8 (kv : Nat)) rfl
          have k1 := hS.right.cell 1 (v := .int .i64 (0)) rfl
          have k2 := hS.right.cell 2 (v := .int .i64 (0)) rfl
          have k3 := hS.right.cell 3 (v := .string ⟨#[]⟩) rfl
          have hD := (((hS.setCell 0 (.int .u8 (kv : Nat))).setCell 1 (.int .i64 (0))).setCell 2 (.int .i64 (0))).setCell 3 (.string ⟨#[]⟩)
          have j0 := hD.cell 0 (v := .int .u8 (kv : Nat)) rfl
          have j1 := hD.cell 1 (v := .int .i64 (0)) rfl
          have j2 := hD.cell 2 (v := .int .i64 (0)) rfl
          have j3 := hD.cell 3 (v := .string ⟨#[]⟩) rfl
          have HEnd := Lib.hid hD.right.right
          clear hS hD
          go_wp2
          refine bodyPost_ret (v := .tuple #[.agg #[.int .u8 (kv : Nat), .int .i64 (0), .int .i64 (0), .string ⟨#[]⟩], .bool false]) (by simp [results, Tryz.results54, go_sem, j0, j1, j2, j3]) rfl ⟨⟨kv, 0, 0, []⟩, false, rfl, HV.out, (fun h => by cases h), HEnd.out⟩
        | some vc =>
          have q0 := HAT.out 1 w1 rfl _ _ hS
          have HNu := Lib.hid (rNumber_any w1 7 (by omega) hS)
          rw [numV_some hvc] at HNu
          clear hS
          go_wp2_with fail
          refine HNu.out.mono ?_
          rintro e u3a ⟨rfl, hS⟩
          clear q0 HNu
          have hvz : ¬ (vc : Int) < 0 := by omega
          have q0 := HAT.out 1 w1 rfl _ _ hS
          have HNu := Lib.hid (rNumber_any w1 7 (by omega) hS)
          rw [numV_some hvc] at HNu
          clear hS
          go_wp2_with fail
          refine HNu.out.mono ?_
          rintro e u3b ⟨rfl, hS⟩
          clear q0 HNu hvz
          have q1 := hS.right.cell 1 (v := .int .i64 (0)) rfl
          have q2 := hS.right.free 1
          have hSn := (hS.swap.setCell 1 (.int .i64 (vc : Int))).swap
          clear hS
          go_upto_region 10 with fail
          clear q1 q2
          generalize hw3 : World.setCell _ _ _ = u3bc at *
          clear hw3
          have hS : St W u3bc (star (pt rb (.cells #[.int .u8 0, .int .i64 0, .int .i64 0, .string ⟨#[]⟩] 34 (0, 0))) (star (pt xb (.cells #[.int .u8 (kv : Nat), .int .i64 ((vc : Int)), .int .i64 (0), .string ⟨#[]⟩] 34 (0, 0))) R)) := hSn
          clear hSn
          cases r1 with
          | nil =>
            have hnn : n = 2 := by have := HLN.out; simpa using this.symm
            subst hnn
            have HV : Hid (actR (w0 :: w1 :: []) = some ⟨kv, (vc : Int), 0, []⟩) := Lib.hid (by rw [HACT.out]; simp [takeR, hdN, hdT, hvc])
            have z0 := hS.cell 0 (v := .int .u8 0) rfl
            have g0 := hS.free 0
            have z1 := hS.cell 1 (v := .int .i64 0) rfl
            have g1 := hS.free 1
            have z2 := hS.cell 2 (v := .int .i64 0) rfl
            have g2 := hS.free 2
            have z3 := hS.cell 3 (v := .string ⟨#[]⟩) rfl
            have g3 := hS.free 3
            have k0 := hS.right.cell 0 (v := .int .u8 (kv : Nat)) rfl
            have k1 := hS.right.cell 1 (v := .int .i64 ((vc : Int))) rfl
            have k2 := hS.right.cell 2 (v := .int .i64 (0)) rfl
            have k3 := hS.right.cell 3 (v := .string ⟨#[]⟩) rfl
            have hD := (((hS.setCell 0 (.int .u8 (kv : Nat))).setCell 1 (.int .i64 ((vc : Int)))).setCell 2 (.int .i64 (0))).setCell 3 (.string ⟨#[]⟩)
            have j0 := hD.cell 0 (v := .int .u8 (kv : Nat)) rfl
            have j1 := hD.cell 1 (v := .int .i64 ((vc : Int))) rfl
            have j2 := hD.cell 2 (v := .int .i64 (0)) rfl
            have j3 := hD.cell 3 (v := .string ⟨#[]⟩) rfl
            have HEnd := Lib.hid hD.right.right
            clear hS hD
            go_wp2
            refine bodyPost_ret (v := .tuple #[.agg #[.int .u8 (kv : Nat), .int .i64 ((vc : Int)), .int .i64 (0), .string ⟨#[]⟩], .bool true]) (by simp [results, Tryz.results54, go_sem, j0, j1, j2, j3]) rfl ⟨⟨kv, (vc : Int), 0, []⟩, true, rfl, HV.out, fun _ => HK1.out, HEnd.out⟩
          | cons wz rz =>
            have hnn : 2 < n := by have h5 := HLN.out; simp only [List.length_cons] at h5; omega
            have heq : ((2 : Int) == (n : Int)) = false := by rw [beq_eq_false_iff_ne]; omega
            have HV : Hid (actR (w0 :: w1 :: wz :: rz) = none) := Lib.hid (by rw [HACT.out]; simp [takeR, hdN, hdT, hvc])
            have z0 := hS.cell 0 (v := .int .u8 0) rfl
            have g0 := hS.free 0
            have z1 := hS.cell 1 (v := .int .i64 0) rfl
            have g1 := hS.free 1
            have z2 := hS.cell 2 (v := .int .i64 0) rfl
            have g2 := hS.free 2
            have z3 := hS.cell 3 (v := .string ⟨#[]⟩) rfl
            have g3 := hS.free 3
            have k0 := hS.right.cell 0 (v := .int .u8 (kv : Nat)) rfl
            have k1 := hS.right.cell 1 (v := .int .i64 ((vc : Int))) rfl
            have k2 := hS.right.cell 2 (v := .int .i64 (0)) rfl
            have k3 := hS.right.cell 3 (v := .string ⟨#[]⟩) rfl
            have hD := (((hS.setCell 0 (.int .u8 (kv : Nat))).setCell 1 (.int .i64 ((vc : Int)))).setCell 2 (.int .i64 (0))).setCell 3 (.string ⟨#[]⟩)
            have j0 := hD.cell 0 (v := .int .u8 (kv : Nat)) rfl
            have j1 := hD.cell 1 (v := .int .i64 ((vc : Int))) rfl
            have j2 := hD.cell 2 (v := .int .i64 (0)) rfl
            have j3 := hD.cell 3 (v := .string ⟨#[]⟩) rfl
            have HEnd := Lib.hid hD.right.right
            clear hS hD
            go_wp2
            refine bodyPost_ret (v := .tuple #[.agg #[.int .u8 (kv : Nat), .int .i64 ((vc : Int)), .int .i64 (0), .string ⟨#[]⟩], .bool false]) (by simp [results, Tryz.results54, go_sem, j0, j1, j2, j3]) rfl ⟨⟨kv, (vc : Int), 0, []⟩, false, rfl, HV.out, (fun h => by cases h), HEnd.out⟩
    · skip
      have hS := HS.out
      clear HS
      have hge0 : (mm : Int) ≥ 0 := by omega
      go_wp2_with fail
      refine HSp.out.mono ?_
      rintro e w4 ⟨rfl, rfl⟩
      have k0 := hS.right.cell 0 (v := .int .u8 (kv : Nat)) rfl
      clear HSp
      cases r with
      | nil =>
        have hge : (1 : Int) ≥ (n : Int) := by have h5 := HLN.out; simp only [List.length_cons, List.length_nil] at h5; omega
        have HV : Hid (actR (w0 :: []) = none) := Lib.hid (by rw [HACT.out]; simp [takeR, hdN, hdT])
        have z0 := hS.cell 0 (v := .int .u8 0) rfl
        have g0 := hS.free 0
        have z1 := hS.cell 1 (v := .int .i64 0) rfl
        have g1 := hS.free 1
        have z2 := hS.cell 2 (v := .int .i64 0) rfl
        have g2 := hS.free 2
        have z3 := hS.cell 3 (v := .string ⟨#[]⟩) rfl
        have g3 := hS.free 3
        have k0 := hS.right.cell 0 (v := .int .u8 (kv : Nat)) rfl
        have k1 := hS.right.cell 1 (v := .int .i64 (0)) rfl
        have k2 := hS.right.cell 2 (v := .int .i64 (0)) rfl
        have k3 := hS.right.cell 3 (v := .string ⟨#[]⟩) rfl
        have hD := (((hS.setCell 0 (.int .u8 (kv : Nat))).setCell 1 (.int .i64 (0))).setCell 2 (.int .i64 (0))).setCell 3 (.string ⟨#[]⟩)
        have j0 := hD.cell 0 (v := .int .u8 (kv : Nat)) rfl
        have j1 := hD.cell 1 (v := .int .i64 (0)) rfl
        have j2 := hD.cell 2 (v := .int .i64 (0)) rfl
        have j3 := hD.cell 3 (v := .string ⟨#[]⟩) rfl
        have HEnd := Lib.hid hD.right.right
        clear hS hD
        go_wp2
        refine bodyPost_ret (v := .tuple #[.agg #[.int .u8 (kv : Nat), .int .i64 (0), .int .i64 (0), .string ⟨#[]⟩], .bool false]) (by simp [results, Tryz.results54, go_sem, j0, j1, j2, j3]) rfl ⟨⟨kv, 0, 0, []⟩, false, rfl, HV.out, (fun h => by cases h), HEnd.out⟩
      | cons w1 r1 =>
        have hlt1 : (1 : Int) < (n : Int) := by have h5 := HLN.out; simp only [List.length_cons] at h5; omega
        have hge1 : ¬ (1 : Int) ≥ (n : Int) := by omega
        cases hvc : numM 7 w1 with
        | none =>
          have HV : Hid (actR (w0 :: w1 :: r1) = none) := Lib.hid (by rw [HACT.out]; simp [takeR, hdN, hdT, hvc])
          have q0 := HAT.out 1 w1 rfl _ _ hS
          have HNu := Lib.hid (rNumber_any w1 7 (by omega) hS)
          rw [numV_none hvc] at HNu
          clear hS hvc
          go_wp2_with fail
          refine HNu.out.mono ?_
          rintro e u4 ⟨rfl, hS⟩
          clear q0 HNu
          have z0 := hS.cell 0 (v := .int .u8 0) rfl
          have g0 := hS.free 0
          have z1 := hS.cell 1 (v := .int .i64 0) rfl
          have g1 := hS.free 1
          have z2 := hS.cell 2 (v := .int .i64 0) rfl
          have g2 := hS.free 2
          have z3 := hS.cell 3 (v := .string ⟨#[]⟩) rfl
          have g3 := hS.free 3
          have k0 := hS.right.cell 0 (v := .int .u8 (kv : Nat)) rfl
          have k1 := hS.right.cell 1 (v := .int .i64 (0)) rfl
          have k2 := hS.right.cell 2 (v := .int .i64 (0)) rfl
          have k3 := hS.right.cell 3 (v := .string ⟨#[]⟩) rfl
          have hD := (((hS.setCell 0 (.int .u8 (kv : Nat))).setCell 1 (.int .i64 (0))).setCell 2 (.int .i64 (0))).setCell 3 (.string ⟨#[]⟩)
          have j0 := hD.cell 0 (v := .int .u8 (kv : Nat)) rfl
          have j1 := hD.cell 1 (v := .int .i64 (0)) rfl
          have j2 := hD.cell 2 (v := .int .i64 (0)) rfl
          have j3 := hD.cell 3 (v := .string ⟨#[]⟩) rfl
          have HEnd := Lib.hid hD.right.right
          clear hS hD
          go_wp2
          refine bodyPost_ret (v := .tuple #[.agg #[.int .u8 (kv : Nat), .int .i64 (0), .int .i64 (0), .string ⟨#[]⟩], .bool false]) (by simp [results, Tryz.results54, go_sem, j0, j1, j2, j3]) rfl ⟨⟨kv, 0, 0, []⟩, false, rfl, HV.out, (fun h => by cases h), HEnd.out⟩
        | some vc =>
          have q0 := HAT.out 1 w1 rfl _ _ hS
          have HNu := Lib.hid (rNumber_any w1 7 (by omega) hS)
          rw [numV_some hvc] at HNu
          clear hS
          go_wp2_with fail
          refine HNu.out.mono ?_
          rintro e u4a ⟨rfl, hS⟩
          clear q0 HNu
          have hvz : ¬ (vc : Int) < 0 := by omega
          have q0 := HAT.out 1 w1 rfl _ _ hS
          have HNu := Lib.hid (rNumber_any w1 7 (by omega) hS)
          rw [numV_some hvc] at HNu
          clear hS
          go_wp2_with fail
          refine HNu.out.mono ?_
          rintro e u4b ⟨rfl, hS⟩
          clear q0 HNu hvz
          have q1 := hS.right.cell 1 (v := .int .i64 (0)) rfl
          have q2 := hS.right.free 1
          have hSn := (hS.swap.setCell 1 (.int .i64 (vc : Int))).swap
          clear hS
          go_upto_region 10 with fail
          clear q1 q2
          generalize hw4 : World.setCell _ _ _ = u4bc at *
          clear hw4
          have hS : St W u4bc (star (pt rb (.cells #[.int .u8 0, .int .i64 0, .int .i64 0, .string ⟨#[]⟩] 34 (0, 0))) (star (pt xb (.cells #[.int .u8 (kv : Nat), .int .i64 ((vc : Int)), .int .i64 (0), .string ⟨#[]⟩] 34 (0, 0))) R)) := hSn
          clear hSn
          cases r1 with
          | nil =>
            have hge : (2 : Int) ≥ (n : Int) := by have h5 := HLN.out; simp only [List.length_cons, List.length_nil] at h5; omega
            have HV : Hid (actR (w0 :: w1 :: []) = none) := Lib.hid (by rw [HACT.out]; simp [takeR, hdN, hdT, hvc])
            have z0 := hS.cell 0 (v := .int .u8 0) rfl
            have g0 := hS.free 0
            have z1 := hS.cell 1 (v := .int .i64 0) rfl
            have g1 := hS.free 1
            have z2 := hS.cell 2 (v := .int .i64 0) rfl
            have g2 := hS.free 2
            have z3 := hS.cell 3 (v := .string ⟨#[]⟩) rfl
            have g3 := hS.free 3
            have k0 := hS.right.cell 0 (v := .int .u8 (kv : Nat)) rfl
            have k1 := hS.right.cell 1 (v := .int .i64 ((vc : Int))) rfl
            have k2 := hS.right.cell 2 (v := .int .i64 (0)) rfl
            have k3 := hS.right.cell 3 (v := .string ⟨#[]⟩) rfl
            have hD := (((hS.setCell 0 (.int .u8 (kv : Nat))).setCell 1 (.int .i64 ((vc : Int)))).setCell 2 (.int .i64 (0))).setCell 3 (.string ⟨#[]⟩)
            have j0 := hD.cell 0 (v := .int .u8 (kv : Nat)) rfl
            have j1 := hD.cell 1 (v := .int .i64 ((vc : Int))) rfl
            have j2 := hD.cell 2 (v := .int .i64 (0)) rfl
            have j3 := hD.cell 3 (v := .string ⟨#[]⟩) rfl
            have HEnd := Lib.hid hD.right.right
            clear hS hD
            go_wp2
            refine bodyPost_ret (v := .tuple #[.agg #[.int .u8 (kv : Nat), .int .i64 ((vc : Int)), .int .i64 (0), .string ⟨#[]⟩], .bool false]) (by simp [results, Tryz.results54, go_sem, j0, j1, j2, j3]) rfl ⟨⟨kv, (vc : Int), 0, []⟩, false, rfl, HV.out, (fun h => by cases h), HEnd.out⟩
          | cons w2 r2 =>
            have hlt2 : (2 : Int) < (n : Int) := by have h5 := HLN.out; simp only [List.length_cons] at h5; omega
            have hge2 : ¬ (2 : Int) ≥ (n : Int) := by omega
            cases hvn : numM mm w2 with
            | none =>
              have HV : Hid (actR (w0 :: w1 :: w2 :: r2) = none) := Lib.hid (by rw [HACT.out]; simp [takeR, hdN, hdT, hvc, hvn])
              have q0 := HAT.out 2 w2 rfl _ _ hS
              have HNu := Lib.hid (rNumber_any w2 mm (by omega) hS)
              rw [numV_none hvn] at HNu
              clear hS hvn
              go_wp2_with fail
              refine HNu.out.mono ?_
              rintro e u5 ⟨rfl, hS⟩
              clear q0 HNu
              have z0 := hS.cell 0 (v := .int .u8 0) rfl
              have g0 := hS.free 0
              have z1 := hS.cell 1 (v := .int .i64 0) rfl
              have g1 := hS.free 1
              have z2 := hS.cell 2 (v := .int .i64 0) rfl
              have g2 := hS.free 2
              have z3 := hS.cell 3 (v := .string ⟨#[]⟩) rfl
              have g3 := hS.free 3
              have k0 := hS.right.cell 0 (v := .int .u8 (kv : Nat)) rfl
              have k1 := hS.right.cell 1 (v := .int .i64 ((vc : Int))) rfl
              have k2 := hS.right.cell 2 (v := .int .i64 (0)) rfl
              have k3 := hS.right.cell 3 (v := .string ⟨#[]⟩) rfl
              have hD := (((hS.setCell 0 (.int .u8 (kv : Nat))).setCell 1 (.int .i64 ((vc : Int)))).setCell 2 (.int .i64 (0))).setCell 3 (.string ⟨#[]⟩)
              have j0 := hD.cell 0 (v := .int .u8 (kv : Nat)) rfl
              have j1 := hD.cell 1 (v := .int .i64 ((vc : Int))) rfl
              have j2 := hD.cell 2 (v := .int .i64 (0)) rfl
              have j3 := hD.cell 3 (v := .string ⟨#[]⟩) rfl
              have HEnd := Lib.hid hD.right.right
              clear hS hD
              go_wp2
              refine bodyPost_ret (v := .tuple #[.agg #[.int .u8 (kv : Nat), .int .i64 ((vc : Int)), .int .i64 (0), .string ⟨#[]⟩], .bool false]) (by simp [results, Tryz.results54, go_sem, j0, j1, j2, j3]) rfl ⟨⟨kv, (vc : Int), 0, []⟩, false, rfl, HV.out, (fun h => by cases h), HEnd.out⟩
            | some vn =>
              have q0 := HAT.out 2 w2 rfl _ _ hS
              have HNu := Lib.hid (rNumber_any w2 mm (by omega) hS)
              rw [numV_some hvn] at HNu
              clear hS
              go_wp2_with fail
              refine HNu.out.mono ?_
              rintro e u5a ⟨rfl, hS⟩
              clear q0 HNu
              have hvz : ¬ (vn : Int) < 0 := by omega
              have q0 := HAT.out 2 w2 rfl _ _ hS
              have HNu := Lib.hid (rNumber_any w2 mm (by omega) hS)
              rw [numV_some hvn] at HNu
              clear hS
              go_wp2_with fail
              refine HNu.out.mono ?_
              rintro e u5b ⟨rfl, hS⟩
              clear q0 HNu hvz
              have q1 := hS.right.cell 2 (v := .int .i64 (0)) rfl
              have q2 := hS.right.free 2
              have hSn := (hS.swap.setCell 2 (.int .i64 (vn : Int))).swap
              clear hS
              go_upto_region 23 with fail
              clear q1 q2
              generalize hw5 : World.setCell _ _ _ = u5bc at *
              clear hw5
              have hS : St W u5bc (star (pt rb (.cells #[.int .u8 0, .int .i64 0, .int .i64 0, .string ⟨#[]⟩] 34 (0, 0))) (star (pt xb (.cells #[.int .u8 (kv : Nat), .int .i64 ((vc : Int)), .int .i64 ((vn : Int)), .string ⟨#[]⟩] 34 (0, 0))) R)) := hSn
              clear hSn
              cases r2 with
              | nil =>
                have hnn : n = 3 := by have := HLN.out; simpa using this.symm
                subst hnn
                have HV : Hid (actR (w0 :: w1 :: w2 :: []) = some ⟨kv, (vc : Int), (vn : Int), []⟩) := Lib.hid (by rw [HACT.out]; simp [takeR, hdN, hdT, hvc, hvn])
                have z0 := hS.cell 0 (v := .int .u8 0) rfl
                have g0 := hS.free 0
                have z1 := hS.cell 1 (v := .int .i64 0) rfl
                have g1 := hS.free 1
                have z2 := hS.cell 2 (v := .int .i64 0) rfl
                have g2 := hS.free 2
                have z3 := hS.cell 3 (v := .string ⟨#[]⟩) rfl
                have g3 := hS.free 3
                have k0 := hS.right.cell 0 (v := .int .u8 (kv : Nat)) rfl
                have k1 := hS.right.cell 1 (v := .int .i64 ((vc : Int))) rfl
                have k2 := hS.right.cell 2 (v := .int .i64 ((vn : Int))) rfl
                have k3 := hS.right.cell 3 (v := .string ⟨#[]⟩) rfl
                have hD := (((hS.setCell 0 (.int .u8 (kv : Nat))).setCell 1 (.int .i64 ((vc : Int)))).setCell 2 (.int .i64 ((vn : Int)))).setCell 3 (.string ⟨#[]⟩)
                have j0 := hD.cell 0 (v := .int .u8 (kv : Nat)) rfl
                have j1 := hD.cell 1 (v := .int .i64 ((vc : Int))) rfl
                have j2 := hD.cell 2 (v := .int .i64 ((vn : Int))) rfl
                have j3 := hD.cell 3 (v := .string ⟨#[]⟩) rfl
                have HEnd := Lib.hid hD.right.right
                clear hS hD
                go_wp2
                refine bodyPost_ret (v := .tuple #[.agg #[.int .u8 (kv : Nat), .int .i64 ((vc : Int)), .int .i64 ((vn : Int)), .string ⟨#[]⟩], .bool true]) (by simp [results, Tryz.results54, go_sem, j0, j1, j2, j3]) rfl ⟨⟨kv, (vc : Int), (vn : Int), []⟩, true, rfl, HV.out, fun _ => HK1.out, HEnd.out⟩
              | cons wz rz =>
                have hnn : 3 < n := by have h5 := HLN.out; simp only [List.length_cons] at h5; omega
                have heq : ((3 : Int) == (n : Int)) = false := by rw [beq_eq_false_iff_ne]; omega
                have HV : Hid (actR (w0 :: w1 :: w2 :: wz :: rz) = none) := Lib.hid (by rw [HACT.out]; simp [takeR, hdN, hdT, hvc, hvn])
                have z0 := hS.cell 0 (v := .int .u8 0) rfl
                have g0 := hS.free 0
                have z1 := hS.cell 1 (v := .int .i64 0) rfl
                have g1 := hS.free 1
                have z2 := hS.cell 2 (v := .int .i64 0) rfl
                have g2 := hS.free 2
                have z3 := hS.cell 3 (v := .string ⟨#[]⟩) rfl
                have g3 := hS.free 3
                have k0 := hS.right.cell 0 (v := .int .u8 (kv : Nat)) rfl
                have k1 := hS.right.cell 1 (v := .int .i64 ((vc : Int))) rfl
                have k2 := hS.right.cell 2 (v := .int .i64 ((vn : Int))) rfl
                have k3 := hS.right.cell 3 (v := .string ⟨#[]⟩) rfl
                have hD := (((hS.setCell 0 (.int .u8 (kv : Nat))).setCell 1 (.int .i64 ((vc : Int)))).setCell 2 (.int .i64 ((vn : Int)))).setCell 3 (.string ⟨#[]⟩)
                have j0 := hD.cell 0 (v := .int .u8 (kv : Nat)) rfl
                have j1 := hD.cell 1 (v := .int .i64 ((vc : Int))) rfl
                have j2 := hD.cell 2 (v := .int .i64 ((vn : Int))) rfl
                have j3 := hD.cell 3 (v := .string ⟨#[]⟩) rfl
                have HEnd := Lib.hid hD.right.right
                clear hS hD
                go_wp2
                refine bodyPost_ret (v := .tuple #[.agg #[.int .u8 (kv : Nat), .int .i64 ((vc : Int)), .int .i64 ((vn : Int)), .string ⟨#[]⟩], .bool false]) (by simp [results, Tryz.results54, go_sem, j0, j1, j2, j3]) rfl ⟨⟨kv, (vc : Int), (vn : Int), []⟩, false, rfl, HV.out, (fun h => by cases h), HEnd.out⟩
    · skip
      have hS := HS.out
      clear HS
      have hge0 : (mm : Int) ≥ 0 := by omega
      go_wp2_with fail
      refine HSp.out.mono ?_
      rintro e w4 ⟨rfl, rfl⟩
      have k0 := hS.right.cell 0 (v := .int .u8 (kv : Nat)) rfl
      clear HSp
      cases r with
      | nil =>
        have hge : (1 : Int) ≥ (n : Int) := by have h5 := HLN.out; simp only [List.length_cons, List.length_nil] at h5; omega
        have HV : Hid (actR (w0 :: []) = none) := Lib.hid (by rw [HACT.out]; simp [takeR, hdN, hdT])
        have z0 := hS.cell 0 (v := .int .u8 0) rfl
        have g0 := hS.free 0
        have z1 := hS.cell 1 (v := .int .i64 0) rfl
        have g1 := hS.free 1
        have z2 := hS.cell 2 (v := .int .i64 0) rfl
        have g2 := hS.free 2
        have z3 := hS.cell 3 (v := .string ⟨#[]⟩) rfl
        have g3 := hS.free 3
        have k0 := hS.right.cell 0 (v := .int .u8 (kv : Nat)) rfl
        have k1 := hS.right.cell 1 (v := .int .i64 (0)) rfl
        have k2 := hS.right.cell 2 (v := .int .i64 (0)) rfl
        have k3 := hS.right.cell 3 (v := .string ⟨#[]⟩) rfl
        have hD := (((hS.setCell 0 (.int .u8 (kv : Nat))).setCell 1 (.int .i64 (0))).setCell 2 (.int .i64 (0))).setCell 3 (.string ⟨#[]⟩)
        have j0 := hD.cell 0 (v := .int .u8 (kv : Nat)) rfl
        have j1 := hD.cell 1 (v := .int .i64 (0)) rfl
        have j2 := hD.cell 2 (v := .int .i64 (0)) rfl
        have j3 := hD.cell 3 (v := .string ⟨#[]⟩) rfl
        have HEnd := Lib.hid hD.right.right
        clear hS hD
        go_wp2
        refine bodyPost_ret (v := .tuple #[.agg #[.int .u8 (kv : Nat), .int .i64 (0), .int .i64 (0), .string ⟨#[]⟩], .bool false]) (by simp [results, Tryz.results54, go_sem, j0, j1, j2, j3]) rfl ⟨⟨kv, 0, 0, []⟩, false, rfl, HV.out, (fun h => by cases h), HEnd.out⟩
      | cons w1 r1 =>
        have hlt1 : (1 : Int) < (n : Int) := by have h5 := HLN.out; simp only [List.length_cons] at h5; omega
        have hge1 : ¬ (1 : Int) ≥ (n : Int) := by omega
        cases hvn : numM mm w1 with
        | none =>
          have HV : Hid (actR (w0 :: w1 :: r1) = none) := Lib.hid (by rw [HACT.out]; simp [takeR, hdN, hdT, hvn])
          have q0 := HAT.out 1 w1 rfl _ _ hS
          have HNu := Lib.hid (rNumber_any w1 mm (by omega) hS)
          rw [numV_none hvn] at HNu
          clear hS hvn
          go_wp2_with fail
          refine HNu.out.mono ?_
          rintro e u6 ⟨rfl, hS⟩
          clear q0 HNu
          have z0 := hS.cell 0 (v := .int .u8 0) rfl
          have g0 := hS.free 0
          have z1 := hS.cell 1 (v := .int .i64 0) rfl
          have g1 := hS.free 1
          have z2 := hS.cell 2 (v := .int .i64 0) rfl
          have g2 := hS.free 2
          have z3 := hS.cell 3 (v := .string ⟨#[]⟩) rfl
          have g3 := hS.free 3
          have k0 := hS.right.cell 0 (v := .int .u8 (kv : Nat)) rfl
          have k1 := hS.right.cell 1 (v := .int .i64 (0)) rfl
          have k2 := hS.right.cell 2 (v := .int .i64 (0)) rfl
          have k3 := hS.right.cell 3 (v := .string ⟨#[]⟩) rfl
          have hD := (((hS.setCell 0 (.int .u8 (kv : Nat))).setCell 1 (.int .i64 (0))).setCell 2 (.int .i64 (0))).setCell 3 (.string ⟨#[]⟩)
          have j0 := hD.cell 0 (v := .int .u8 (kv : Nat)) rfl
          have j1 := hD.cell 1 (v := .int .i64 (0)) rfl
          have j2 := hD.cell 2 (v := .int .i64 (0)) rfl
          have j3 := hD.cell 3 (v := .string ⟨#[]⟩) rfl
          have HEnd := Lib.hid hD.right.right
          clear hS hD
          go_wp2
          refine bodyPost_ret (v := .tuple #[.agg #[.int .u8 (kv : Nat), .int .i64 (0), .int .i64 (0), .string ⟨#[]⟩], .bool false]) (by simp [results, Tryz.results54, go_sem, j0, j1, j2, j3]) rfl ⟨⟨kv, 0, 0, []⟩, false, rfl, HV.out, (fun h => by cases h), HEnd.out⟩
        | some vn =>
          have q0 := HAT.out 1 w1 rfl _ _ hS
          have HNu := Lib.hid (rNumber_any w1 mm (by omega) hS)
          rw [numV_some hvn] at HNu
          clear hS
          go_wp2_with fail
          refine HNu.out.mono ?_
          rintro e u6a ⟨rfl, hS⟩
          clear q0 HNu
          have hvz : ¬ (vn : Int) < 0 := by omega
          have q0 := HAT.out 1 w1 rfl _ _ hS
          have HNu := Lib.hid (rNumber_any w1 mm (by omega) hS)
          rw [numV_some hvn] at HNu
          clear hS
          go_wp2_with fail
          refine HNu.out.mono ?_
          rintro e u6b ⟨rfl, hS⟩
          clear q0 HNu hvz
          have q1 := hS.right.cell 2 (v := .int .i64 (0)) rfl
          have q2 := hS.right.free 2
          have hSn := (hS.swap.setCell 2 (.int .i64 (vn : Int))).swap
          clear hS
          go_upto_region 23 with fail
          clear q1 q2
          generalize hw6 : World.setCell _ _ _ = u6bc at *
          clear hw6
          have hS : St W u6bc (star (pt rb (.cells #[.int .u8 0, .int .i64 0, .int .i64 0, .string ⟨#[]⟩] 34 (0, 0))) (star (pt xb (.cells #[.int .u8 (kv : Nat), .int .i64 (0), .int .i64 ((vn : Int)), .string ⟨#[]⟩] 34 (0, 0))) R)) := hSn
          clear hSn
          cases r1 with
          | nil =>
            have hnn : n = 2 := by have := HLN.out; simpa using this.symm
            subst hnn
            have HV : Hid (actR (w0 :: w1 :: []) = some ⟨kv, 0, (vn : Int), []⟩) := Lib.hid (by rw [HACT.out]; simp [takeR, hdN, hdT, hvn])
            have z0 := hS.cell 0 (v := .int .u8 0) rfl
            have g0 := hS.free 0
            have z1 := hS.cell 1 (v := .int .i64 0) rfl
            have g1 := hS.free 1
            have z2 := hS.cell 2 (v := .int .i64 0) rfl
            have g2 := hS.free 2
            have z3 := hS.cell 3 (v := .string ⟨#[]⟩) rfl
            have g3 := hS.free 3
            have k0 := hS.right.cell 0 (v := .int .u8 (kv : Nat)) rfl
            have k1 := hS.right.cell 1 (v := .int .i64 (0)) rfl
            have k2 := hS.right.cell 2 (v := .int .i64 ((vn : Int))) rfl
            have k3 := hS.right.cell 3 (v := .string ⟨#[]⟩) rfl
            have hD := (((hS.setCell 0 (.int .u8 (kv : Nat))).setCell 1 (.int .i64 (0))).setCell 2 (.int .i64 ((vn : Int)))).setCell 3 (.string ⟨#[]⟩)
            have j0 := hD.cell 0 (v := .int .u8 (kv : Nat)) rfl
            have j1 := hD.cell 1 (v := .int .i64 (0)) rfl
            have j2 := hD.cell 2 (v := .int .i64 ((vn : Int))) rfl
            have j3 := hD.cell 3 (v := .string ⟨#[]⟩) rfl
            have HEnd := Lib.hid hD.right.right
            clear hS hD
            go_wp2
            refine bodyPost_ret (v := .tuple #[.agg #[.int .u8 (kv : Nat), .int .i64 (0), .int .i64 ((vn : Int)), .string ⟨#[]⟩], .bool true]) (by simp [results, Tryz.results54, go_sem, j0, j1, j2, j3]) rfl ⟨⟨kv, 0, (vn : Int), []⟩, true, rfl, HV.out, fun _ => HK1.out, HEnd.out⟩
          | cons wz rz =>
            have hnn : 2 < n := by have h5 := HLN.out; simp only [List.length_cons] at h5; omega
            have heq : ((2 : Int) == (n : Int)) = false := by rw [beq_eq_false_iff_ne]; omega
            have HV : Hid (actR (w0 :: w1 :: wz :: rz) = none) := Lib.hid (by rw [HACT.out]; simp [takeR, hdN, hdT, hvn])
            have z0 := hS.cell 0 (v := .int .u8 0) rfl
            have g0 := hS.free 0
            have z1 := hS.cell 1 (v := .int .i64 0) rfl
            have g1 := hS.free 1
            have z2 := hS.cell 2 (v := .int .i64 0) rfl
            have g2 := hS.free 2
            have z3 := hS.cell 3 (v := .string ⟨#[]⟩) rfl
            have g3 := hS.free 3
            have k0 := hS.right.cell 0 (v := .int .u8 (kv : Nat)) rfl
            have k1 := hS.right.cell 1 (v := .int .i64 (0)) rfl
            have k2 := hS.right.cell 2 (v := .int .i64 ((vn : Int))) rfl
            have k3 := hS.right.cell 3 (v := .string ⟨#[]⟩) rfl
            have hD := (((hS.setCell 0 (.int .u8 (kv : Nat))).setCell 1 (.int .i64 (0))).setCell 2 (.int .i64 ((vn : Int)))).setCell 3 (.string ⟨#[]⟩)
            have j0 := hD.cell 0 (v := .int .u8 (kv : Nat)) rfl
            have j1 := hD.cell 1 (v := .int .i64 (0)) rfl
            have j2 := hD.cell 2 (v := .int .i64 ((vn : Int))) rfl
            have j3 := hD.cell 3 (v := .string ⟨#[]⟩) rfl
            have HEnd := Lib.hid hD.right.right
            clear hS hD
            go_wp2
            refine bodyPost_ret (v := .tuple #[.agg #[.int .u8 (kv : Nat), .int .i64 (0), .int .i64 ((vn : Int)), .string ⟨#[]⟩], .bool false]) (by simp [results, Tryz.results54, go_sem, j0, j1, j2, j3]) rfl ⟨⟨kv, 0, (vn : Int), []⟩, false, rfl, HV.out, (fun h => by cases h), HEnd.out⟩
end Go.Proofs.YtcjlbimmplejjaaGreatDoor.ScPi
