import Derived.Test.YtlofiaaacepgmaaGreatDoorTrDm
import Derived.Test.YtlofiaaacepgmaaGreatDoorTrT
namespace Go.Proofs.YtlofiaaacepgmaaGreatDoor.TrEm
open Go Go.RowKit Go.Proofs Go.Proofs.YtlofiaaacepgmaaGreatDoor.Sep Go.Proofs.YtlofiaaacepgmaaGreatDoor.Reg Go.Proofs.YtlofiaaacepgmaaGreatDoor.Frame Go.Proofs.YtlofiaaacepgmaaGreatDoor.Strs Go.Proofs.YtlofiaaacepgmaaGreatDoor.Mp Go.Proofs.YtlofiaaacepgmaaGreatDoor.TrP Go.Proofs.YtlofiaaacepgmaaGreatDoor.TrM Go.Proofs.YtlofiaaacepgmaaGreatDoor.TrAm Go.Proofs.YtlofiaaacepgmaaGreatDoor.TrBm Go.Proofs.YtlofiaaacepgmaaGreatDoor.TrCm Go.Proofs.YtlofiaaacepgmaaGreatDoor.TrQ Go.Proofs.YtlofiaaacepgmaaGreatDoor.TrDm


def SetPst (W : World) (tp : Nat) (max : Int) (r : Int × EntsV) (R : Asn) (e : Ending) (w' : World) : Prop := e = .returned (.int .i64 r.1) ∧ St W w' (star (IsT tp max r.2) R)
theorem SetPst.mk {W w' : World} {tp : Nat} {max : Int} {r : Int × EntsV} {R : Asn} {e : Ending} {n : Int} {es : EntsV} (h : r = (n, es)) (he : e = .returned (.int .i64 n)) (hS : St W w' (star (IsT tp max es) R)) : SetPst W tp max r R e w' := by subst h; exact ⟨he, hS⟩
theorem pats_put {es : EntsV} {k : List Key} {v : Tx × Value} (hn : (es.map (·.1)).Nodup) (h : getM k es = some v) (x : Value) : pats (putM k (v.1, x) es) = pats es ∧ (putM k (v.1, x) es).length = es.length := by
  have hk : k ∈ es.map (·.1) := List.mem_map_of_mem (f := (·.1)) (getM_mem h)
  unfold pats putM
  rw [if_pos hk, List.map_map]
  refine ⟨List.map_congr_left fun e he => ?_, by simp⟩
  simp only [Function.comp]
  split
  · rename_i hek
    have := getM_of_mem hn (show (k, e.2) ∈ es by rw [← hek]; exact he)
    rw [h] at this
    cases this; rfl
  · rfl
theorem good_put {es : EntsV} {k : List Key} {v : Tx × Value} (hg : TrP.Good es) (h : getM k es = some v) (x : Value) : TrP.Good (putM k (v.1, x) es) := by
  refine ⟨putM_nodup hg.1, fun e he => ?_⟩
  have hk : k ∈ es.map (·.1) := List.mem_map_of_mem (f := (·.1)) (getM_mem h)
  unfold putM at he
  rw [if_pos hk] at he
  obtain ⟨e0, he0, rfl⟩ := List.mem_map.1 he
  split
  · exact hg.2 (k, v) (getM_mem h)
  · exact hg.2 e0 he0
theorem NE_put {es : EntsV} {k : List Key} {v : Tx × Value} (h : getM k es = some v) (u : Tx × Value) (ks : List Key) : NE es ks ↔ NE (putM k u es) ks := by
  have hk : k ∈ es.map (·.1) := List.mem_map_of_mem (f := (·.1)) (getM_mem h)
  have e : (putM k u es).map (·.1) = es.map (·.1) := by rw [putM_keys, if_pos hk]
  have key : ∀ fs : EntsV, (∃ e ∈ fs, ks <+: e.1) ↔ ∃ x ∈ fs.map (·.1), ks <+: x := fun fs => by simp
  unfold NE
  rw [key, key, e]
def GPst (w : World) (z : Value) (o : Option Value) (e : Ending) (w' : World) : Prop := e = .returned (.tuple #[o.getD z, .bool o.isSome]) ∧ Below w.heap.size w w'
theorem GPst.mk {w w' : World} {z : Value} {o : Option Value} {e : Ending} {u : Value} {b : Bool} (h : o.getD z = u) (h2 : o.isSome = b) (he : e = .returned (.tuple #[u, .bool b])) (hb : Below w.heap.size w w') : GPst w z o e w' := by subst h; subst h2; exact ⟨he, hb⟩
set_option maxRecDepth 100000 in
set_option maxHeartbeats 16000000 in
theorem Get_any {W w : World} {R : Asn} (tp : Nat) (max : Int) (es : EntsV) (h : St W w (star (IsT tp max es) R)) (hm : TrS.MaxLen W) (p : Tx) (hp : p.length ≤ 1000000) :
    Calls Tryz.prog 41 #[.pointer (some ⟨tp, 0, none⟩), .string ⟨p.toArray⟩] w (GPst w (Value.map none) (getT es p)) := by
  obtain ⟨root, F, lv, hi, hg, h1⟩ := St.isT h
  have HNo := Lib.hid (none_any tp root w (h1.cell 1 rfl))
  have HSp := Lib.hid (TrS.split_any p w hp (hm.st h))
  have HI := Lib.hid hi
  have HH := Lib.hid h
  clear hi hg h hm
  obtain ⟨res, hres⟩ : ∃ res, getT es p = res := ⟨_, rfl⟩
  rw [hres]
  have HRES := Lib.hid hres
  clear hres
  cases hsp : splitP p with
  | none =>
    rw [hsp] at HSp
    have HR2 : Hid (res = none) := Lib.hid (by rw [← HRES.out]; unfold getT; rw [hsp])
    clear hsp
    go_enter Tryz.func41, Tryz.ntmps41
    go_wp2_with fail
    refine HNo.out.mono ?_
    rintro e w1 ⟨rfl, rfl⟩
    go_wp2_with fail
    refine HSp.out.mono ?_
    rintro e w2 ⟨rfl, hb⟩
    have HB := Lib.hid hb
    clear h1 hb
    go_wp2
    go_ret2
    exact GPst.mk (by rw [HR2.out]; rfl) (by rw [HR2.out]; rfl) rfl HB.out
  | some l =>
    rw [hsp] at HSp
    have hll : l.length ≤ 1000000 := Nat.le_trans (splitP_len hsp) hp
    have HL := Lib.hid hsp
    clear hsp
    go_enter Tryz.func41, Tryz.ntmps41
    go_wp2_with fail
    refine HNo.out.mono ?_
    rintro e w1 ⟨rfl, rfl⟩
    go_wp2_with fail
    refine HSp.out.mono ?_
    rintro e w2 ⟨a2, c2, rfl, h2⟩
    have h3 := St.compR h1 h2
    have h4 := h3.right
    have HB := Lib.hid h2.below
    clear h1 h2 HNo HSp
    have h5 := h4.eq (B := star (Nds nt F) (star (pt tp (.cells #[.int .i64 max, .pointer (some ⟨root, 0, none⟩), lv] tt (0, 0))) (star (Row 9 1 lv es.length (strsV (pats es))) R))) (by ac_rfl)
    have HA := Lib.hid (at_any h5 HI.out.nodup (clo_of HI.out) tp (h4.cell 1 rfl) a2 l.length c2 l h3.rowSl rfl (splitP_ne HL.out) hll)
    go_wp2_with fail
    refine HA.out.mono ?_
    rintro e w3 ⟨rfl, rfl⟩
    clear HA h3 hll h4
    cases hq : reach F root (keysOf l) with
    | none =>
      have HR2 : Hid (res = none) := Lib.hid (by
        rw [← HRES.out]; unfold getT; rw [HL.out]
        simp only [getM_none_of HI.out hq])
      rw [pV_none]
      clear hq h5
      go_wp2
      go_ret2
      exact GPst.mk (by rw [HR2.out]; rfl) (by rw [HR2.out]; rfl) rfl HB.out
    | some q =>
      obtain ⟨_, nd, hnd, hpat, hx⟩ := HI.out.node _ _ hq
      have h6 := takeN h5 HI.out.nodup hnd
      have c3 := h6.cell 3 (v := .string ⟨nd.pat.toArray⟩) rfl
      have q4 := h6.cell 4 (v := nd.x) rfl
      rw [pV_some]
      by_cases hpp : nd.pat = p
      · obtain ⟨v, hv⟩ : ∃ v, getM (keysOf l) es = some v := by
          cases e : getM (keysOf l) es with
          | some v => exact ⟨v, rfl⟩
          | none =>
            simp only [e] at hpat
            exact absurd (hpp.symm.trans hpat) (splitP_pat HL.out)
        have hvp : v.1 = p := by simp only [hv] at hpat; exact (by simpa using hpat : nd.pat = v.1).symm.trans hpp
        have hxv := hx v hv
        have HR2 : Hid (res = some nd.x) := Lib.hid (by
          rw [← HRES.out]; unfold getT; rw [HL.out]
          simp only [hv, hvp, if_true, hxv])
        rw [hpp] at c3
        clear hq hnd hpat hx h5 hv hvp hpp h6 hxv
        go_wp2
        go_ret2
        exact GPst.mk (by rw [HR2.out]; rfl) (by rw [HR2.out]; rfl) rfl HB.out
      · have HR2 : Hid (res = none) := Lib.hid (by
          rw [← HRES.out]; unfold getT; rw [HL.out]
          cases hv : getM (keysOf l) es with
          | none => simp only [hv]
          | some v =>
            simp only [hv] at hpat
            have : v.1 ≠ p := fun e => hpp (hpat.trans e)
            simp only [hv, this, if_false])
        have hb : (nd.pat == p) = false := by simpa using hpp
        have hb2 : (nd.pat != p) = true := by simpa using hpp
        clear hq hnd hpat hx h5 hpp h6
        go_wp2
        go_ret2
        exact GPst.mk (by rw [HR2.out]; rfl) (by rw [HR2.out]; rfl) rfl HB.out
end Go.Proofs.YtlofiaaacepgmaaGreatDoor.TrEm
