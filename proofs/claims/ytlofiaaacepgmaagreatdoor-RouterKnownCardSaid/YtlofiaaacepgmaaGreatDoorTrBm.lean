import Derived.Test.YtlofiaaacepgmaaGreatDoorTrAm
namespace Go.Proofs.YtlofiaaacepgmaaGreatDoor.TrBm
open Go Go.RowKit Go.Proofs Go.Proofs.YtlofiaaacepgmaaGreatDoor.Sep Go.Proofs.YtlofiaaacepgmaaGreatDoor.Reg Go.Proofs.YtlofiaaacepgmaaGreatDoor.Frame Go.Proofs.YtlofiaaacepgmaaGreatDoor.Strs Go.Proofs.YtlofiaaacepgmaaGreatDoor.Mp Go.Proofs.YtlofiaaacepgmaaGreatDoor.TrP Go.Proofs.YtlofiaaacepgmaaGreatDoor.TrM Go.Proofs.YtlofiaaacepgmaaGreatDoor.TrAm

def zV : Value := (Value.map none)
theorem size_sc (w : World) (a : Addr) (v : Value) : (w.setCell a v).heap.size = w.heap.size := by simp
/-- A node has grown one below it. -/
def Grown (W : World) (F : Bag) (p : Nat) (nd : Nd) (k : Key) (R : Asn) (e : Ending) (w' : World) : Prop :=
  ∃ q nd', e = .returned (.pointer (some ⟨q, 0, none⟩)) ∧ q ∉ F.map (·.1) ∧ (∀ j, child nd' j = if j = k then some q else child nd j) ∧ nd'.pat = nd.pat ∧ nd'.x = nd.x ∧ St W w' (star (Nds nt ((q, bare zV) :: putM p nd' F)) R)
theorem child_par (nd : Nd) (q : Nat) (j : Key) : child { nd with par := some q } j = if j = .par then some q else child nd j := by cases j <;> simp [child]
theorem child_rst (nd : Nd) (q : Nat) (j : Key) : child { nd with rst := some q } j = if j = .rst then some q else child nd j := by cases j <;> simp [child]
theorem child_lit (nd : Nd) (lb : Option Nat) (s : Tx) (q : Nat) (j : Key) : child { nd with lb := lb, lit := putM s q nd.lit } j = if j = .lit s then some q else child nd j := by
  cases j with
  | lit t =>
    simp only [child, getM_put, Key.lit.injEq]
  | par => simp [child]
  | rst => simp [child]
theorem litA_nil : litA none [] = emp := by
  unfold litA pu
  funext h
  exact propext ⟨fun h => h.2, fun h => ⟨rfl, h⟩⟩
theorem bare_eq (q : Nat) : NdA nt q (bare zV) = pt q (.cells #[.map none, .pointer none, .pointer none, .string ⟨#[]⟩, (Value.map none)] nt (0, 0)) := by
  unfold NdA
  show star _ (litA none []) = _
  rw [litA_nil, star_emp]
  rfl
theorem grown_of {W w : World} {F : Bag} {p q : Nat} {nd nd' : Nd} {R : Asn} (hd : (F.map (·.1)).Nodup) (hn : getM p F = some nd)
    (h : St W w (star (pt p (.cells (ndC nd') nt (0, 0))) (star (pt q (.cells #[.map none, .pointer none, .pointer none, .string ⟨#[]⟩, (Value.map none)] nt (0, 0))) (star (litA nd'.lb nd'.lit) (star (Nds nt (delM p F)) R))))) :
    St W w (star (Nds nt ((q, bare zV) :: putM p nd' F)) R) := by
  refine h.eq ?_
  show _ = star (star (NdA nt q (bare zV)) (Nds nt (putM p nd' F))) R
  rw [bare_eq, Nds_put hd hn]
  unfold NdA
  ac_rfl
set_option maxRecDepth 100000 in
set_option maxHeartbeats 8000000 in
theorem grow_any {W w : World} {R : Asn} {F : Bag} {p : Nat} {nd : Nd} (h : St W w (star (Nds nt F) R)) (hd : (F.map (·.1)).Nodup) (hn : getM p F = some nd) (s : Tx) (hs : s ≠ []) (hc : child nd (TrP.keyOf s) = none) :
    Calls Tryz.prog 62 #[.pointer (some ⟨p, 0, none⟩), .string ⟨s.toArray⟩] w (Grown W F p nd (TrP.keyOf s) R) := by
  have HU := Lib.hid (under_any h hd hn s hs)
  rw [hc, pV_none] at HU
  have h1 := takeN h hd hn
  have h2 := h1.alloc (.cells #[.map none, .pointer none, .pointer none, .string ⟨#[]⟩, (Value.map none)] nt (0, 0))
  have hq : w.heap.size ∉ F.map (·.1) := fun hm => absurd (ltN h hd _ hm) (by omega)
  have HQ := Lib.hid hq
  have hlt := h1.lt
  have hsz : 0 < (ByteArray.mk s.toArray).size := by
    cases s with
    | nil => exact absurd rfl hs
    | cons => simp [ByteArray.size]
  have hh := head_get s hsz
  have hz : 0 < s.length := by simpa [ByteArray.size] using hsz
  generalize hch : (ByteArray.mk s.toArray)[0]'hsz = c at *
  have HH := Lib.hid hh
  have HD := Lib.hid hd
  have HN := Lib.hid hn
  have HC := Lib.hid hc
  have H2 := Lib.hid h2
  have H1 := Lib.hid h1
  clear hh hs h hn hd hq hc h1
  go_enter Tryz.func62, Tryz.ntmps62
  go_wp2_with fail
  refine HU.out.mono ?_
  rintro e w' ⟨rfl, rfl⟩
  clear HU
  by_cases h58 : c = 58
  · have hb : ((c.toNat : Int) == 58) = true := by rw [h58]; rfl
    have hk : TrP.keyOf s = .par := TrP.keyOf_sp (by rw [HH.out, h58])
    have HK := Lib.hid hk
    clear h58 hk
    have c1 := H1.out.cell 1 (v := pV nd.par) rfl
    have f1 := H1.out.free 1
    clear h2
    go_wp2
    go_ret
    have h3 := (H1.out.setCell 1 (.pointer (some ⟨w.heap.size, 0, none⟩))).alloc (.cells #[.map none, .pointer none, .pointer none, .string ⟨#[]⟩, (Value.map none)] nt (0, 0))
    rw [size_sc] at h3
    exact ⟨w.heap.size, { nd with par := some w.heap.size }, rfl, HQ.out, by rw [HK.out]; exact child_par nd _, rfl, rfl, grown_of HD.out HN.out h3.swap⟩
  · have hb : ((c.toNat : Int) == 58) = false := byte_no h58
    by_cases h42 : c = 42
    · have hb2 : ((c.toNat : Int) == 42) = true := by rw [h42]; rfl
      have hk : TrP.keyOf s = .rst := TrP.keyOf_star (by rw [HH.out, h42])
      have HK := Lib.hid hk
      clear h58 h42 hk
      have c1 := H1.out.cell 2 (v := pV nd.rst) rfl
      have f1 := H1.out.free 2
      clear h2
      go_wp2
      go_ret
      have h3 := (H1.out.setCell 2 (.pointer (some ⟨w.heap.size, 0, none⟩))).alloc (.cells #[.map none, .pointer none, .pointer none, .string ⟨#[]⟩, (Value.map none)] nt (0, 0))
      rw [size_sc] at h3
      exact ⟨w.heap.size, { nd with rst := some w.heap.size }, rfl, HQ.out, by rw [HK.out]; exact child_rst nd _, rfl, rfl, grown_of HD.out HN.out h3.swap⟩
    · have hb2 : ((c.toNat : Int) == 42) = false := byte_no h42
      have hk : TrP.keyOf s = .lit s := TrP.keyOf_lit (by simp [isSp, HH.out, h58, h42])
      have HK := Lib.hid hk
      clear h58 h42 hk
      have c1 := H1.out.cell 0 (v := .map nd.lb) rfl
      have f1 := H1.out.free 0
      have h2i := h2
      clear h2
      have q : ∀ (w : World) (r : Option Nat), (binOp .eql 78 (.map r) (.map none)).run Tryz.prog w = .ok (.bool r.isNone) w := fun w r => run_eql_map_nil w _ _ _ r Tryz.underlying78
      have hmm := @run_makeMap Tryz.prog
      obtain ⟨lb, hlb⟩ : ∃ lb, nd.lb = lb := ⟨_, rfl⟩
      cases lb with
      | none =>
        rw [hlb] at c1
        have h3 := St.newMp kS ((H1.out.setCell 0 (.map (some (w.heap.size + 1)))).alloc (.cells #[.map none, .pointer none, .pointer none, .string ⟨#[]⟩, (Value.map none)] nt (0, 0)))
        rw [World.size_alloc, size_sc] at h3
        have hlit : nd.lit = [] := by
          have h4 := H1.out.right
          rw [hlb] at h4
          exact (St.pu_iff.1 h4).1
        have HLB := Lib.hid hlb
        have HLIT := Lib.hid hlit
        clear hlb hlit
        go_wp2_with (at_mapUpdate; refine wpList_mapUpdate cS rfl _ _ _ rfl Tryz.underlying78 Tryz.underlying9 rfl h3 s (.pointer (some ⟨w.heap.size, 0, none⟩)) rfl rfl ?_)
        intro w5 h5
        go_wp2
        go_ret
        refine ⟨w.heap.size, { nd with lb := some (w.heap.size + 1), lit := putM s w.heap.size nd.lit }, rfl, HQ.out, by rw [HK.out]; exact child_lit nd _ s _, rfl, rfl, grown_of HD.out HN.out (h5.eq ?_)⟩
        rw [HLIT.out, HLB.out]
        show star (Mp kS _ (litV [(s, w.heap.size)])) (star (pt w.heap.size _) (star (pt p _) (star (litA none []) (star (Nds nt (delM p F)) R)))) = star (pt p _) (star (pt w.heap.size _) (star (Mp kS _ (litV [(s, w.heap.size)])) (star (Nds nt (delM p F)) R)))
        rw [litA_nil, emp_star]
        show star _ (star _ (star (pt p (.cells ((ndC nd).setIfInBounds 0 (.map (some (w.heap.size + 1)))) nt (0, 0))) _)) = _
        ac_rfl
      | some b =>
        rw [hlb] at c1
        have h3 := h2i.eq (B := star (Mp kS b (litV nd.lit)) (star (pt w.heap.size (.cells #[.map none, .pointer none, .pointer none, .string ⟨#[]⟩, (Value.map none)] nt (0, 0))) (star (pt p (.cells (ndC nd) nt (0, 0))) (star (Nds nt (delM p F)) R)))) (by rw [hlb]; show star _ (star _ (star (Mp kS b (litV nd.lit)) _)) = _; ac_rfl)
        have HLB := Lib.hid hlb
        clear hlb h2i
        go_wp2_with (at_mapUpdate; refine wpList_mapUpdate cS rfl _ _ _ rfl Tryz.underlying78 Tryz.underlying9 rfl h3 s (.pointer (some ⟨w.heap.size, 0, none⟩)) rfl rfl ?_)
        intro w5 h5
        go_wp2
        go_ret
        refine ⟨w.heap.size, { nd with lb := some b, lit := putM s w.heap.size nd.lit }, rfl, HQ.out, by rw [HK.out]; exact child_lit nd _ s _, rfl, rfl, grown_of HD.out HN.out (h5.eq ?_)⟩
        have e : ndC { nd with lb := some b, lit := putM s w.heap.size nd.lit } = ndC nd := by unfold ndC; rw [HLB.out]
        show star (Mp kS b (putM s (pV (some w.heap.size)) (litV nd.lit))) _ = star (pt p (.cells (ndC { nd with lb := some b, lit := putM s w.heap.size nd.lit }) nt (0, 0))) (star _ (star (Mp kS b (litV (putM s w.heap.size nd.lit))) _))
        rw [litV_put, e]
        ac_rfl
end Go.Proofs.YtlofiaaacepgmaaGreatDoor.TrBm
