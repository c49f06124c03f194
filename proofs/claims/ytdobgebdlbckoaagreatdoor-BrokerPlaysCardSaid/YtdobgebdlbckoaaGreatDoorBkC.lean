import Derived.Test.YtdobgebdlbckoaaGreatDoorBkB
import Derived.Test.YtdobgebdlbckoaaGreatDoorHeld
namespace Go.Proofs.YtdobgebdlbckoaaGreatDoor.BkC
open Go Go.RowKit Go.Proofs Go.Proofs.YtdobgebdlbckoaaGreatDoor.Sep Go.Proofs.YtdobgebdlbckoaaGreatDoor.Reg Go.Proofs.YtdobgebdlbckoaaGreatDoor.Held Go.Proofs.YtdobgebdlbckoaaGreatDoor.Frame Go.Proofs.YtdobgebdlbckoaaGreatDoor.Rng Go.Proofs.YtdobgebdlbckoaaGreatDoor.RngA Go.Proofs.YtdobgebdlbckoaaGreatDoor.RngB Go.Proofs.YtdobgebdlbckoaaGreatDoor.Mp Go.Proofs.YtdobgebdlbckoaaGreatDoor.WdP Go.Proofs.YtdobgebdlbckoaaGreatDoor.WdN Go.Proofs.YtdobgebdlbckoaaGreatDoor.TpP Go.Proofs.YtdobgebdlbckoaaGreatDoor.TpA Go.Proofs.YtdobgebdlbckoaaGreatDoor.TpI Go.Proofs.YtdobgebdlbckoaaGreatDoor.TpJ Go.Proofs.YtdobgebdlbckoaaGreatDoor.TpK Go.Proofs.YtdobgebdlbckoaaGreatDoor.TpL Go.Proofs.YtdobgebdlbckoaaGreatDoor.TpM Go.Proofs.YtdobgebdlbckoaaGreatDoor.TpNd Go.Proofs.YtdobgebdlbckoaaGreatDoor.BkP Go.Proofs.YtdobgebdlbckoaaGreatDoor.BkA Go.Proofs.YtdobgebdlbckoaaGreatDoor.BkB

section
variable {κ : Type} [DecidableEq κ] {P : Program} {W w : World} {d : TypeDesc} {enc : κ → Value} {b : Nat} {es : List (κ × Value)} {R : Asn} {t kt et : TypeId}
variable {ops : Array Oper} {rest : List Oper} {o : Oper} {a : Act} {Q : Exit → Act → World → Prop} {F : Fence} {n : Nat}
theorem wpListIn_mapUpdate (C : KeyC d enc) (hg : o.guard = none) (m x v : Operand) (hop : o.op = Op.mapUpdate t m x v) (ht : P.underlying t = some (.map kt et)) (hk : P.underlying kt = some d)
    (hm : a.eval m = .map (some b)) (h : St W w (star (Mp enc b es) R)) (k : κ) (val : Value) (hx : a.eval x = enc k) (hv : a.eval v = val)
    (hK : ∀ w', St W w' (star (Mp enc b (putM k val es)) R) → wpListIn F n P ops Q rest (a.put o.dst undef) w') : wpListIn F n P ops Q (o :: rest) a w := by
  refine wpListIn_plain hg fun K' hK' => ?_
  obtain ⟨w', hrun, h'⟩ := run_mapUpdate C ht hk h k val
  unfold Oper.wpIn
  refine ⟨?_, ?_⟩
  · simp [Oper.about, hop]
  · rw [Oper.semAt_plain F _ _ (by rw [hop]; intro c hc'; cases hc')]
    simp [execOp, hop, hm, hx, hv, hrun, Result.andThen]
    exact hK' _ _ (hK w' h')
end
theorem range_of2 {W w : World} {m : Nat} {g : Operand} {params : Array Tmp} {assign body : Code} {Q : Exit → Act → World → Prop} {a : Act} (f : Nat → Int → Array Value → Array Value) (p b1 b2 : Nat) (t : Tx) (L : List Int) (hl : L.length ≤ 1000000) (Φ : List Int → Asn) (Ψ : Code → Asn)
    (hg : a.eval g = .func (.func 67) #[] #[.pointer (some ⟨b1, 0, none⟩), .pointer (some ⟨b2, 0, none⟩)]) (hps : params.size = 2) (h : St W w (Φ []))
    (hcells : ∀ w, St W w (Φ []) → w.cell? ⟨b1, 0, none⟩ = some (.pointer (some ⟨p, 0, none⟩)) ∧ w.cell? ⟨b2, 0, none⟩ = some (kS t) ∧ Reads w p L t)
    (hassign : ∀ (i : Nat) (x : Int) l0 w (K : Act → World → Prop), K { tmps := f i x a.tmps, defers := [] } w → assign.wpIn (Fence.wide.inRound l0) m Tryz.prog (Exit.then K (fun _ _ _ => False)) { tmps := (params.zip #[.int .i64 i, .int .i64 x]).foldl (fun tmps (t, a) => tmps.setIfInBounds t a) a.tmps, defers := [] } w)
    (hround : ∀ pre x post, L = pre ++ x :: post → ∀ l0 busy C w2, St W w2 (star (pt l0 (.loop busy)) (star C (Φ pre))) → body.wpIn (Fence.wide.inRound l0) m Tryz.prog (RPost W l0 busy (star C (Φ (pre ++ [x]))) (fun c => star C (Ψ c))) { tmps := f pre.length x a.tmps, defers := [] } w2)
    (hdone : ∀ D w4, St W w4 (star (pt D (.deferred (some []))) (Φ L)) → Q .normal { a with defers := { target := .collected D, args := #[] } :: a.defers } w4)
    (hstop : ∀ D c w4, St W w4 (star (pt D (.deferred (some []))) (Ψ c)) → c.wpIn Fence.wide (m + 2) Tryz.prog Q { a with defers := { target := .collected D, args := #[] } :: a.defers } w4) :
    (Code.rangeFunc g params assign body).wpIn Fence.wide (m + 2) Tryz.prog Q a w :=
  range_of (fun i x => { tmps := f i x a.tmps, defers := [] }) p b1 b2 t L hl Φ Ψ hg hps h hcells hassign hround hdone hstop
theorem infoO : (Tryz.prog.info? 40).map (fun i => (i.zero, i.size, i.bytes)) = some (some (.agg #[.int .i64 0, .int .i64 0, .string ByteArray.empty]), 3, 32) := by kernel_rfl
/-- A cell, and the row whose slice it holds. -/
def HeldS (ob : Nat) (T e : TypeId) (size n : Nat) (xs : List Value) : Asn := fun h => ∃ v, star (pt ob (.cells #[v] T (0, 0))) (Row e size v n xs) h
section
variable {W w : World} {ob size n : Nat} {T e : TypeId} {xs : List Value} {R : Asn}
theorem St.heldS (h : St W w (star (HeldS ob T e size n xs) R)) : ∃ v, St W w (star (pt ob (.cells #[v] T (0, 0))) (star (Row e size v n xs) R)) := by
  obtain ⟨hb, k, ⟨h1, h2, d, e', ⟨v, a⟩, r⟩, f⟩ := h
  exact ⟨v, St.eq (A := star (star (pt ob (.cells #[v] T (0, 0))) (Row e size v n xs)) R) ⟨hb, k, ⟨h1, h2, d, e', a, r⟩, f⟩ (star_assoc _ _ _)⟩
theorem St.toHeldS {v : Value} (h : St W w (star (pt ob (.cells #[v] T (0, 0))) (star (Row e size v n xs) R))) : St W w (star (HeldS ob T e size n xs) R) := by
  refine (h.eq (star_assoc _ _ _).symm).weak fun k => ?_
  rintro ⟨h1, h2, d, e', a, r⟩
  exact ⟨h1, h2, d, e', ⟨v, a⟩, r⟩
end
/-- What lies while those who hear a topic are told. -/
def PF (ob bop bs b1 b2 rp : Nat) (t : Tx) (op : Int) (tx : Tx) (l : List Pr) (R : Asn) (pre : List Int) : Asn :=
  star (pt b1 (.cells #[.pointer (some ⟨rp, 0, none⟩)] 69 (0, 0))) (star (pt b2 (.cells #[kS t] 9 (0, 0))) (star (HeldS ob 31 40 3 pre.length (outsV (pre.map fun k => (k, op, tx)))) (star (pt bop (.cells #[.int .i64 op] 3 (0, 0))) (star (pt bs (.cells #[.string ⟨tx.toArray⟩] 9 (0, 0))) (star (IsR rp l) R)))))
/-- What is read of a broker and a command while a delivery's words are made. -/
def CP (bc p bm : Nat) (t d : Tx) (id : Int) (n1 : Nat) (w : World) : Prop :=
  w.cell? ⟨bc, 1, none⟩ = some (kS t) ∧ w.cell? ⟨p, 0, none⟩ = some (.map (some bm)) ∧ (Instr.lookup 58 (.map (some bm)) (.int .i64 id) false).run Tryz.prog w = .ok (.int .i64 (n1 : Nat)) w ∧ w.cell? ⟨bc, 2, none⟩ = some (kS d)
def trP : Tr := .plain 0 (.held 1 (.plain 2 (.plain 3 (.plain 4 (.plain 5 (.held 6 (.plain 7 (.held 8 (.plain 9 (.held 10 (.plain 11 (.two 12 (.plain 13 (.plain 14 (.plain 15 (.one 16 (.one 17 (.plain 18 .done)))))) 16 (.one 12 (.plain 13 (.plain 14 (.plain 15 (.one 17 (.plain 18 .done))))))))))))))))))
attribute [local go_sem] Oper.semAt_some
set_option maxRecDepth 100000 in
set_option maxHeartbeats 16000000 in
theorem pub_any {W w : World} {R : Asn} (p : Nat) (b : BS) (h : St W w (star (IsB p b) R)) (hl : b.2.length ≤ 1000000) (hG : Gl W) (id op : Int) (t d : Tx) (ht : t.length ≤ 1000000) (hd : d.length ≤ 1000000) (hn : (getM id b.1).getD 0 ≤ 1000000) (kk : Int) :
    Calls Tryz.prog 37 #[.pointer (some ⟨p, 0, none⟩), .int .i64 id, .int .i64 op, .agg #[.int .i64 kk, kS t, kS d]] w (DPst W p (pubB b id op t d) R) := by
  obtain ⟨bm, rp, h1⟩ := St.isB h
  have c0 := h1.cell 0 (v := .map (some bm)) rfl
  have hlk := look1 h1.right id
  have h2 := (h1.alloc (.cells #[.int .i64 op] 3 (0, 0))).alloc (.cells #[.int .i64 kk, kS t, kS d] 60 (0, 0))
  rw [World.size_alloc] at h2
  have c0a := h2.right.right.cell 0 (v := .map (some bm)) rfl
  have hlka := look1 h2.right.right.right id
  have h3 := h2.eq (B := star (Mp kI bm (pubV b.1)) (star (pt p (.cells #[.map (some bm), .pointer (some ⟨rp, 0, none⟩)] 72 (0, 0))) (star (IsR rp b.2) (star (pt (w.heap.size + 1) (.cells #[.int .i64 kk, kS t, kS d] 60 (0, 0))) (star (pt w.heap.size (.cells #[.int .i64 op] 3 (0, 0))) R))))) (by ac_rfl)
  obtain ⟨r, hr⟩ : ∃ r, pubB b id op t d = r := ⟨_, rfl⟩
  rw [hr]
  have HR := Lib.hid hr
  have HL := Lib.hid hl
  have HG := Lib.hid hG
  clear h h1 h2 hr hl hG
  obtain ⟨n0, hn0⟩ : ∃ n0, (getM id b.1).getD 0 = n0 := ⟨_, rfl⟩
  rw [hn0] at hn hlk hlka
  have HN0 := Lib.hid hn0
  clear hn0
  refine (callsIn_wide (n := 3)).1 (callsIn_of_wp_marks Tryz.func37 rfl trivial ?_ rfl)
  simp only [Tryz.ntmps37, List.size_toArray, List.length_cons, List.length_nil, Nat.reduceAdd, Nat.reduceSub, Array.replicate_succ, Array.replicate_zero, List.push_toArray, List.append_toArray, List.nil_append, List.cons_append]
  gi_wp2_with (refine wpListIn_mapUpdate cI rfl _ _ _ rfl Tryz.underlying58 Tryz.underlying3 rfl h3 id (.int .i64 ((n0 + 1 : Nat) : Int)) rfl rfl ?_)
  intro w5 h5
  have e : putM id (Value.int .i64 ((n0 : Int) + 1)) (pubV b.1) = pubV (putM id (n0 + 1) b.1) := mapV_put nV id (n0 + 1) b.1
  rw [e] at h5
  obtain ⟨bop, hbop⟩ : ∃ bop, w.heap.size = bop := ⟨_, rfl⟩
  obtain ⟨bc, hbc⟩ : ∃ bc, bop + 1 = bc := ⟨_, rfl⟩
  rw [hbop, hbc] at h5
  rw [hbop, hbc]
  clear hbop hbc e h3 c0 c0a hlk hlka
  obtain ⟨n1, hn1⟩ : ∃ n1, n0 + 1 = n1 := ⟨_, rfl⟩
  rw [hn1] at h5
  have hg1 : (getM id (putM id n1 b.1)).getD 0 = n1 := by rw [getM_put, if_pos rfl]; rfl
  have hq : WdD.txtV (toldW t id (n1 : Nat) d) = .tuple #[.string ⟨(tellT t id n1 d).toArray⟩, .bool (toldW t id (n1 : Nat) d).isSome] := by
    unfold tellT
    cases toldW t id (n1 : Nat) d <;> rfl
  have HT : Hid (∀ w, Gl w → _) := Lib.hid fun w hG => WdH.Told_any t id (n1 : Nat) d _ hq w hG ht hd
  have HTX : Hid (r = ((ofP b.2 t).map fun k => (k, op, tellT t id n1 d), (putM id n1 b.1, b.2))) := Lib.hid (by rw [← HR.out]; unfold pubB; rw [HN0.out, hn1])
  generalize tellT t id n1 d = tx at *
  generalize (toldW t id (n1 : Nat) d).isSome = tok at *
  have HC : Hid (∀ w' R', St W w' (star (Mp kI bm (pubV (putM id n1 b.1))) (star (pt p (.cells #[.map (some bm), .pointer (some ⟨rp, 0, none⟩)] 72 (0, 0))) (star (pt bc (.cells #[.int .i64 kk, kS t, kS d] 60 (0, 0))) R'))) → CP bc p bm t d id n1 w') := Lib.hid fun w' R' h => by
    have hl := look1 h id
    rw [hg1] at hl
    exact ⟨h.right.right.cell 1 rfl, h.right.cell 0 rfl, hl, h.right.right.cell 2 rfl⟩
  have h6 := h5.eq (B := star (Mp kI bm (pubV (putM id n1 b.1))) (star (pt p (.cells #[.map (some bm), .pointer (some ⟨rp, 0, none⟩)] 72 (0, 0))) (star (pt bc (.cells #[.int .i64 kk, kS t, kS d] 60 (0, 0))) (star (pt bop (.cells #[.int .i64 op] 3 (0, 0))) (star (IsR rp b.2) R))))) (by ac_rfl)
  clear h5
  clear hg1 hq hn1
  gi_wp2_with fail
  refine wpIn_wide.2 (Go.Proofs.YtdobgebdlbckoaaGreatDoor.Held.wp_region_held (CP bc p bm t d id n1) [] trP (by kernel_rfl) (by kernel_rfl) (HC.out _ _ h6.drew) ?_)
  unfold trP
  refine tr_plain (.pointer (some ⟨bc, 1, none⟩)) rfl ?_ (by simp only [nthOp, Act.put, List.setIfInBounds_toArray, List.set_cons_succ, List.set_cons_zero]; rfl) ?_
  · (intro w'; simp only [nthOp]; go_simp)
  refine tr_held (kS t) rfl ?_ (by simp only [nthOp, Act.put, List.setIfInBounds_toArray, List.set_cons_succ, List.set_cons_zero]; rfl) ?_
  · (rintro w' ⟨hc1, -, -, -⟩; simp only [nthOp]; go_simp)
  refine tr_plain (.int .i64 id) rfl ?_ (by simp only [nthOp, Act.put, List.setIfInBounds_toArray, List.set_cons_succ, List.set_cons_zero]; rfl) ?_
  · exact fun _ => rfl
  refine tr_plain (.pointer (some ⟨p, 0, none⟩)) rfl ?_ (by simp only [nthOp, Act.put, List.setIfInBounds_toArray, List.set_cons_succ, List.set_cons_zero]; rfl) ?_
  · exact fun _ => rfl
  refine tr_plain (.pointer (some ⟨p, 0, none⟩)) rfl ?_ (by simp only [nthOp, Act.put, List.setIfInBounds_toArray, List.set_cons_succ, List.set_cons_zero]; rfl) ?_
  · exact fun _ => rfl
  refine tr_plain (.pointer (some ⟨p, 0, none⟩)) rfl ?_ (by simp only [nthOp, Act.put, List.setIfInBounds_toArray, List.set_cons_succ, List.set_cons_zero]; rfl) ?_
  · (intro w'; simp only [nthOp]; go_simp)
  refine tr_held (.map (some bm)) rfl ?_ (by simp only [nthOp, Act.put, List.setIfInBounds_toArray, List.set_cons_succ, List.set_cons_zero]; rfl) ?_
  · (rintro w' ⟨-, hc1, -, -⟩; simp only [nthOp]; go_simp)
  refine tr_plain (.int .i64 id) rfl ?_ (by simp only [nthOp, Act.put, List.setIfInBounds_toArray, List.set_cons_succ, List.set_cons_zero]; rfl) ?_
  · exact fun _ => rfl
  refine tr_held (.int .i64 (n1 : Nat)) rfl ?_ (by simp only [nthOp, Act.put, List.setIfInBounds_toArray, List.set_cons_succ, List.set_cons_zero]; rfl) ?_
  · exact fun w' hc => exec_lookup rfl rfl rfl hc.2.2.1
  refine tr_plain (.pointer (some ⟨bc, 2, none⟩)) rfl ?_ (by simp only [nthOp, Act.put, List.setIfInBounds_toArray, List.set_cons_succ, List.set_cons_zero]; rfl) ?_
  · (intro w'; simp only [nthOp]; go_simp)
  refine tr_held (kS d) rfl ?_ (by simp only [nthOp, Act.put, List.setIfInBounds_toArray, List.set_cons_succ, List.set_cons_zero]; rfl) ?_
  · (rintro w' ⟨-, -, -, hc1⟩; simp only [nthOp]; go_simp)
  refine tr_plain (.agg #[kS t, .int .i64 id, .int .i64 (n1 : Nat), kS d]) rfl ?_ (by simp only [nthOp, Act.put, List.setIfInBounds_toArray, List.set_cons_succ, List.set_cons_zero]; rfl) ?_
  · (intro w'; simp only [nthOp]; go_simp)
  have h7 := h6.drew
  clear h6
  generalize w5.drew = w6 at *
  refine tr_two ?_ ?_
  · simp only [nthOp]
    go_wp2_with fail
    refine (HT.out _ (HG.out.st h7)).mono ?_
    rintro e w7 hq
    have h8 := h7.makes hq
    obtain ⟨rfl, -⟩ := hq
    go_wp2_with fail
    simp only [Reg.Next]
    refine ⟨fun _ => HC.out _ _ h8, ?_⟩
    refine tr_plain (.tuple #[.string ⟨tx.toArray⟩, .bool tok]) rfl ?_ (by simp only [nthOp, Act.put, List.setIfInBounds_toArray, List.set_cons_succ, List.set_cons_zero]; rfl) ?_
    · exact fun _ => rfl
    refine tr_plain (.string ⟨tx.toArray⟩) rfl ?_ (by simp only [nthOp, Act.put, List.setIfInBounds_toArray, List.set_cons_succ, List.set_cons_zero]; rfl) ?_
    · exact fun _ => rfl
    refine tr_plain (.bool tok) rfl ?_ (by simp only [nthOp, Act.put, List.setIfInBounds_toArray, List.set_cons_succ, List.set_cons_zero]; rfl) ?_
    · exact fun _ => rfl
    have h9 := h8.alloc (.cells #[.string ⟨#[]⟩] 9 (0, 0))
    have h10 := h9.eq (B := star (Mp kI bm (pubV (putM id n1 b.1))) (star (pt p (.cells #[.map (some bm), .pointer (some ⟨rp, 0, none⟩)] 72 (0, 0))) (star (pt bc (.cells #[.int .i64 kk, kS t, kS d] 60 (0, 0))) (star (pt w7.heap.size (.cells #[.string ⟨#[]⟩] 9 (0, 0))) (star (pt bop (.cells #[.int .i64 op] 3 (0, 0))) (star (IsR rp b.2) R)))))) (by ac_rfl)
    refine tr_one ?_
    simp only [nthOp]
    go_wp2_with fail
    simp only [Reg.Next]
    refine ⟨fun _ => HC.out _ _ h10, tr_one ?_⟩
    simp only [nthOp]
    obtain ⟨bs, hbs⟩ : ∃ bs, w7.heap.size = bs := ⟨_, rfl⟩
    rw [hbs] at h9
    rw [hbs]
    clear hbs h8 h10
    generalize w7.alloc (.cells #[.string ⟨#[]⟩] 9 (0, 0)) = w8 at *
    have hc := h9.cell 0 rfl
    have hf := h9.free 0
    have h11 := h9.setCell 0 (.string ⟨tx.toArray⟩)
    have h12 : St W _ (star (pt bs (.cells #[.string ⟨tx.toArray⟩] 9 (0, 0))) (star (Mp kI bm (pubV (putM id n1 b.1))) (star (pt p (.cells #[.map (some bm), .pointer (some ⟨rp, 0, none⟩)] 72 (0, 0))) (star (pt bc (.cells #[.int .i64 kk, kS t, kS d] 60 (0, 0))) (star (pt bop (.cells #[.int .i64 op] 3 (0, 0))) (star (IsR rp b.2) R)))))) := h11
    clear h9 h11
    go_wp2_with fail
    simp only [Reg.Next]
    refine ⟨fun _ => HC.out _ _ h12.right, ?_⟩
    refine tr_plain (.bool tok) rfl ?_ (by simp only [nthOp, Act.put, List.setIfInBounds_toArray, List.set_cons_succ, List.set_cons_zero]; rfl) ?_
    · exact fun _ => rfl
    refine tr_done ?_
    clear hc hf HC HT
    generalize w8.setCell ⟨bs, 0, none⟩ (.string ⟨tx.toArray⟩) = w9 at *
    have h13 := (h12.alloc (.cells #[.slice none 0 0] 31 (0, 0)))
    obtain ⟨ob, hob⟩ : ∃ ob, w9.heap.size = ob := ⟨_, rfl⟩
    rw [hob] at h13
    have hp1 := h13.drew.right.right.right.cell 1 (v := .pointer (some ⟨rp, 0, none⟩)) rfl
    have hcc := h13.drew.right.right.right.right.cell 1 (v := kS t) rfl
    have HO := Lib.hid (Of_any rp t h13.drew)
    clear h12
    gi_wp2_with fail
    refine wpIn_wide.2 (wp_region_canon [0, 1, 2, 3, 4, 5, 6] (by kernel_rfl) (by kernel_rfl) ?_)
    simp only [pickOps, nthOp]
    generalize (w9.alloc (.cells #[.slice none 0 0] 31 (0, 0))).drew = w10 at *
    go_wp2_with fail
    refine HO.out.mono ?_
    rintro e w11 ⟨b1, b2, rfl, h14⟩
    have h15 : St W w11 (PF ob bop bs b1 b2 rp t op tx b.2 (star (pt bc (.cells #[.int .i64 kk, kS t, kS d] 60 (0, 0))) (star (Mp kI bm (pubV (putM id n1 b.1))) (star (pt p (.cells #[.map (some bm), .pointer (some ⟨rp, 0, none⟩)] 72 (0, 0))) R))) []) := by
      have h16 := h14.eq (B := star (pt ob (.cells #[.slice none 0 0] 31 (0, 0))) (star (pt b1 (.cells #[.pointer (some ⟨rp, 0, none⟩)] 69 (0, 0))) (star (pt b2 (.cells #[kS t] 9 (0, 0))) (star (pt bop (.cells #[.int .i64 op] 3 (0, 0))) (star (pt bs (.cells #[.string ⟨tx.toArray⟩] 9 (0, 0))) (star (IsR rp b.2) (star (pt bc (.cells #[.int .i64 kk, kS t, kS d] 60 (0, 0))) (star (Mp kI bm (pubV (putM id n1 b.1))) (star (pt p (.cells #[.map (some bm), .pointer (some ⟨rp, 0, none⟩)] 72 (0, 0))) R))))))))) (by ac_rfl)
      have h17 := St.toHeldS (h16.nilRow (e := 40) (size := 3)).swap
      unfold PF
      exact h17.eq (by show star (HeldS _ _ _ _ 0 []) _ = _; ac_rfl)
    clear h13 h14 hp1 hcc HO
    go_wp2_with fail
    simp only [Only]
    gi_wp2_with fail
    have hol : (ofP b.2 t).length ≤ 1000000 := Nat.le_trans (ofP_le b.2 t) HL.out
    refine range_of2 (m := 1) (fun i x t => ((t.setIfInBounds 44 (.int .i64 i)).setIfInBounds 45 (.int .i64 x)).setIfInBounds 13 (.int .i64 x)) rp b1 b2 t (ofP b.2 t) hol (PF ob bop bs b1 b2 rp t op tx b.2 (star (pt bc (.cells #[.int .i64 kk, kS t, kS d] 60 (0, 0))) (star (Mp kI bm (pubV (putM id n1 b.1))) (star (pt p (.cells #[.map (some bm), .pointer (some ⟨rp, 0, none⟩)] 72 (0, 0))) R)))) (fun _ => No) rfl rfl h15 ?cells ?assign ?round ?done ?stop
    case cells =>
      intro w5 h5
      unfold PF at h5
      exact ⟨h5.cell 0 rfl, h5.right.cell 0 rfl, reads_of h5.right.right.right.right.right t⟩
    case assign =>
      rintro i x l0 w5 K hK
      gi_wp2_with fail
      exact hK
    case round =>
      rintro pre k post hx0 l0 busy C w5 h5
      have hx := Lib.hid hx0
      have hpl : pre.length < 1000000 := by rw [hx0] at hol; simp at hol; omega
      clear hx0 hol h15
      simp only [List.setIfInBounds_toArray, List.set_cons_succ, List.set_cons_zero]
      unfold PF at h5
      obtain ⟨ov, h6⟩ := St.heldS (R := star (pt bop (.cells #[.int .i64 op] 3 (0, 0))) (star (pt bs (.cells #[.string ⟨tx.toArray⟩] 9 (0, 0))) (star (pt l0 (.loop busy)) (star C (star (pt b1 (.cells #[.pointer (some ⟨rp, 0, none⟩)] 69 (0, 0))) (star (pt b2 (.cells #[kS t] 9 (0, 0))) (star (IsR rp b.2) (star (pt bc (.cells #[.int .i64 kk, kS t, kS d] 60 (0, 0))) (star (Mp kI bm (pubV (putM id n1 b.1))) (star (pt p (.cells #[.map (some bm), .pointer (some ⟨rp, 0, none⟩)] 72 (0, 0))) R)))))))))) (h5.eq (by ac_rfl))
      obtain ⟨_, va, vk, rfl, _⟩ := _root_.id h6.right.rowSl
      have hob0 := h6.cell 0 rfl
      have hop0 := h6.right.right.cell 0 rfl
      have hbs0 := h6.right.right.right.cell 0 rfl
      have h9 := h6.alloc (.cells #[.int .i64 k, .int .i64 op, .string ⟨tx.toArray⟩] 40)
      have h10 := (h9.right).eq (B := star (Row 40 3 (.slice va pre.length vk) pre.length (outsV (pre.map fun k => (k, op, tx)))) (star (pt ob (.cells #[.slice va pre.length vk] 31 (0, 0))) (star (pt bop (.cells #[.int .i64 op] 3 (0, 0))) (star (pt bs (.cells #[.string ⟨tx.toArray⟩] 9 (0, 0))) (star (pt l0 (.loop busy)) (star C (star (pt b1 (.cells #[.pointer (some ⟨rp, 0, none⟩)] 69 (0, 0))) (star (pt b2 (.cells #[kS t] 9 (0, 0))) (star (IsR rp b.2) (star (pt bc (.cells #[.int .i64 kk, kS t, kS d] 60 (0, 0))) (star (Mp kI bm (pubV (putM id n1 b.1))) (star (pt p (.cells #[.map (some bm), .pointer (some ⟨rp, 0, none⟩)] 72 (0, 0))) R)))))))))))) (by ac_rfl)
      have hone : Sl (w5.alloc (.cells #[.int .i64 k, .int .i64 op, .string ⟨tx.toArray⟩] 40)) 3 (.slice (some ⟨w5.heap.size, 0, none⟩) 1 1) 1 (outsV [(k, op, tx)]) := (St.mkRow (size := 3) (n := 1) (cap := 1) (xs := outsV [(k, op, tx)]) h9 (Nat.le_refl _) (by unfold maxLen; omega) rfl rfl).rowSl
      obtain ⟨i0, hi0, hz0, hz1, hz2⟩ := info_parts infoO
      have U := Tryz.underlying31
      clear h5 h6 h9
      gi_wp2_with (gi_at_builtin; refine wpListIn_append_Sl rfl (.tmp 46) (.tmp 51) 31 rfl 40 i0 _ 3 32 U hi0 hz0 hz1 hz2 rfl (.slice va pre.length vk) _ _ rfl h10 _ 1 (outsV [(k, op, tx)]) rfl hone (outsV_one _) (by unfold maxLen; omega) (by omega) ?_; intro v9 w9 hS9 hv9; obtain ⟨_, a9, c9, rfl, _⟩ := _root_.id hS9.rowSl; have hc9 := hS9.swap.cell 0 rfl; have hf9 := hS9.swap.free 0)
      have h11 := hS9.swap.setCell 0 (.slice a9 (pre.length + 1) c9)
      have el : (pre ++ [k]).length = pre.length + 1 := by simp
      have ev : outsV ((pre ++ [k]).map fun k => (k, op, tx)) = outsV (pre.map fun k => (k, op, tx)) ++ outsV [(k, op, tx)] := by rw [List.map_append, outsV_append]; rfl
      show St W _ (star (pt l0 (.loop busy)) (star C (PF ob bop bs b1 b2 rp t op tx b.2 _ (pre ++ [k]))))
      exact (St.toHeldS h11).eq (by unfold PF; rw [el, ev]; ac_rfl)
    case done =>
      rintro D w5 h5
      have HFIN := Lib.hid h5
      clear h5 h15
      have h6 := HFIN.out
      unfold PF at h6
      obtain ⟨ov, h7⟩ := St.heldS (R := star (pt D (.deferred (some []))) (star (star (pt b1 (.cells #[.pointer (some ⟨rp, 0, none⟩)] 69 (0, 0))) (star (pt b2 (.cells #[kS t] 9 (0, 0))) (star (pt bop (.cells #[.int .i64 op] 3 (0, 0))) (star (pt bs (.cells #[.string ⟨tx.toArray⟩] 9 (0, 0))) (pt bc (.cells #[.int .i64 kk, kS t, kS d] 60 (0, 0))))))) (star (pt p (.cells #[.map (some bm), .pointer (some ⟨rp, 0, none⟩)] 72 (0, 0))) (star (Mp kI bm (pubV (putM id n1 b.1))) (star (IsR rp b.2) R))))) (h6.eq (by ac_rfl))
      obtain ⟨_, oa, oc, rfl, _⟩ := _root_.id h7.right.rowSl
      have hob0 := h7.cell 0 rfl
      have h8 := h7.right.swap
      have hK := h8.blk
      clear h6 HFIN
      gi_wp2_with fail
      refine ⟨by simp, .inl ⟨_, _, rfl, run_takeDeferred hK, ?_⟩⟩
      have h10 := St.putObj h8 (.deferred none)
      refine ⟨.slice oa (ofP b.2 t).length oc, by simp [results, Tryz.results37, go_sem], ?_⟩
      have h11 := h10.right.swap.right
      exact DPst.mk HTX.out (by simp) rfl ((St.toB (b := (putM id n1 b.1, b.2)) (bm := bm) (rp := rp) (R := star (Row 40 3 (.slice oa (ofP b.2 t).length oc) (ofP b.2 t).length (outsV ((ofP b.2 t).map fun k => (k, op, tx)))) R) (h11.eq (by ac_rfl))).swap)
    case stop =>
      rintro D c w5 h5
      exact (St.no h5).elim
  · have h9 := h7.alloc (.cells #[.string ⟨#[]⟩] 9 (0, 0))
    have h10 := h9.eq (B := star (Mp kI bm (pubV (putM id n1 b.1))) (star (pt p (.cells #[.map (some bm), .pointer (some ⟨rp, 0, none⟩)] 72 (0, 0))) (star (pt bc (.cells #[.int .i64 kk, kS t, kS d] 60 (0, 0))) (star (pt w6.heap.size (.cells #[.string ⟨#[]⟩] 9 (0, 0))) (star (pt bop (.cells #[.int .i64 op] 3 (0, 0))) (star (IsR rp b.2) R)))))) (by ac_rfl)
    simp only [nthOp]
    go_wp2_with fail
    simp only [Reg.Next]
    refine ⟨fun _ => HC.out _ _ h10, tr_one ?_⟩
    simp only [nthOp]
    obtain ⟨bs, hbs⟩ : ∃ bs, w6.heap.size = bs := ⟨_, rfl⟩
    rw [hbs] at h9
    rw [hbs]
    clear hbs h10 h7
    generalize w6.alloc (.cells #[.string ⟨#[]⟩] 9 (0, 0)) = w6b at *
    go_wp2_with fail
    refine (HT.out _ (HG.out.st h9)).mono ?_
    rintro e w8 hq
    replace h9 := h9.makes hq
    obtain ⟨rfl, -⟩ := hq
    go_wp2_with fail
    simp only [Reg.Next]
    refine ⟨fun _ => HC.out _ _ h9.right, ?_⟩
    refine tr_plain (.tuple #[.string ⟨tx.toArray⟩, .bool tok]) rfl ?_ (by simp only [nthOp, Act.put, List.setIfInBounds_toArray, List.set_cons_succ, List.set_cons_zero]; rfl) ?_
    · exact fun _ => rfl
    refine tr_plain (.string ⟨tx.toArray⟩) rfl ?_ (by simp only [nthOp, Act.put, List.setIfInBounds_toArray, List.set_cons_succ, List.set_cons_zero]; rfl) ?_
    · exact fun _ => rfl
    refine tr_plain (.bool tok) rfl ?_ (by simp only [nthOp, Act.put, List.setIfInBounds_toArray, List.set_cons_succ, List.set_cons_zero]; rfl) ?_
    · exact fun _ => rfl
    refine tr_one ?_
    simp only [nthOp]
    have hc := h9.cell 0 rfl
    have hf := h9.free 0
    have h11 := h9.setCell 0 (.string ⟨tx.toArray⟩)
    have h12 : St W _ (star (pt bs (.cells #[.string ⟨tx.toArray⟩] 9 (0, 0))) (star (Mp kI bm (pubV (putM id n1 b.1))) (star (pt p (.cells #[.map (some bm), .pointer (some ⟨rp, 0, none⟩)] 72 (0, 0))) (star (pt bc (.cells #[.int .i64 kk, kS t, kS d] 60 (0, 0))) (star (pt bop (.cells #[.int .i64 op] 3 (0, 0))) (star (IsR rp b.2) R)))))) := h11
    clear h9 h11
    go_wp2_with fail
    simp only [Reg.Next]
    refine ⟨fun _ => HC.out _ _ h12.right, ?_⟩
    refine tr_plain (.bool tok) rfl ?_ (by simp only [nthOp, Act.put, List.setIfInBounds_toArray, List.set_cons_succ, List.set_cons_zero]; rfl) ?_
    · exact fun _ => rfl
    refine tr_done ?_
    clear hc hf HC HT
    generalize w8.setCell ⟨bs, 0, none⟩ (.string ⟨tx.toArray⟩) = w9 at *
    have h13 := (h12.alloc (.cells #[.slice none 0 0] 31 (0, 0)))
    obtain ⟨ob, hob⟩ : ∃ ob, w9.heap.size = ob := ⟨_, rfl⟩
    rw [hob] at h13
    have hp1 := h13.drew.right.right.right.cell 1 (v := .pointer (some ⟨rp, 0, none⟩)) rfl
    have hcc := h13.drew.right.right.right.right.cell 1 (v := kS t) rfl
    have HO := Lib.hid (Of_any rp t h13.drew)
    clear h12
    gi_wp2_with fail
    refine wpIn_wide.2 (wp_region_canon [0, 1, 2, 3, 4, 5, 6] (by kernel_rfl) (by kernel_rfl) ?_)
    simp only [pickOps, nthOp]
    generalize (w9.alloc (.cells #[.slice none 0 0] 31 (0, 0))).drew = w10 at *
    go_wp2_with fail
    refine HO.out.mono ?_
    rintro e w11 ⟨b1, b2, rfl, h14⟩
    have h15 : St W w11 (PF ob bop bs b1 b2 rp t op tx b.2 (star (pt bc (.cells #[.int .i64 kk, kS t, kS d] 60 (0, 0))) (star (Mp kI bm (pubV (putM id n1 b.1))) (star (pt p (.cells #[.map (some bm), .pointer (some ⟨rp, 0, none⟩)] 72 (0, 0))) R))) []) := by
      have h16 := h14.eq (B := star (pt ob (.cells #[.slice none 0 0] 31 (0, 0))) (star (pt b1 (.cells #[.pointer (some ⟨rp, 0, none⟩)] 69 (0, 0))) (star (pt b2 (.cells #[kS t] 9 (0, 0))) (star (pt bop (.cells #[.int .i64 op] 3 (0, 0))) (star (pt bs (.cells #[.string ⟨tx.toArray⟩] 9 (0, 0))) (star (IsR rp b.2) (star (pt bc (.cells #[.int .i64 kk, kS t, kS d] 60 (0, 0))) (star (Mp kI bm (pubV (putM id n1 b.1))) (star (pt p (.cells #[.map (some bm), .pointer (some ⟨rp, 0, none⟩)] 72 (0, 0))) R))))))))) (by ac_rfl)
      have h17 := St.toHeldS (h16.nilRow (e := 40) (size := 3)).swap
      unfold PF
      exact h17.eq (by show star (HeldS _ _ _ _ 0 []) _ = _; ac_rfl)
    clear h13 h14 hp1 hcc HO
    go_wp2_with fail
    simp only [Only]
    gi_wp2_with fail
    have hol : (ofP b.2 t).length ≤ 1000000 := Nat.le_trans (ofP_le b.2 t) HL.out
    refine range_of2 (m := 1) (fun i x t => ((t.setIfInBounds 44 (.int .i64 i)).setIfInBounds 45 (.int .i64 x)).setIfInBounds 13 (.int .i64 x)) rp b1 b2 t (ofP b.2 t) hol (PF ob bop bs b1 b2 rp t op tx b.2 (star (pt bc (.cells #[.int .i64 kk, kS t, kS d] 60 (0, 0))) (star (Mp kI bm (pubV (putM id n1 b.1))) (star (pt p (.cells #[.map (some bm), .pointer (some ⟨rp, 0, none⟩)] 72 (0, 0))) R)))) (fun _ => No) rfl rfl h15 ?cells ?assign ?round ?done ?stop
    case cells =>
      intro w5 h5
      unfold PF at h5
      exact ⟨h5.cell 0 rfl, h5.right.cell 0 rfl, reads_of h5.right.right.right.right.right t⟩
    case assign =>
      rintro i x l0 w5 K hK
      gi_wp2_with fail
      exact hK
    case round =>
      rintro pre k post hx0 l0 busy C w5 h5
      have hx := Lib.hid hx0
      have hpl : pre.length < 1000000 := by rw [hx0] at hol; simp at hol; omega
      clear hx0 hol h15
      simp only [List.setIfInBounds_toArray, List.set_cons_succ, List.set_cons_zero]
      unfold PF at h5
      obtain ⟨ov, h6⟩ := St.heldS (R := star (pt bop (.cells #[.int .i64 op] 3 (0, 0))) (star (pt bs (.cells #[.string ⟨tx.toArray⟩] 9 (0, 0))) (star (pt l0 (.loop busy)) (star C (star (pt b1 (.cells #[.pointer (some ⟨rp, 0, none⟩)] 69 (0, 0))) (star (pt b2 (.cells #[kS t] 9 (0, 0))) (star (IsR rp b.2) (star (pt bc (.cells #[.int .i64 kk, kS t, kS d] 60 (0, 0))) (star (Mp kI bm (pubV (putM id n1 b.1))) (star (pt p (.cells #[.map (some bm), .pointer (some ⟨rp, 0, none⟩)] 72 (0, 0))) R)))))))))) (h5.eq (by ac_rfl))
      obtain ⟨_, va, vk, rfl, _⟩ := _root_.id h6.right.rowSl
      have hob0 := h6.cell 0 rfl
      have hop0 := h6.right.right.cell 0 rfl
      have hbs0 := h6.right.right.right.cell 0 rfl
      have h9 := h6.alloc (.cells #[.int .i64 k, .int .i64 op, .string ⟨tx.toArray⟩] 40)
      have h10 := (h9.right).eq (B := star (Row 40 3 (.slice va pre.length vk) pre.length (outsV (pre.map fun k => (k, op, tx)))) (star (pt ob (.cells #[.slice va pre.length vk] 31 (0, 0))) (star (pt bop (.cells #[.int .i64 op] 3 (0, 0))) (star (pt bs (.cells #[.string ⟨tx.toArray⟩] 9 (0, 0))) (star (pt l0 (.loop busy)) (star C (star (pt b1 (.cells #[.pointer (some ⟨rp, 0, none⟩)] 69 (0, 0))) (star (pt b2 (.cells #[kS t] 9 (0, 0))) (star (IsR rp b.2) (star (pt bc (.cells #[.int .i64 kk, kS t, kS d] 60 (0, 0))) (star (Mp kI bm (pubV (putM id n1 b.1))) (star (pt p (.cells #[.map (some bm), .pointer (some ⟨rp, 0, none⟩)] 72 (0, 0))) R)))))))))))) (by ac_rfl)
      have hone : Sl (w5.alloc (.cells #[.int .i64 k, .int .i64 op, .string ⟨tx.toArray⟩] 40)) 3 (.slice (some ⟨w5.heap.size, 0, none⟩) 1 1) 1 (outsV [(k, op, tx)]) := (St.mkRow (size := 3) (n := 1) (cap := 1) (xs := outsV [(k, op, tx)]) h9 (Nat.le_refl _) (by unfold maxLen; omega) rfl rfl).rowSl
      obtain ⟨i0, hi0, hz0, hz1, hz2⟩ := info_parts infoO
      have U := Tryz.underlying31
      clear h5 h6 h9
      gi_wp2_with (gi_at_builtin; refine wpListIn_append_Sl rfl (.tmp 46) (.tmp 51) 31 rfl 40 i0 _ 3 32 U hi0 hz0 hz1 hz2 rfl (.slice va pre.length vk) _ _ rfl h10 _ 1 (outsV [(k, op, tx)]) rfl hone (outsV_one _) (by unfold maxLen; omega) (by omega) ?_; intro v9 w9 hS9 hv9; obtain ⟨_, a9, c9, rfl, _⟩ := _root_.id hS9.rowSl; have hc9 := hS9.swap.cell 0 rfl; have hf9 := hS9.swap.free 0)
      have h11 := hS9.swap.setCell 0 (.slice a9 (pre.length + 1) c9)
      have el : (pre ++ [k]).length = pre.length + 1 := by simp
      have ev : outsV ((pre ++ [k]).map fun k => (k, op, tx)) = outsV (pre.map fun k => (k, op, tx)) ++ outsV [(k, op, tx)] := by rw [List.map_append, outsV_append]; rfl
      show St W _ (star (pt l0 (.loop busy)) (star C (PF ob bop bs b1 b2 rp t op tx b.2 _ (pre ++ [k]))))
      exact (St.toHeldS h11).eq (by unfold PF; rw [el, ev]; ac_rfl)
    case done =>
      rintro D w5 h5
      have HFIN := Lib.hid h5
      clear h5 h15
      have h6 := HFIN.out
      unfold PF at h6
      obtain ⟨ov, h7⟩ := St.heldS (R := star (pt D (.deferred (some []))) (star (star (pt b1 (.cells #[.pointer (some ⟨rp, 0, none⟩)] 69 (0, 0))) (star (pt b2 (.cells #[kS t] 9 (0, 0))) (star (pt bop (.cells #[.int .i64 op] 3 (0, 0))) (star (pt bs (.cells #[.string ⟨tx.toArray⟩] 9 (0, 0))) (pt bc (.cells #[.int .i64 kk, kS t, kS d] 60 (0, 0))))))) (star (pt p (.cells #[.map (some bm), .pointer (some ⟨rp, 0, none⟩)] 72 (0, 0))) (star (Mp kI bm (pubV (putM id n1 b.1))) (star (IsR rp b.2) R))))) (h6.eq (by ac_rfl))
      obtain ⟨_, oa, oc, rfl, _⟩ := _root_.id h7.right.rowSl
      have hob0 := h7.cell 0 rfl
      have h8 := h7.right.swap
      have hK := h8.blk
      clear h6 HFIN
      gi_wp2_with fail
      refine ⟨by simp, .inl ⟨_, _, rfl, run_takeDeferred hK, ?_⟩⟩
      have h10 := St.putObj h8 (.deferred none)
      refine ⟨.slice oa (ofP b.2 t).length oc, by simp [results, Tryz.results37, go_sem], ?_⟩
      have h11 := h10.right.swap.right
      exact DPst.mk HTX.out (by simp) rfl ((St.toB (b := (putM id n1 b.1, b.2)) (bm := bm) (rp := rp) (R := star (Row 40 3 (.slice oa (ofP b.2 t).length oc) (ofP b.2 t).length (outsV ((ofP b.2 t).map fun k => (k, op, tx)))) R) (h11.eq (by ac_rfl))).swap)
    case stop =>
      rintro D c w5 h5
      exact (St.no h5).elim
end Go.Proofs.YtdobgebdlbckoaaGreatDoor.BkC
