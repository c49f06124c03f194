import Derived.Test.YtdobgebdlbckoaaGreatDoorBkO
import Derived.Test.YtdobgebdlbckoaaGreatDoorMpR
import Derived.Sort.MapsRangeIn
namespace Go.Proofs.YtdobgebdlbckoaaGreatDoor.BkR
open Go Go.RowKit Go.Proofs Go.Proofs.YtdobgebdlbckoaaGreatDoor.Sep Go.Proofs.YtdobgebdlbckoaaGreatDoor.Reg Go.Proofs.YtdobgebdlbckoaaGreatDoor.Frame Go.Proofs.YtdobgebdlbckoaaGreatDoor.Rng Go.Proofs.YtdobgebdlbckoaaGreatDoor.RngA Go.Proofs.YtdobgebdlbckoaaGreatDoor.RngB Go.Proofs.YtdobgebdlbckoaaGreatDoor.Mp Go.Proofs.YtdobgebdlbckoaaGreatDoor.MpR Go.Proofs.YtdobgebdlbckoaaGreatDoor.Ms Go.Proofs.YtdobgebdlbckoaaGreatDoor.WdP Go.Proofs.YtdobgebdlbckoaaGreatDoor.WdN Go.Proofs.YtdobgebdlbckoaaGreatDoor.TpP Go.Proofs.YtdobgebdlbckoaaGreatDoor.TpA Go.Proofs.YtdobgebdlbckoaaGreatDoor.TpJ Go.Proofs.YtdobgebdlbckoaaGreatDoor.BkP Go.Proofs.YtdobgebdlbckoaaGreatDoor.BkA
section
variable {κ : Type} [DecidableEq κ] {F : Fence} {n : Nat} {P : Program} {W w : World} {d : TypeDesc} {enc : κ → Value} {b r : Nat} {es left : List (κ × Value)} {cur : Option (κ × Value)} {R : Asn} {t kt et : TypeId} {ops : Array Oper} {rest : List Oper} {o : Oper} {a : Act} {Q : Exit → Act → World → Prop}
theorem wpListIn_range (hg : o.guard = none) (m : Operand) (hop : o.op = Op.range t m) (ht : P.underlying t = some (.map kt et)) (hm : a.eval m = .map (some b)) (h : St W w (star (Mp enc b es) R))
    (hK : ∀ w', St W w' (star (Rg enc b w.heap.size es es none) R) → wpListIn F n P ops Q rest (a.put o.dst (.pointer (some ⟨w.heap.size, 0, none⟩))) w') : wpListIn F n P ops Q (o :: rest) a w := by
  refine wpListIn_plain hg fun K' hK' => ?_
  obtain ⟨w', hrun, h'⟩ := run_range ht h
  unfold Oper.wpIn
  refine ⟨?_, ?_⟩
  · simp [Oper.about, hop]
  · rw [Oper.semAt_plain F _ _ (by rw [hop]; intro c hc'; cases hc')]
    simp [execOp, hop, hm, hrun, Result.andThen]
    exact hK' _ _ (hK w' h')
theorem wpListIn_next (C : KeyC d enc) (hg : o.guard = none) (it : Operand) (hop : o.op = Op.next it false) (hm : a.eval it = .pointer (some ⟨r, 0, none⟩)) (h : St W w (star (Rg enc b r es left cur) R))
    (h0 : left = [] → wpListIn F n P ops Q rest (a.put o.dst (.tuple #[.bool false])) w)
    (h1 : ∀ (e : κ × Value) (left' : List (κ × Value)) (w' : World), e ∈ left → e ∈ es → left'.length < left.length → (∀ x, x ∈ left' ↔ x ∈ left ∧ x.1 ≠ e.1) → St W w' (star (Rg enc b r es left' (some e)) R) →
      (Instr.entry (.pointer (some ⟨r, 0, none⟩))).run P w' = .ok (.tuple #[enc e.1, e.2]) w' →
      wpListIn F n P ops Q rest (a.put o.dst (.tuple #[.bool true, enc e.1, e.2])) w') : wpListIn F n P ops Q (o :: rest) a w := by
  refine wpListIn_plain hg fun K' hK' => ?_
  rcases run_next (P := P) C h o.type with ⟨hl, hrun⟩ | ⟨e, left', w', he, hes, hlt, hlx, hrun, h'⟩
  · unfold Oper.wpIn
    refine ⟨?_, ?_⟩
    · simp [Oper.about, hop]
    · rw [Oper.semAt_plain F _ _ (by rw [hop]; intro c hc'; cases hc')]
      simp [execOp, hop, hm, hrun, Result.andThen]
      exact hK' _ _ (h0 hl)
  · unfold Oper.wpIn
    refine ⟨?_, ?_⟩
    · simp [Oper.about, hop]
    · rw [Oper.semAt_plain F _ _ (by rw [hop]; intro c hc'; cases hc')]
      simp [execOp, hop, hm, hrun, Result.andThen]
      exact hK' _ _ (h1 e left' w' he hes hlt hlx h' (run_entry h'))
end
theorem wpListIn_nextI {F : Fence} {n : Nat} {P : Program} {W w : World} {b r : Nat} {es left : List (Int × Value)} {cur : Option (Int × Value)} {R : Asn} {ops : Array Oper} {rest : List Oper} {o : Oper} {a : Act} {Q : Exit → Act → World → Prop}
    (hg : o.guard = none) (it : Operand) (hop : o.op = Op.next it false) (hm : a.eval it = .pointer (some ⟨r, 0, none⟩)) (h : St W w (star (Rg kI b r es left cur) R))
    (h0 : left = [] → wpListIn F n P ops Q rest (a.put o.dst (.tuple #[.bool false])) w)
    (h1 : ∀ (k : Int) (v : Value) (left' : List (Int × Value)) (w' : World), (k, v) ∈ left → (k, v) ∈ es → left'.length < left.length → (∀ x, x ∈ left' ↔ x ∈ left ∧ x.1 ≠ k) → St W w' (star (Rg kI b r es left' (some (k, v))) R) →
      (Instr.entry (.pointer (some ⟨r, 0, none⟩))).run P w' = .ok (.tuple #[.int .i64 k, v]) w' →
      wpListIn F n P ops Q rest (a.put o.dst (.tuple #[.bool true, .int .i64 k, v])) w') : wpListIn F n P ops Q (o :: rest) a w :=
  wpListIn_next TpI.cI hg it hop hm h h0 fun e left' w' he hes hlt hlx h' hen => h1 e.1 e.2 left' w' he hes hlt hlx h' hen
/-- Which keys came so far. -/
structure Half (es left : List (Int × Value)) (pre : List Int) : Prop where
  nd : pre.Nodup
  apart : ∀ k ∈ pre, ∀ x ∈ left, x.1 ≠ k
  all : ∀ x ∈ es, x.1 ∈ pre ∨ x ∈ left
  back : ∀ k ∈ pre, ∃ x ∈ es, x.1 = k
  few : pre.length + left.length ≤ es.length
theorem Half.start (es : List (Int × Value)) : Half es es [] := ⟨List.nodup_nil, by simp, fun x hx => .inr hx, by simp, by simp⟩
theorem Half.step {es left left' : List (Int × Value)} {pre : List Int} (h : Half es left pre) {e : Int × Value} (he : e ∈ left) (hes : e ∈ es) (hlx : ∀ x, x ∈ left' ↔ x ∈ left ∧ x.1 ≠ e.1) (hlt : left'.length < left.length) : Half es left' (pre ++ [e.1]) := by
  refine ⟨List.nodup_append.2 ⟨h.nd, by simp, ?_⟩, ?_, ?_, ?_, by have := h.few; simp; omega⟩
  · intro a ha b hb
    simp at hb; subst hb
    exact fun h' => h.apart a ha e he h'.symm
  · intro k hk x hx
    rcases List.mem_append.1 hk with hk | hk
    · exact h.apart k hk x ((hlx x).1 hx).1
    · simp at hk; subst hk; exact ((hlx x).1 hx).2
  · intro x hx
    by_cases hq : x.1 = e.1
    · exact .inl (by simp [hq])
    · rcases h.all x hx with h1 | h1
      · exact .inl (by simp [h1])
      · exact .inr ((hlx x).2 ⟨h1, hq⟩)
  · intro k hk
    rcases List.mem_append.1 hk with hk | hk
    · exact h.back k hk
    · simp at hk; subst hk; exact ⟨e, hes, rfl⟩
theorem Half.done {es : List (Int × Value)} {pre : List Int} (h : Half es [] pre) (hn : (es.map (·.1)).Nodup) : pre.Perm (es.map (·.1)) := by
  refine (List.perm_ext_iff_of_nodup h.nd hn).2 fun k => ⟨fun hk => ?_, fun hk => ?_⟩
  · obtain ⟨x, hx, rfl⟩ := h.back k hk
    exact List.mem_map.2 ⟨x, hx, rfl⟩
  · obtain ⟨x, hx, rfl⟩ := List.mem_map.1 hk
    rcases h.all x hx with h1 | h1
    · exact h1
    · cases h1
set_option maxRecDepth 100000 in
set_option maxHeartbeats 8000000 in
/-- The keys of a map are yielded one by one, in some order. -/
theorem Keys1_any (c1 bm y m : Nat) (es : List (Int × Value)) (I : List Int → Asn) (J : Code → Asn) {W w : World}
    (hY : ∀ pre x C w, pre.length < es.length + 1 → St W w (star C (I pre)) → YieldAt Fence.wide m Tryz.prog y #[.int .i64 x] w fun e w' => (e = .returned (.bool true) ∧ St W w' (star C (I (pre ++ [x])))) ∨ (e = .returned (.bool false) ∧ ∃ c, St W w' (star C (J c))))
    (h : St W w (star (pt c1 (.cells #[.map (some bm)] 58 (0, 0))) (star (Mp kI bm es) (I [])))) :
    CallsIn Fence.wide (m + 1) Tryz.prog 60 #[.func (.yield y) #[] #[], .pointer (some ⟨c1, 0, none⟩)] w fun e w' => (∃ v, e = .returned v) ∧
      ((∃ L, Half es [] L ∧ St W w' (star (pt c1 (.cells #[.map (some bm)] 58 (0, 0))) (star (Mp kI bm es) (I L)))) ∨ ∃ c, St W w' (J c)) := by
  have HY := Lib.hid hY
  clear hY
  refine callsIn_of_wp Tryz.func60 rfl trivial ?_ rfl
  simp only [Tryz.ntmps60, List.size_toArray, List.length_cons, List.length_nil, Nat.reduceAdd, Nat.reduceSub, Array.replicate_succ, Array.replicate_zero, List.push_toArray, List.append_toArray, List.nil_append, List.cons_append]
  have hc := h.cell 0 rfl
  have h1 := h.eq (B := star (Mp kI bm es) (star (pt c1 (.cells #[.map (some bm)] 58 (0, 0))) (I []))) (by ac_rfl)
  gi_wp2_with (gi_at_range; refine wpListIn_range rfl _ rfl Tryz.underlying58 rfl h1 ?_)
  intro w2 h2
  clear h h1 hc
  generalize w.heap.size = r at *
  gi_wp2_with fail
  gi_loopw [3] (fun _ wr => ∃ left cur pre, Half es left pre ∧ St W wr (star (Rg kI bm r es left cur) (star (pt c1 (.cells #[.map (some bm)] 58 (0, 0))) (I pre)))) (fun _ wr => leftN wr bm r)
  case atStart => exact ⟨es, none, [], Half.start es, h2⟩
  case round =>
    obtain ⟨left, cur, pre, hh, hS⟩ := hrel
    have HH := Lib.hid hh
    have HLT : Hid (leftN wr bm r = left.length) := Lib.hid (leftN_eq hS)
    clear h2 hh
    gi_wp2_with (gi_at_next; refine wpListIn_nextI rfl (.tmp 5) rfl rfl hS (fun hl0 => ?_) (fun k v left2 w3 he hes hlt hlx h3 hen => ?_))
    · have h4 := St.rgMp hS
      rw [hl0] at HH
      clear hS
      gi_wp2_with fail
      refine bodyPost_end (results_none rfl _ _ _) rfl ?_
      exact ⟨⟨_, rfl⟩, .inl ⟨pre, HH.out, h4.swap⟩⟩
    · have HE := Lib.hid (HH.out.step he hes hlx hlt)
      have HL2 : Hid (left2.length < leftN wr bm r) := Lib.hid (by rw [HLT.out]; exact hlt)
      have hz := HY.out pre k _ _ (by have := HH.out.few; omega) (h3.eq (B := star (star (Rg kI bm r es left2 (some (k, v))) (pt c1 (.cells #[.map (some bm)] 58 (0, 0)))) (I pre)) (by ac_rfl))
      obtain ⟨fn, tmps, assign, body, hy, hR⟩ := hz
      have hy' : (Instr.yield y #[.int .i64 k]).run Tryz.prog w3 = .ok (.round y fn tmps assign body) w3 := hy
      clear he hes hlt hlx hS h3 hy
      gi_wp2_with fail
      refine hR.mono ?_
      rintro e0 w4 (⟨rfl, h3⟩ | ⟨rfl, c, h3⟩)
      · have h4 := h3.eq (B := star (Rg kI bm r es left2 (some (k, v))) (star (pt c1 (.cells #[.map (some bm)] 58 (0, 0))) (I (pre ++ [k])))) (by ac_rfl)
        gi_wp2_with fail
        exact ⟨⟨left2, _, _, HE.out, h4⟩, by rw [leftN_eq h4]; exact HL2.out⟩
      · gi_wp2_with fail
        refine bodyPost_ret (results_none rfl _ _ _) rfl ?_
        exact ⟨⟨_, rfl⟩, .inr ⟨c, h3.right⟩⟩
/-- A range over the keys of a map. -/
theorem range_keys {W w : World} {m : Nat} {g : Operand} {params : Array Tmp} {assign body : Code} {Q : Exit → Act → World → Prop} {a : Act} (f : Int → Array Value → Array Value) (c1 bm : Nat) (es : List (Int × Value)) (Φ : List Int → Asn)
    (hg : a.eval g = .func (.func 60) #[] #[.pointer (some ⟨c1, 0, none⟩)]) (hps : params.size = 1) (h : St W w (star (pt c1 (.cells #[.map (some bm)] 58 (0, 0))) (star (Mp kI bm es) (Φ []))))
    (hassign : ∀ (x : Int) l0 w (K : Act → World → Prop), K { tmps := f x a.tmps, defers := [] } w → assign.wpIn (Fence.wide.inRound l0) m Tryz.prog (Exit.then K (fun _ _ _ => False)) { tmps := (params.zip #[.int .i64 x]).foldl (fun tmps (t, a) => tmps.setIfInBounds t a) a.tmps, defers := [] } w)
    (hround : ∀ pre x, pre.length < es.length + 1 → ∀ l0 busy C w2, St W w2 (star (pt l0 (.loop busy)) (star C (Φ pre))) → body.wpIn (Fence.wide.inRound l0) m Tryz.prog (RPost W l0 busy (star C (Φ (pre ++ [x]))) (fun _ => star C No)) { tmps := f x a.tmps, defers := [] } w2)
    (hdone : ∀ L D w4, Half es [] L → St W w4 (star (pt D (.deferred (some []))) (star (pt c1 (.cells #[.map (some bm)] 58 (0, 0))) (star (Mp kI bm es) (Φ L)))) → Q .normal { a with defers := { target := .collected D, args := #[] } :: a.defers } w4) :
    (Code.rangeFunc g params assign body).wpIn Fence.wide (m + 2) Tryz.prog Q a w := by
  refine range_St (Φ := ex fun L : {L : List Int // Half es [] L} => star (pt c1 (.cells #[.map (some bm)] 58 (0, 0))) (star (Mp kI bm es) (Φ L.1))) (Ψ := fun _ => No) rfl (by omega) hg trivial (enters_of Tryz.func60 (by kernel_rfl) rfl) h ?_ ?_ ?_
  · intro fn l0 D w1 hfn hS
    refine (Keys1_any c1 bm l0 m es (fun pre => star (pt l0 (.loop (rec fn a.tmps params assign body D .ready none))) (star (pt D (.deferred (some []))) (Φ pre)))
      (fun c => star (pt l0 (.loop (rec fn a.tmps params assign body D .done (some c)))) (star (pt D (.deferred (some []))) No)) ?_ (hS.eq (by ac_rfl))).mono ?_
    · intro pre x C w2 hlt h2
      have h3 : St W w2 (star (pt l0 (.loop (rec fn a.tmps params assign body D .ready none))) (star (star (pt D (.deferred (some []))) C) (Φ pre))) := h2.eq (by ac_rfl)
      refine YieldAt.mono (yield_St (a₁ := { tmps := f x a.tmps, defers := [] }) (Φ := star (star (pt D (.deferred (some []))) C) (Φ (pre ++ [x]))) (Ψ := fun _ => star (star (pt D (.deferred (some []))) C) No) hfn (by rw [hps]; rfl) h3 (fun K hK => hassign x l0 w2 K hK) (fun w3 hw3 => hround pre x hlt l0 _ _ w3 hw3)) ?_
      rintro e w4 (⟨rfl, h4⟩ | ⟨rfl, c, h4⟩)
      · exact .inl ⟨rfl, h4.eq (by ac_rfl)⟩
      · exact .inr ⟨rfl, c, h4.eq (by ac_rfl)⟩
    · rintro e w3 ⟨hv, ⟨L, hL, h3⟩ | ⟨c, h3⟩⟩
      · refine ⟨hv, .inl ?_⟩
        have h4 : St W w3 (star (ex fun L : {L : List Int // Half es [] L} => star (pt c1 (.cells #[.map (some bm)] 58 (0, 0))) (star (Mp kI bm es) (Φ L.1))) (star (pt l0 (.loop (rec fn a.tmps params assign body D .ready none))) (pt D (.deferred (some []))))) :=
          St.ex_iff.2 ⟨⟨L, hL⟩, h3.eq (by show _ = star (star (pt c1 (.cells #[.map (some bm)] 58 (0, 0))) (star (Mp kI bm es) (Φ L))) _; ac_rfl)⟩
        exact h4.eq (by ac_rfl)
      · exact ⟨hv, .inr ⟨c, h3⟩⟩
  · intro D w4 h4
    obtain ⟨⟨L, hL⟩, h5⟩ := St.ex_iff.1 (h4.eq (star_comm _ _))
    exact hdone L D w4 hL (h5.eq (star_comm _ _))
  · rintro D c w4 h4
    exact (St.no h4).elim
end Go.Proofs.YtdobgebdlbckoaaGreatDoor.BkR
