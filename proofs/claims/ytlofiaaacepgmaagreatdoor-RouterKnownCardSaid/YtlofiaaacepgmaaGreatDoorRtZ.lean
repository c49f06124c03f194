/-
  RtQ, RtV, RtW, RtX, RtG in one text.
-/
import Derived.Test.YtlofiaaacepgmaaGreatDoorRtP
import Derived.Test.YtlofiaaacepgmaaGreatDoorRtY
import Derived.Test.YtlofiaaacepgmaaGreatDoorPathSp
import Derived.Test.YtlofiaaacepgmaaGreatDoorTrDm
import Derived.BigQuiet
import Derived.Lib.SmallJoins
namespace Go.Proofs.YtlofiaaacepgmaaGreatDoor.RtQ
open Go Go.Proofs.YtlofiaaacepgmaaGreatDoor.PathP Go.Proofs.YtlofiaaacepgmaaGreatDoor.Mp Go.Proofs.YtlofiaaacepgmaaGreatDoor.TrP Go.Proofs.YtlofiaaacepgmaaGreatDoor.TrU Go.Proofs.YtlofiaaacepgmaaGreatDoor.WdP Go.Proofs.YtlofiaaacepgmaaGreatDoor.RtP
def insT (x : Tx) : List Tx → List Tx
  | [] => [x]
  | y :: l => if x ≤ y then x :: y :: l else y :: insT x l
def isort : List Tx → List Tx
  | [] => []
  | x :: l => insT x (isort l)
theorem insT_perm (x : Tx) : ∀ l : List Tx, (insT x l).Perm (x :: l)
  | [] => List.Perm.refl _
  | y :: l => by
    unfold insT
    split
    · exact List.Perm.refl _
    · exact ((insT_perm x l).cons y).trans (List.Perm.swap x y l)
theorem isort_perm : ∀ l : List Tx, (isort l).Perm l
  | [] => List.Perm.refl _
  | x :: l => (insT_perm x _).trans ((isort_perm l).cons x)
theorem insT_sorted (x : Tx) : ∀ {l : List Tx}, l.Pairwise (· ≤ ·) → (insT x l).Pairwise (· ≤ ·)
  | [], _ => List.pairwise_singleton _ _
  | y :: l, h => by
    have h2 := List.pairwise_cons.1 h
    unfold insT
    split
    · rename_i hxy
      refine List.pairwise_cons.2 ⟨fun z hz => ?_, h⟩
      rcases List.mem_cons.1 hz with rfl | hz
      · exact hxy
      · exact List.le_trans hxy (h2.1 z hz)
    · rename_i hxy
      refine List.pairwise_cons.2 ⟨fun z hz => ?_, insT_sorted x h2.2⟩
      rcases List.mem_cons.1 ((insT_perm x l).mem_iff.1 hz) with rfl | hz
      · exact (List.le_total z y).resolve_left hxy
      · exact h2.1 z hz
theorem isort_sorted : ∀ l : List Tx, (isort l).Pairwise (· ≤ ·)
  | [] => List.Pairwise.nil
  | x :: l => insT_sorted x (isort_sorted l)
theorem sortS_sorted (l : List Tx) : (sortS l).Pairwise (· ≤ ·) := by
  have tr : ∀ a b c : Tx, decide (a ≤ b) = true → decide (b ≤ c) = true → decide (a ≤ c) = true := by
    intro a b c h1 h2; simp only [decide_eq_true_eq] at *; exact List.le_trans h1 h2
  have tot : ∀ a b : Tx, (decide (a ≤ b) || decide (b ≤ a)) = true := by
    intro a b; simp only [Bool.or_eq_true, decide_eq_true_eq]; exact List.le_total a b
  exact (List.pairwise_mergeSort tr tot l).imp fun h => of_decide_eq_true h
theorem sortS_isort (l : List Tx) : sortS l = isort l :=
  List.Perm.eq_of_pairwise (le := fun a b => a ≤ b) (fun _ _ _ _ h1 h2 => List.le_antisymm h1 h2) (sortS_sorted l) (isort_sorted l) ((List.mergeSort_perm l _).trans (isort_perm l).symm)
def allowI (ms : Ms) : Tx := joinC (isort (headed (ms.map (·.1))))
theorem allowI_eq (ms : Ms) : allowM ms = allowI ms := by unfold allowM allowI; rw [sortS_isort]
def serveI (es : RE) (q : Rq) : Rep × Int :=
  match segs q.path with
  | none => ((400, [], tBad), 0)
  | some _ => match findT es (pathOf q.path) with
    | none => ((404, [], tNot), 0)
    | some (_, ms, ps) => match ofM ms q.m with
      | none => ((405, [(tAllow, allowI ms)], tNoM), 0)
      | some r => (answers r q.body ps, r.k)
theorem serveI_eq (es : RE) (q : Rq) : serveR es q = serveI es q := by
  have e : allowM = allowI := funext allowI_eq
  unfold serveR serveI
  rw [e]
  rfl
/-- The chapter's routes. -/
def chap : List Rt := [⟨[71, 69, 84], [47], 1, [104, 111, 109, 101]⟩, ⟨[71, 69, 84], [47, 97, 47, 58, 120], 3, []⟩, ⟨[80, 79, 83, 84], [47, 97, 47, 58, 120], 2, []⟩, ⟨[71, 69, 84], [47, 119, 115], 4, []⟩, ⟨[71, 69, 84], [47, 97, 47, 98], 1, [98]⟩]
def ces : RE := (newR [] chap).2
theorem chap_ok : (newR [] chap).1 = 0 := by decide +kernel
theorem chap_ri : RI ces chap := new_ri (by decide) chap_ok
theorem chap_a : serveR ces ⟨[71, 69, 84], [47, 97, 47, 122], []⟩ = ((200, [], [120, 61, 122, 10]), 3) := by rw [serveI_eq]; decide +kernel
theorem chap_b : serveR ces ⟨[80, 79, 83, 84], [47, 97, 47, 98], []⟩ = ((405, [(tAllow, [71, 69, 84, 44, 32, 72, 69, 65, 68])], tNoM), 0) := by rw [serveI_eq]; decide +kernel
theorem chap_len : ∀ r ∈ chap, r.m.length ≤ 1000 ∧ r.p.length ≤ 1000 := by decide
end Go.Proofs.YtlofiaaacepgmaaGreatDoor.RtQ
namespace Go.Proofs.YtlofiaaacepgmaaGreatDoor.RtV
open Go Go.RowKit Go.Proofs Go.Proofs.YtlofiaaacepgmaaGreatDoor.Sep Go.Proofs.YtlofiaaacepgmaaGreatDoor.Reg Go.Proofs.YtlofiaaacepgmaaGreatDoor.Frame Go.Proofs.YtlofiaaacepgmaaGreatDoor.Strs Go.Proofs.YtlofiaaacepgmaaGreatDoor.Held Go.Proofs.YtlofiaaacepgmaaGreatDoor.PathP Go.Proofs.YtlofiaaacepgmaaGreatDoor.PathQ Go.Proofs.YtlofiaaacepgmaaGreatDoor.Mp Go.Proofs.YtlofiaaacepgmaaGreatDoor.TrP Go.Proofs.YtlofiaaacepgmaaGreatDoor.TrQ Go.Proofs.YtlofiaaacepgmaaGreatDoor.RtP Go.Proofs.YtlofiaaacepgmaaGreatDoor.RtA Go.Proofs.YtlofiaaacepgmaaGreatDoor.RtM Go.Proofs.YtlofiaaacepgmaaGreatDoor.RtB Go.Proofs.YtlofiaaacepgmaaGreatDoor.RtC Go.Proofs.YtlofiaaacepgmaaGreatDoor.RtD Go.Proofs.YtlofiaaacepgmaaGreatDoor.RtE Go.Proofs.YtlofiaaacepgmaaGreatDoor.RtT

/-! ### Bounds -/
theorem findT_some {α : Type} {E : Ents α} {path : List Tx} {p : Tx} {x : α} {ps : List (Tx × Tx)} (h : findT E path = some (p, x, ps)) : ∃ k, getM k E = some (p, x) ∧ ps = params ((splitP p).getD []) path := by
  unfold findT at h
  cases hb : bestE E [] path with
  | none => rw [hb] at h; cases h
  | some k =>
    rw [hb] at h
    simp only at h
    cases hg : getM k E with
    | none => rw [hg] at h; cases h
    | some v =>
      rw [hg] at h
      simp only [Option.some.injEq, Prod.mk.injEq] at h
      obtain ⟨h1, h2, h3⟩ := h
      subst h1 h2
      exact ⟨k, hg, h3.symm⟩
theorem params_bd {A B : Nat} : ∀ (l path : List Tx), (∀ s ∈ l, s.length ≤ A) → (∀ x ∈ path, x.length ≤ B) → ∀ x ∈ params l path, x.1.length ≤ A ∧ x.2.length ≤ (path.length + 1) * (B + 1)
  | [], path, _, _, x, hx => by simp [params] at hx
  | s :: l, path, hl, hp, x, hx => by
    have hm : 1 ≤ path.length + 1 := by omega
    have hB : B + 1 ≤ (path.length + 1) * (B + 1) := Nat.le_mul_of_pos_left _ (by omega)
    have hj := joinS_le path B hp
    have hj2 : path.length * (B + 1) ≤ (path.length + 1) * (B + 1) := Nat.mul_le_mul_right _ (by omega)
    rw [params] at hx
    rcases List.mem_append.1 hx with h | h
    · have hs := hl s (by simp)
      split at h
      · simp at h; subst h
        refine ⟨by simp; omega, ?_⟩
        cases path with
        | nil => simp
        | cons y r => have := hp y (by simp); simp only [List.head?_cons, Option.getD_some]; omega
      · split at h
        · simp at h; subst h
          exact ⟨by simp; omega, by show (joinS path).length ≤ _; omega⟩
        · cases h
    · have := params_bd l path.tail (fun s hs => hl s (by simp [hs])) (fun x hx => hp x (List.mem_of_mem_tail hx)) x h
      refine ⟨this.1, Nat.le_trans this.2 (Nat.mul_le_mul_right _ (by simp))⟩
theorem parts_bd : ∀ (s : Tx), (parts s).length ≤ s.length + 1 ∧ ∀ x ∈ parts s, x.length ≤ s.length
  | [] => by simp [parts]
  | c :: r => by
    obtain ⟨h1, h2⟩ := parts_bd r
    unfold parts
    split
    · refine ⟨by simp; omega, fun x hx => ?_⟩
      rcases List.mem_cons.1 hx with rfl | hx
      · simp
      · have := h2 x hx; simp; omega
    · split
      · rename_i x xs e
        rw [e] at h1 h2
        refine ⟨by simp at h1 ⊢; omega, fun y hy => ?_⟩
        rcases List.mem_cons.1 hy with rfl | hy
        · have := h2 x (by simp); simp; omega
        · have := h2 y (by simp [hy]); simp; omega
      · refine ⟨by simp, fun y hy => ?_⟩
        simp at hy; subst hy; simp
theorem split_bd {p : Tx} {l : List Tx} (h : splitP p = some l) : l.length ≤ p.length ∧ ∀ s ∈ l, s.length ≤ p.length := by
  refine ⟨splitP_len h, ?_⟩
  rcases splitP_some h with ⟨-, rfl⟩ | ⟨-, -, rfl, -⟩
  · simp
  · intro s hs
    have := (parts_bd (p.drop 1)).2 s hs
    simp at this; omega
theorem segs_bd {s : Tx} {l : List Tx} (h : segs s = some l) : l.length ≤ s.length + 1 ∧ ∀ x ∈ l, x.length ≤ s.length := by
  unfold segs at h
  split at h
  · split at h
    · cases h
      obtain ⟨h1, h2⟩ := parts_bd (s.drop 1)
      simp only [List.length_drop] at h1 h2
      refine ⟨by rw [List.length_map]; omega, fun x hx => ?_⟩
      obtain ⟨y, hy, rfl⟩ := List.mem_map.1 hx
      have := unpct_len _ y (Nat.le_refl _)
      have := h2 y hy
      omega
    · cases h
  · cases h
theorem answers_nil {r : Rt} {b : Tx} {ps : List (Tx × Tx)} {x : Int × List (Tx × Tx) × Tx} (h : answers r b ps = x) : x.2.1 = [] := by
  subst h
  unfold answers
  split
  · rfl
  · split
    · rfl
    · split <;> rfl
theorem fpost_none {W : World} {tp : Nat} {max : Int} {es : TrM.EntsV} {path : List Tx} {R : Asn} (h : findT es path = none) : TrDm.FPost W tp max es path R = fun e w' => e = .returned (.tuple #[(Value.map none), .slice none 0 0, .string ⟨#[]⟩, .bool false]) ∧ St W w' (star (TrCm.IsT tp max es) R) := by
  funext e w'; unfold TrDm.FPost; rw [h]
theorem fpost_some {W : World} {tp : Nat} {max : Int} {es : TrM.EntsV} {path : List Tx} {R : Asn} {p : Tx} {x : Value} {ps : List (Tx × Tx)} (h : findT es path = some (p, x, ps)) : TrDm.FPost W tp max es path R = fun e w' => ∃ a c, e = .returned (.tuple #[x, .slice a ps.length c, .string ⟨p.toArray⟩, .bool true]) ∧ St W w' (star (Row 43 2 (.slice a ps.length c) ps.length (fldV ps)) (star (TrCm.IsT tp max es) R)) := by
  funext e w'; unfold TrDm.FPost; rw [h]
/-- What Serve leaves. -/
def SvPst (W : World) (rp : Nat) (l : List Rt) (es : RE) (x : Rep × Int) (R : Asn) (e : Ending) (w' : World) : Prop :=
  ∃ a c, e = .returned (.tuple #[.agg #[.int .i64 x.1.1, .slice a x.1.2.1.length c, kS x.1.2.2], .int .i64 x.2]) ∧ St W w' (star (Row 43 2 (.slice a x.1.2.1.length c) x.1.2.1.length (fldV x.1.2.1)) (star (IsRt rp l es) R))
theorem SvPst.mk0 {W w' : World} {rp : Nat} {l : List Rt} {es : RE} {x : Rep × Int} {R : Asn} {e : Ending} {n k : Int} {t : Tx} (h : x = ((n, [], t), k)) (he : e = .returned (.tuple #[.agg #[.int .i64 n, .slice none 0 0, kS t], .int .i64 k])) (hS : St W w' (star (IsRt rp l es) R)) : SvPst W rp l es x R e w' := by
  subst h; exact ⟨none, 0, he, hS.nilRow⟩
theorem SvPst.mk1 {W w' : World} {rp : Nat} {l : List Rt} {es : RE} {x : Rep × Int} {R : Asn} {e : Ending} {n k : Int} {t : Tx} {f : Tx × Tx} {a : Option Addr} {c : Nat} (h : x = ((n, [f], t), k)) (he : e = .returned (.tuple #[.agg #[.int .i64 n, .slice a 1 c, kS t], .int .i64 k])) (hS : St W w' (star (Row 43 2 (.slice a 1 c) 1 (fldV [f])) (star (IsRt rp l es) R))) : SvPst W rp l es x R e w' := by
  subst h; exact ⟨a, c, he, hS⟩
def CA14 (rb xb : Nat) (rm rq : Tx) (rk : Int) (rt qm qp qq : Tx) (qv : Int) (fa : Option Addr) (fn fc : Nat) (qb : Tx) (qc : Bool) (w : World) : Prop :=
  w.cell? ⟨rb, 0, none⟩ = some (kS rm) ∧ w.cell? ⟨rb, 1, none⟩ = some (kS rq) ∧ w.cell? ⟨rb, 2, none⟩ = some (.int .i64 rk) ∧ w.cell? ⟨rb, 3, none⟩ = some (kS rt) ∧
  w.cell? ⟨xb, 0, none⟩ = some (kS qm) ∧ w.cell? ⟨xb, 1, none⟩ = some (kS qp) ∧ w.cell? ⟨xb, 2, none⟩ = some (kS qq) ∧ w.cell? ⟨xb, 3, none⟩ = some (.int .i64 qv) ∧ w.cell? ⟨xb, 4, none⟩ = some (.slice fa fn fc) ∧ w.cell? ⟨xb, 5, none⟩ = some (kS qb) ∧ w.cell? ⟨xb, 6, none⟩ = some (.bool qc)
def tr14 : Tr := .held 0 (.held 1 (.plain 2 (.plain 4 (.held 5 (.one 3 (.one 6 (.plain 7 (.done))))))))
attribute [local go_sem] Oper.semAt_some
set_option maxRecDepth 100000 in
set_option maxHeartbeats 32000000 in
theorem Serve_any {W w : World} {R : Asn} (rp : Nat) (l : List Rt) (es : RE) (h : St W w (star (IsRt rp l es) R)) (hRI : RI es l) (hll : l.length ≤ 100) (hlen : ∀ r ∈ l, r.m.length ≤ 1000 ∧ r.p.length ≤ 1000) (hMx : TrS.MaxLen W) (hMp : PathT.MaxLen W)
    (qm qp qq : Tx) (qv : Int) (fa : Option Addr) (fn fc : Nat) (qb : Tx) (qc : Bool) (hqp : qp.length ≤ 300) :
    Calls Tryz.prog 9 #[.pointer (some ⟨rp, 0, none⟩), (.agg #[kS qm, kS qp, kS qq, .int .i64 qv, .slice fa fn fc, kS qb, .bool qc])] w (SvPst W rp l es (serveR es ⟨qm, qp, qb⟩) R) := by
  obtain ⟨tp, lv, E, hpe, h0⟩ := St.isRt h
  have HPE := Lib.hid hpe
  obtain ⟨x, hx⟩ : ∃ x, serveR es ⟨qm, qp, qb⟩ = x := ⟨_, rfl⟩
  rw [hx]
  have HX := Lib.hid hx
  have hnd := isT_nodup (h0.eq (B := star (TrCm.IsT tp 32 (mapE vB E)) (star (pt rp (.cells #[lv, .pointer (some ⟨tp, 0, none⟩)] 54 (0, 0))) (star (Row 40 4 lv l.length (rsV l)) (star (MB E) R)))) (by ac_rfl))
  rw [mapE_keys] at hnd
  have HND := Lib.hid hnd
  have HM := Lib.hid hMx
  have hget : ∀ k p b ms, getM k E = some (p, b, ms) → getM k es = some (p, ms) := fun k p b ms hk => by rw [← hpe]; unfold pE; rw [mapE_get, hk]; rfl
  have HPT : Hid (∀ e ∈ mapE vB E, e.2.1.length ≤ 1000000) := Lib.hid fun e he => by
    unfold mapE at he
    obtain ⟨e0, h0, rfl⟩ := List.mem_map.1 he
    have hk := getM_of_mem hnd (show (e0.1, e0.2) ∈ E from h0)
    obtain ⟨-, -, r, hr, hrp⟩ := hRI.get (hget e0.1 e0.2.1 e0.2.2.1 e0.2.2.2 hk)
    have := (hlen r hr).2
    simp only at hrp ⊢
    rw [← hrp]; omega
  have HMS : Hid (∀ k p b ms, getM k E = some (p, b, ms) → ms ≠ [] ∧ ms.length ≤ 1000 ∧ ∀ e ∈ ms, e.1.length ≤ 1000) := Lib.hid fun k p b ms hk => by
    have hk2 := hget k p b ms hk
    have h1 := hRI.ms _ (getM_mem hk2)
    obtain ⟨-, h2, -⟩ := hRI.get hk2
    simp only at h1 h2
    refine ⟨h1.2, ?_, fun e he => ?_⟩
    · rw [h2]; unfold rts; rw [List.length_map]; have := List.length_filter_le (fun r => decide (r.p = p)) l; omega
    · obtain ⟨m, r⟩ := e
      rw [h2] at he
      obtain ⟨h3, -, rfl⟩ := mem_rts.1 he
      exact (hlen r h3).1
  have hpth : (pathOf qp).length ≤ 301 ∧ ∀ x ∈ pathOf qp, x.length ≤ 300 := by
    unfold pathOf
    split
    · simp
    · cases hs : segs qp with
      | none => simp
      | some l2 => have := segs_bd hs; simp only [Option.getD_some]; exact ⟨by omega, fun x hx => Nat.le_trans (this.2 x hx) hqp⟩
  have HPB := Lib.hid hpth.2
  have HPP : Hid (∀ k p b ms, getM k E = some (p, b, ms) → (params ((splitP p).getD []) (pathOf qp)).length ≤ 1000 ∧ ∀ x ∈ params ((splitP p).getD []) (pathOf qp), x.1.length ≤ 1000 ∧ x.2.length ≤ 100000) := Lib.hid fun k p b ms hk => by
    obtain ⟨-, -, r, hr, hrp⟩ := hRI.get (hget k p b ms hk)
    have hpl := (hlen r hr).2
    simp only at hrp
    rw [hrp] at hpl
    obtain ⟨ks, hks⟩ := right_split (hRI.rt r hr)
    rw [hrp] at hks
    have hsb := split_bd hks
    rw [hks, Option.getD_some]
    refine ⟨Nat.le_trans (params_le _ _) (by omega), fun x hx => ?_⟩
    have := params_bd (A := 1000) (B := 300) ks (pathOf qp) (fun s hs => Nat.le_trans (hsb.2 s hs) hpl) hpth.2 x hx
    refine ⟨this.1, Nat.le_trans this.2 ?_⟩
    have : (pathOf qp).length + 1 ≤ 302 := by omega
    exact Nat.le_trans (Nat.mul_le_mul_right _ this) (by decide)
  have HSp := Lib.hid fun w hm => PathSp.pSplit_any qp w (by omega) hm
  have h1 := (h0.alloc (.cells #[kS qm, kS qp, kS qq, .int .i64 qv, .slice fa fn fc, kS qb, .bool qc] 24 (0, 0))).alloc (.cells #[.int .i64 0, .slice none 0 0, .string ⟨#[]⟩] 29 (0, 0))
  rw [World.size_alloc] at h1
  obtain ⟨xb, hxb⟩ : ∃ z, w.heap.size = z := ⟨_, rfl⟩
  obtain ⟨yb, hyb⟩ : ∃ z, xb + 1 = z := ⟨_, rfl⟩
  rw [hxb, hyb] at h1
  have c4 := h1.right.right.cell 1 (v := .pointer (some ⟨tp, 0, none⟩)) rfl
  have HM1 := Lib.hid (hMp.st h1)
  have hpln := hpth.1
  clear h h0 hx hnd hget hpe hMx hMp hRI hlen hpth
  cases hsg : segs qp with
  | none =>
    have HE : Hid (x = ((400, [], tBad), 0)) := Lib.hid (by rw [← HX.out]; unfold serveR; simp only [hsg])
    have hqb : (qp == [47]) = false := by
      rw [beq_eq_false_iff_ne]; rintro rfl; revert hsg; decide
    rw [hsg] at HSp
    clear hsg
    go_enter Tryz.func9, Tryz.ntmps9
    go_upto_region 3 with fail
    clear hxb hyb c4
    generalize (w.alloc (.cells #[kS qm, kS qp, kS qq, .int .i64 qv, .slice fa fn fc, kS qb, .bool qc] 24 (0, 0))).alloc (.cells #[.int .i64 0, .slice none 0 0, .string ⟨#[]⟩] 29 (0, 0)) = w1 at *
    have c1 := h1.right.cell 1 (v := kS qp) rfl
    go_wp2_with fail
    refine (HSp.out _ HM1.out).mono ?_
    rintro e w3 ⟨rfl, hb3⟩
    have h3 := h1.past hb3
    have c3 := h3.right.cell 1 (v := kS qp) rfl
    have h4 := h3.eq (B := star (pt xb (.cells #[kS qm, kS qp, kS qq, .int .i64 qv, .slice fa fn fc, kS qb, .bool qc] 24 (0, 0))) (star (pt yb (.cells #[.int .i64 0, .slice none 0 0, .string ⟨#[]⟩] 29 (0, 0))) (star (pt rp (.cells #[lv, .pointer (some ⟨tp, 0, none⟩)] 54 (0, 0))) (star (Row 40 4 lv l.length (rsV l)) (star (TrCm.IsT tp 32 (mapE vB E)) (star (MB E) R)))))) (by ac_rfl)
    clear h1 h3 hb3 c1
    have hy := h4.eq (B := star (pt yb (.cells #[.int .i64 0, .slice none 0 0, .string ⟨#[]⟩] 29 (0, 0))) (star (pt xb (.cells #[kS qm, kS qp, kS qq, .int .i64 qv, .slice fa fn fc, kS qb, .bool qc] 24 (0, 0))) (star (pt rp (.cells #[lv, .pointer (some ⟨tp, 0, none⟩)] 54 (0, 0))) (star (Row 40 4 lv l.length (rsV l)) (star (TrCm.IsT tp 32 (mapE vB E)) (star (MB E) R)))))) (by ac_rfl)
    clear h4
    have k0 := hy.cell 0 (v := .int .i64 0) rfl
    have k1 := hy.cell 1 (v := .slice none 0 0) rfl
    have k2 := hy.cell 2 (v := .string ⟨#[]⟩) rfl
    have g0 := hy.free 0
    have g1 := hy.free 1
    have g2 := hy.free 2
    have hfA := hy.setCell 0 (.int .i64 400)
    have hfB := hfA.setCell 1 (.slice none 0 0)
    have hf := hfB.setCell 2 (.string ⟨#[98, 97, 100, 32, 112, 97, 116, 104]⟩)
    clear hy
    go_wp2
    have j2 := hf.cell 2 (v := .string ⟨#[98, 97, 100, 32, 112, 97, 116, 104]⟩) rfl
    have i0 := hfA.cell 0 (v := .int .i64 400) rfl
    have i1 := hfB.cell 1 (v := .slice none 0 0) rfl
    exact bodyPost_ret (v := .tuple #[.agg #[.int .i64 400, .slice none 0 0, .string ⟨#[98, 97, 100, 32, 112, 97, 116, 104]⟩], .int .i64 0]) (by simp [results, Tryz.results9, go_sem, j2, i0, i1]) rfl (SvPst.mk0 HE.out rfl (St.toRt rfl HPE.out (hf.right.right)))
  | some sl =>
    have HX2 : Hid ((match findT E (pathOf qp) with
      | none => ((404, [], tNot), 0)
      | some (_, (_, ms), ps) => match ofM ms qm with
        | none => ((405, [(tAllow, allowM ms)], tNoM), 0)
        | some r => (answers r qb ps, r.k)) = x) := Lib.hid (by
      rw [← HX.out, ← HPE.out]; unfold serveR; simp only [hsg]
      unfold pE
      rw [mapE_findT]
      cases findT E (pathOf qp) with
      | none => rfl
      | some v => rfl)
    rw [hsg] at HSp
    have HSG := Lib.hid hsg
    clear hsg
    by_cases hq : qp = [47]
    · have HPO : Hid (pathOf qp = []) := Lib.hid (by unfold pathOf; rw [if_pos hq])
      have hqb : (qp == [47]) = true := by simpa using hq
      rw [HPO.out] at HX2 HPB HPP hpln
      clear hq
      go_enter Tryz.func9, Tryz.ntmps9
      go_upto_region 3 with fail
      clear hxb hyb c4
      generalize (w.alloc (.cells #[kS qm, kS qp, kS qq, .int .i64 qv, .slice fa fn fc, kS qb, .bool qc] 24 (0, 0))).alloc (.cells #[.int .i64 0, .slice none 0 0, .string ⟨#[]⟩] 29 (0, 0)) = w1 at *
      have c1 := h1.right.cell 1 (v := kS qp) rfl
      go_wp2_with fail
      refine (HSp.out _ HM1.out).mono ?_
      rintro e w3 ⟨sa, sc, rfl, hs3⟩
      have h3 := (St.comp h1 hs3).right
      have h5 := h3.eq (B := star (pt xb (.cells #[kS qm, kS qp, kS qq, .int .i64 qv, .slice fa fn fc, kS qb, .bool qc] 24 (0, 0))) (star (pt yb (.cells #[.int .i64 0, .slice none 0 0, .string ⟨#[]⟩] 29 (0, 0))) (star (pt rp (.cells #[lv, .pointer (some ⟨tp, 0, none⟩)] 54 (0, 0))) (star (Row 40 4 lv l.length (rsV l)) (star (TrCm.IsT tp 32 (mapE vB E)) (star (MB E) R)))))) (by ac_rfl)
      have c3 := h5.cell 1 (v := kS qp) rfl
      clear h1 h3 hs3 c1
      have d4 := (h5.right.right).cell 1 (v := .pointer (some ⟨tp, 0, none⟩)) rfl
      have HFi := Lib.hid (TrDm.Find_any tp 32 (mapE vB E) (h5.eq (B := star (TrCm.IsT tp 32 (mapE vB E)) (star (pt xb (.cells #[kS qm, kS qp, kS qq, .int .i64 qv, .slice fa fn fc, kS qb, .bool qc] 24 (0, 0))) (star (pt yb (.cells #[.int .i64 0, .slice none 0 0, .string ⟨#[]⟩] 29 (0, 0))) (star (pt rp (.cells #[lv, .pointer (some ⟨tp, 0, none⟩)] 54 (0, 0))) (star (Row 40 4 lv l.length (rsV l)) (star (MB E) R)))))) (by ac_rfl)) HPT.out HM.out none 0 0 ([]) (Sl.nil _ _) rfl (by omega) (fun x hx => Nat.le_trans (HPB.out x hx) (by omega)))
      cases hfi : findT E ([]) with
      | none =>
        have HE : Hid (x = ((404, [], tNot), 0)) := Lib.hid (by rw [← HX2.out]; simp only [hfi])
        have hf2 : findT (mapE vB E) ([]) = none := by rw [mapE_findT, hfi]; rfl
        rw [fpost_none hf2] at HFi
        clear hfi hf2
        go_wp2_with fail
        refine HFi.out.mono ?_
        rintro e w6 ⟨rfl, h6⟩
        clear HFi h5 d4
        have h6 := h6.eq (B := star (pt xb (.cells #[kS qm, kS qp, kS qq, .int .i64 qv, .slice fa fn fc, kS qb, .bool qc] 24 (0, 0))) (star (pt yb (.cells #[.int .i64 0, .slice none 0 0, .string ⟨#[]⟩] 29 (0, 0))) (star (pt rp (.cells #[lv, .pointer (some ⟨tp, 0, none⟩)] 54 (0, 0))) (star (Row 40 4 lv l.length (rsV l)) (star (TrCm.IsT tp 32 (mapE vB E)) (star (MB E) R)))))) (by ac_rfl)
        have hy := h6.eq (B := star (pt yb (.cells #[.int .i64 0, .slice none 0 0, .string ⟨#[]⟩] 29 (0, 0))) (star (pt xb (.cells #[kS qm, kS qp, kS qq, .int .i64 qv, .slice fa fn fc, kS qb, .bool qc] 24 (0, 0))) (star (pt rp (.cells #[lv, .pointer (some ⟨tp, 0, none⟩)] 54 (0, 0))) (star (Row 40 4 lv l.length (rsV l)) (star (TrCm.IsT tp 32 (mapE vB E)) (star (MB E) R)))))) (by ac_rfl)
        clear h6
        have k0 := hy.cell 0 (v := .int .i64 0) rfl
        have k1 := hy.cell 1 (v := .slice none 0 0) rfl
        have k2 := hy.cell 2 (v := .string ⟨#[]⟩) rfl
        have g0 := hy.free 0
        have g1 := hy.free 1
        have g2 := hy.free 2
        have hfA := hy.setCell 0 (.int .i64 404)
        have hfB := hfA.setCell 1 (.slice none 0 0)
        have hf := hfB.setCell 2 (.string ⟨#[110, 111, 116, 32, 102, 111, 117, 110, 100]⟩)
        clear hy
        go_wp2
        have j2 := hf.cell 2 (v := .string ⟨#[110, 111, 116, 32, 102, 111, 117, 110, 100]⟩) rfl
        have i0 := hfA.cell 0 (v := .int .i64 404) rfl
        have i1 := hfB.cell 1 (v := .slice none 0 0) rfl
        exact bodyPost_ret (v := .tuple #[.agg #[.int .i64 404, .slice none 0 0, .string ⟨#[110, 111, 116, 32, 102, 111, 117, 110, 100]⟩], .int .i64 0]) (by simp [results, Tryz.results9, go_sem, j2, i0, i1]) rfl (SvPst.mk0 HE.out rfl (St.toRt rfl HPE.out (hf.right.right)))
      | some v =>
        obtain ⟨fp, ⟨b, ms⟩, ps⟩ := v
        have hf2 : findT (mapE vB E) ([]) = some (fp, .map (some b), ps) := by rw [mapE_findT, hfi]; rfl
        obtain ⟨key, hkey, hps⟩ := findT_some hfi
        have HKey := Lib.hid hkey
        have HMT := Lib.hid (MB_take HND.out hkey)
        dsimp only at HMT
        have HMF := Lib.hid (HMS.out key fp b ms hkey)
        have HPS : Hid (ps.length ≤ 1000 ∧ ∀ x ∈ ps, x.1.length ≤ 1000 ∧ x.2.length ≤ 100000) := Lib.hid (by rw [hps]; exact HPP.out key fp b ms hkey)
        have HX3 : Hid (x = match ofM ms qm with | none => ((405, [(tAllow, allowM ms)], tNoM), 0) | some r => (answers r qb ps, r.k)) := Lib.hid (by rw [← HX2.out]; simp only [hfi])
        rw [fpost_some hf2] at HFi
        obtain ⟨pn, hpn⟩ : ∃ n, ps.length = n := ⟨_, rfl⟩
        rw [hpn] at HFi
        have HPN := Lib.hid hpn
        clear hfi hf2 hkey hps hpn
        go_wp2_with fail
        refine HFi.out.mono ?_
        rintro e w6 ⟨fa2, fc2, rfl, h6⟩
        clear HFi h5 d4
        have h6 := h6.eq (B := star (Mp TrM.kS b (msV ms)) (star (pt xb (.cells #[kS qm, kS qp, kS qq, .int .i64 qv, .slice fa fn fc, kS qb, .bool qc] 24 (0, 0))) (star (pt yb (.cells #[.int .i64 0, .slice none 0 0, .string ⟨#[]⟩] 29 (0, 0))) (star (pt rp (.cells #[lv, .pointer (some ⟨tp, 0, none⟩)] 54 (0, 0))) (star (Row 40 4 lv l.length (rsV l)) (star (TrCm.IsT tp 32 (mapE vB E)) (star (MB (delM key E)) (star (Row 43 2 (.slice fa2 pn fc2) pn (fldV ps)) R)))))))) (by rw [HMT.out]; ac_rfl)
        have e0 := h6.right.cell 0 (v := kS qm) rfl
        have HOf := Lib.hid (of_any b ms h6 qm)
        cases hof : ofM ms qm with
        | none =>
          have HE : Hid (x = ((405, [(tAllow, allowM ms)], tNoM), 0)) := Lib.hid (by rw [HX3.out, hof])
          rw [hof] at HOf
          clear hof
          go_wp2_with fail
          refine HOf.out.mono ?_
          rintro e w7 ⟨rfl, hb7⟩
          have h7 := h6.past hb7
          clear HOf h6 hb7 e0
          simp only [lkV]
          have h8 := (h7.alloc (.cells #[.string ByteArray.empty, .string ByteArray.empty, .int .i64 0, .string ByteArray.empty] 40 (0, 0))).right
          have HAl := Lib.hid (allow_any b ms h8 HMF.out.1 HMF.out.2.1 HMF.out.2.2)
          go_wp2_with fail
          refine HAl.out.mono ?_
          rintro e w9 ⟨rfl, h9⟩
          clear HAl h8 h7
          have h9 := h9.eq (B := star (pt yb (.cells #[.int .i64 0, .slice none 0 0, .string ⟨#[]⟩] 29 (0, 0))) (star (pt xb (.cells #[kS qm, kS qp, kS qq, .int .i64 qv, .slice fa fn fc, kS qb, .bool qc] 24 (0, 0))) (star (Row 43 2 (.slice fa2 pn fc2) pn (fldV ps)) (star (pt rp (.cells #[lv, .pointer (some ⟨tp, 0, none⟩)] 54 (0, 0))) (star (Row 40 4 lv l.length (rsV l)) (star (TrCm.IsT tp 32 (mapE vB E)) (star (MB E) R))))))) (by rw [HMT.out]; ac_rfl)
          obtain ⟨AT, hAT⟩ : ∃ t, allowM ms = t := ⟨_, rfl⟩
          rw [hAT] at HE ⊢
          have h10 := h9.alloc (.cells #[.string ⟨#[65, 108, 108, 111, 119]⟩, kS AT] 43 (0, 0))
          obtain ⟨ab, hab⟩ : ∃ z, w9.heap.size = z := ⟨_, rfl⟩
          rw [hab] at h10
          have h11 := h10.eq (B := star (pt yb (.cells #[.int .i64 0, .slice none 0 0, .string ⟨#[]⟩] 29 (0, 0))) (star (pt ab (.cells #[.string ⟨#[65, 108, 108, 111, 119]⟩, kS AT] 43 (0, 0))) (star (pt xb (.cells #[kS qm, kS qp, kS qq, .int .i64 qv, .slice fa fn fc, kS qb, .bool qc] 24 (0, 0))) (star (Row 43 2 (.slice fa2 pn fc2) pn (fldV ps)) (star (pt rp (.cells #[lv, .pointer (some ⟨tp, 0, none⟩)] 54 (0, 0))) (star (Row 40 4 lv l.length (rsV l)) (star (TrCm.IsT tp 32 (mapE vB E)) (star (MB E) R)))))))) (by ac_rfl)
          clear h9 h10
          have k0 := h11.cell 0 (v := .int .i64 0) rfl
          have k1 := h11.cell 1 (v := .slice none 0 0) rfl
          have k2 := h11.cell 2 (v := .string ⟨#[]⟩) rfl
          have g0 := h11.free 0
          have g1 := h11.free 1
          have g2 := h11.free 2
          have hfA := h11.setCell 0 (.int .i64 405)
          have hfB := hfA.setCell 1 (.slice (some ⟨ab, 0, none⟩) 1 1)
          have hf := hfB.setCell 2 (.string ⟨#[110, 111, 32, 115, 117, 99, 104, 32, 109, 101, 116, 104, 111, 100]⟩)
          clear h11
          go_wp2
          have j2 := hf.cell 2 (v := .string ⟨#[110, 111, 32, 115, 117, 99, 104, 32, 109, 101, 116, 104, 111, 100]⟩) rfl
          have i0 := hfA.cell 0 (v := .int .i64 405) rfl
          have i1 := hfB.cell 1 (v := .slice (some ⟨ab, 0, none⟩) 1 1) rfl
          exact bodyPost_ret (v := .tuple #[.agg #[.int .i64 405, .slice (some ⟨ab, 0, none⟩) 1 1, .string ⟨#[110, 111, 32, 115, 117, 99, 104, 32, 109, 101, 116, 104, 111, 100]⟩], .int .i64 0]) (by simp [results, Tryz.results9, go_sem, j2, i0, i1]) rfl (SvPst.mk1 HE.out rfl (by have hg := hf.right; have hg := (hg.eq (B := star (pt ab (.cells #[.string ⟨#[65, 108, 108, 111, 119]⟩, kS AT] 43 (0, 0))) (star (star (pt xb (.cells #[kS qm, kS qp, kS qq, .int .i64 qv, .slice fa fn fc, kS qb, .bool qc] 24 (0, 0))) (Row 43 2 (.slice fa2 pn fc2) pn (fldV ps))) (star (pt rp (.cells #[lv, .pointer (some ⟨tp, 0, none⟩)] 54 (0, 0))) (star (Row 40 4 lv l.length (rsV l)) (star (TrCm.IsT tp 32 (mapE vB E)) (star (MB E) R)))))) (by ac_rfl)); exact (St.toRt (R := star (Row 43 2 (.slice (some ⟨ab, 0, none⟩) 1 1) 1 (fldV [(tAllow, AT)])) R) rfl HPE.out (((St.mkRow (size := 2) (n := 1) (cap := 1) (xs := fldV [(tAllow, AT)]) hg (Nat.le_refl _) (by unfold maxLen; omega) rfl rfl).swap.right).eq (by ac_rfl))).swap))
        | some r =>
          obtain ⟨rm, rq, rk, rt⟩ := r
          have HE : Hid (x = (answers ⟨rm, rq, rk, rt⟩ qb ps, rk)) := Lib.hid (by rw [HX3.out, hof])
          rw [hof] at HOf
          clear hof
          go_wp2_with fail
          refine HOf.out.mono ?_
          rintro e w7 ⟨rfl, hb7⟩
          have h7 := h6.past hb7
          clear HOf h6 hb7 e0
          simp only [lkV]
          have h8 := h7.alloc (.cells #[kS rm, kS rq, .int .i64 rk, kS rt] 40 (0, 0))
          obtain ⟨rb, hrb⟩ : ∃ z, w7.heap.size = z := ⟨_, rfl⟩
          rw [hrb] at h8
          go_upto_region 14 with fail
          clear hrb h7
          generalize w7.alloc (.cells #[kS rm, kS rq, .int .i64 rk, kS rt] 40 (0, 0)) = w8 at *
          have HCA : Hid (∀ w' A, St W w' (star (pt rb (.cells #[kS rm, kS rq, .int .i64 rk, kS rt] 40 (0, 0))) (star (Mp TrM.kS b (msV ms)) (star (pt xb (.cells #[kS qm, kS qp, kS qq, .int .i64 qv, .slice fa fn fc, kS qb, .bool qc] 24 (0, 0))) A))) → CA14 rb xb rm rq rk rt qm qp qq qv fa fn fc qb qc w') := Lib.hid fun w' A h => ⟨h.cell 0 rfl, h.cell 1 rfl, h.cell 2 rfl, h.cell 3 rfl, h.right.right.cell 0 rfl, h.right.right.cell 1 rfl, h.right.right.cell 2 rfl, h.right.right.cell 3 rfl, h.right.right.cell 4 rfl, h.right.right.cell 5 rfl, h.right.right.cell 6 rfl⟩
          have h8 := h8.drew
          refine Go.Proofs.YtlofiaaacepgmaaGreatDoor.Held.wp_region_held (CA14 rb xb rm rq rk rt qm qp qq qv fa fn fc qb qc) [] tr14 (by kernel_rfl) (by kernel_rfl) (HCA.out _ _ h8) ?_
          generalize w8.drew = w9 at *
          unfold tr14
          refine tr_held (.agg #[kS rm, kS rq, .int .i64 rk, kS rt]) rfl ?_ (by simp only [nthOp, Act.put, List.setIfInBounds_toArray, List.set_cons_succ, List.set_cons_zero]; rfl) ?_
          · (rintro w' ⟨hc0, hc1, hc2, hc3, hd0, hd1, hd2, hd3, hd4, hd5, hd6⟩; simp only [nthOp]; go_simp)
          refine tr_held (.agg #[kS qm, kS qp, kS qq, .int .i64 qv, .slice fa fn fc, kS qb, .bool qc]) rfl ?_ (by simp only [nthOp, Act.put, List.setIfInBounds_toArray, List.set_cons_succ, List.set_cons_zero]; rfl) ?_
          · (rintro w' ⟨hc0, hc1, hc2, hc3, hd0, hd1, hd2, hd3, hd4, hd5, hd6⟩; simp only [nthOp]; go_simp)
          refine tr_plain (.slice fa2 pn fc2) rfl ?_ (by simp only [nthOp, Act.put, List.setIfInBounds_toArray, List.set_cons_succ, List.set_cons_zero]; rfl) ?_
          · exact fun _ => rfl
          refine tr_plain (.pointer (some ⟨rb, 2, none⟩)) rfl ?_ (by simp only [nthOp, Act.put, List.setIfInBounds_toArray, List.set_cons_succ, List.set_cons_zero]; rfl) ?_
          · (intro w'; simp only [nthOp]; go_simp)
          refine tr_held (.int .i64 rk) rfl ?_ (by simp only [nthOp, Act.put, List.setIfInBounds_toArray, List.set_cons_succ, List.set_cons_zero]; rfl) ?_
          · (rintro w' ⟨hc0, hc1, hc2, hc3, hd0, hd1, hd2, hd3, hd4, hd5, hd6⟩; simp only [nthOp]; go_simp)
          have hFs := (h8.eq (B := star (Row 43 2 (.slice fa2 pn fc2) pn (fldV ps)) (star (pt rb (.cells #[kS rm, kS rq, .int .i64 rk, kS rt] 40 (0, 0))) (star (Mp TrM.kS b (msV ms)) (star (pt xb (.cells #[kS qm, kS qp, kS qq, .int .i64 qv, .slice fa fn fc, kS qb, .bool qc] 24 (0, 0))) (star (pt yb (.cells #[.int .i64 0, .slice none 0 0, .string ⟨#[]⟩] 29 (0, 0))) (star (pt rp (.cells #[lv, .pointer (some ⟨tp, 0, none⟩)] 54 (0, 0))) (star (Row 40 4 lv l.length (rsV l)) (star (TrCm.IsT tp 32 (mapE vB E)) (star (MB (delM key E)) R))))))))) (by ac_rfl)).rowSl
          have HAn := Lib.hid (answers_any rm rq rk rt qm qp qq qv fa fn fc qb qc fa2 pn fc2 ps HPN.out (by rw [← HPN.out]; exact HPS.out.1) HPS.out.2 hFs)
          obtain ⟨⟨an, af, ab⟩, ha⟩ : ∃ y, answers ⟨rm, rq, rk, rt⟩ qb ps = y := ⟨_, rfl⟩
          have haf : af = [] := answers_nil ha
          subst haf
          rw [ha] at HAn HE
          clear ha hFs
          refine tr_one ?_
          simp only [nthOp]
          go_wp2_with fail
          refine HAn.out.mono ?_
          rintro e w10 ⟨rfl, hb10⟩
          have h10 := h8.past hb10
          clear HAn h8 hb10
          simp only [pvV]
          go_wp2_with fail
          simp only [Reg.Next]
          refine ⟨fun _ => HCA.out _ _ h10, tr_one ?_⟩
          simp only [nthOp]
          have hy := h10.eq (B := star (pt yb (.cells #[.int .i64 0, .slice none 0 0, .string ⟨#[]⟩] 29 (0, 0))) (star (pt rb (.cells #[kS rm, kS rq, .int .i64 rk, kS rt] 40 (0, 0))) (star (Mp TrM.kS b (msV ms)) (star (pt xb (.cells #[kS qm, kS qp, kS qq, .int .i64 qv, .slice fa fn fc, kS qb, .bool qc] 24 (0, 0))) (star (Row 43 2 (.slice fa2 pn fc2) pn (fldV ps)) (star (pt rp (.cells #[lv, .pointer (some ⟨tp, 0, none⟩)] 54 (0, 0))) (star (Row 40 4 lv l.length (rsV l)) (star (TrCm.IsT tp 32 (mapE vB E)) (star (MB (delM key E)) R))))))))) (by ac_rfl)
          clear h10
          have k0 := hy.cell 0 (v := .int .i64 0) rfl
          have k1 := hy.cell 1 (v := .slice none 0 0) rfl
          have k2 := hy.cell 2 (v := .string ⟨#[]⟩) rfl
          have g0 := hy.free 0
          have g1 := hy.free 1
          have g2 := hy.free 2
          have hfA := hy.setCell 0 (.int .i64 an)
          have hfB := hfA.setCell 1 (.slice none 0 0)
          have hf := hfB.setCell 2 (kS ab)
          clear hy
          go_wp2_with fail
          simp only [Reg.Next]
          refine ⟨fun _ => HCA.out _ _ (hf.right), ?_⟩
          refine tr_plain (.int .i64 rk) rfl ?_ (by simp only [nthOp, Act.put, List.setIfInBounds_toArray, List.set_cons_succ, List.set_cons_zero]; rfl) ?_
          · exact fun _ => rfl
          refine tr_done ?_
          go_wp2
          have j2 := hf.cell 2 (v := kS ab) rfl
          have i0 := hfA.cell 0 (v := .int .i64 an) rfl
          have i1 := hfB.cell 1 (v := .slice none 0 0) rfl
          exact bodyPost_ret (v := .tuple #[.agg #[.int .i64 an, .slice none 0 0, kS ab], .int .i64 rk]) (by simp [results, Tryz.results9, go_sem, j2, i0, i1]) rfl (SvPst.mk0 HE.out rfl (St.toRt rfl HPE.out ((hf.right.eq (B := star (star (pt rb (.cells #[kS rm, kS rq, .int .i64 rk, kS rt] 40 (0, 0))) (star (pt xb (.cells #[kS qm, kS qp, kS qq, .int .i64 qv, .slice fa fn fc, kS qb, .bool qc] 24 (0, 0))) (Row 43 2 (.slice fa2 pn fc2) pn (fldV ps)))) (star (pt rp (.cells #[lv, .pointer (some ⟨tp, 0, none⟩)] 54 (0, 0))) (star (Row 40 4 lv l.length (rsV l)) (star (TrCm.IsT tp 32 (mapE vB E)) (star (MB E) R))))) (by rw [HMT.out]; ac_rfl)).right)))
    · have HPO : Hid (pathOf qp = sl) := Lib.hid (by unfold pathOf; rw [if_neg hq, HSG.out]; rfl)
      have hqb : (qp == [47]) = false := by simpa using hq
      rw [HPO.out] at HX2 HPB HPP hpln
      clear hq
      go_enter Tryz.func9, Tryz.ntmps9
      go_upto_region 3 with fail
      clear hxb hyb c4
      generalize (w.alloc (.cells #[kS qm, kS qp, kS qq, .int .i64 qv, .slice fa fn fc, kS qb, .bool qc] 24 (0, 0))).alloc (.cells #[.int .i64 0, .slice none 0 0, .string ⟨#[]⟩] 29 (0, 0)) = w1 at *
      have c1 := h1.right.cell 1 (v := kS qp) rfl
      go_wp2_with fail
      refine (HSp.out _ HM1.out).mono ?_
      rintro e w3 ⟨sa, sc, rfl, hs3⟩
      obtain ⟨sn, hsn⟩ : ∃ n, sl.length = n := ⟨_, rfl⟩
      rw [hsn] at hs3 hpln ⊢
      have HSN := Lib.hid hsn
      have hSL := hs3.rowSl
      have h3 := (St.comp h1 hs3).right
      have h5 := h3.eq (B := star (pt xb (.cells #[kS qm, kS qp, kS qq, .int .i64 qv, .slice fa fn fc, kS qb, .bool qc] 24 (0, 0))) (star (pt yb (.cells #[.int .i64 0, .slice none 0 0, .string ⟨#[]⟩] 29 (0, 0))) (star (pt rp (.cells #[lv, .pointer (some ⟨tp, 0, none⟩)] 54 (0, 0))) (star (Row 40 4 lv l.length (rsV l)) (star (TrCm.IsT tp 32 (mapE vB E)) (star (MB E) R)))))) (by ac_rfl)
      have c3 := h5.cell 1 (v := kS qp) rfl
      clear h1 h3 hs3 c1 hsn
      have d4 := (h5.right.right).cell 1 (v := .pointer (some ⟨tp, 0, none⟩)) rfl
      have HFi := Lib.hid (TrDm.Find_any tp 32 (mapE vB E) (h5.eq (B := star (TrCm.IsT tp 32 (mapE vB E)) (star (pt xb (.cells #[kS qm, kS qp, kS qq, .int .i64 qv, .slice fa fn fc, kS qb, .bool qc] 24 (0, 0))) (star (pt yb (.cells #[.int .i64 0, .slice none 0 0, .string ⟨#[]⟩] 29 (0, 0))) (star (pt rp (.cells #[lv, .pointer (some ⟨tp, 0, none⟩)] 54 (0, 0))) (star (Row 40 4 lv l.length (rsV l)) (star (MB E) R)))))) (by ac_rfl)) HPT.out HM.out sa sn sc (sl) hSL HSN.out (by omega) (fun x hx => Nat.le_trans (HPB.out x hx) (by omega)))
      cases hfi : findT E (sl) with
      | none =>
        have HE : Hid (x = ((404, [], tNot), 0)) := Lib.hid (by rw [← HX2.out]; simp only [hfi])
        have hf2 : findT (mapE vB E) (sl) = none := by rw [mapE_findT, hfi]; rfl
        rw [fpost_none hf2] at HFi
        clear hfi hf2
        go_wp2_with fail
        refine HFi.out.mono ?_
        rintro e w6 ⟨rfl, h6⟩
        clear HFi h5 d4
        have h6 := h6.eq (B := star (pt xb (.cells #[kS qm, kS qp, kS qq, .int .i64 qv, .slice fa fn fc, kS qb, .bool qc] 24 (0, 0))) (star (pt yb (.cells #[.int .i64 0, .slice none 0 0, .string ⟨#[]⟩] 29 (0, 0))) (star (pt rp (.cells #[lv, .pointer (some ⟨tp, 0, none⟩)] 54 (0, 0))) (star (Row 40 4 lv l.length (rsV l)) (star (TrCm.IsT tp 32 (mapE vB E)) (star (MB E) R)))))) (by ac_rfl)
        have hy := h6.eq (B := star (pt yb (.cells #[.int .i64 0, .slice none 0 0, .string ⟨#[]⟩] 29 (0, 0))) (star (pt xb (.cells #[kS qm, kS qp, kS qq, .int .i64 qv, .slice fa fn fc, kS qb, .bool qc] 24 (0, 0))) (star (pt rp (.cells #[lv, .pointer (some ⟨tp, 0, none⟩)] 54 (0, 0))) (star (Row 40 4 lv l.length (rsV l)) (star (TrCm.IsT tp 32 (mapE vB E)) (star (MB E) R)))))) (by ac_rfl)
        clear h6
        have k0 := hy.cell 0 (v := .int .i64 0) rfl
        have k1 := hy.cell 1 (v := .slice none 0 0) rfl
        have k2 := hy.cell 2 (v := .string ⟨#[]⟩) rfl
        have g0 := hy.free 0
        have g1 := hy.free 1
        have g2 := hy.free 2
        have hfA := hy.setCell 0 (.int .i64 404)
        have hfB := hfA.setCell 1 (.slice none 0 0)
        have hf := hfB.setCell 2 (.string ⟨#[110, 111, 116, 32, 102, 111, 117, 110, 100]⟩)
        clear hy
        go_wp2
        have j2 := hf.cell 2 (v := .string ⟨#[110, 111, 116, 32, 102, 111, 117, 110, 100]⟩) rfl
        have i0 := hfA.cell 0 (v := .int .i64 404) rfl
        have i1 := hfB.cell 1 (v := .slice none 0 0) rfl
        exact bodyPost_ret (v := .tuple #[.agg #[.int .i64 404, .slice none 0 0, .string ⟨#[110, 111, 116, 32, 102, 111, 117, 110, 100]⟩], .int .i64 0]) (by simp [results, Tryz.results9, go_sem, j2, i0, i1]) rfl (SvPst.mk0 HE.out rfl (St.toRt rfl HPE.out (hf.right.right)))
      | some v =>
        obtain ⟨fp, ⟨b, ms⟩, ps⟩ := v
        have hf2 : findT (mapE vB E) (sl) = some (fp, .map (some b), ps) := by rw [mapE_findT, hfi]; rfl
        obtain ⟨key, hkey, hps⟩ := findT_some hfi
        have HKey := Lib.hid hkey
        have HMT := Lib.hid (MB_take HND.out hkey)
        dsimp only at HMT
        have HMF := Lib.hid (HMS.out key fp b ms hkey)
        have HPS : Hid (ps.length ≤ 1000 ∧ ∀ x ∈ ps, x.1.length ≤ 1000 ∧ x.2.length ≤ 100000) := Lib.hid (by rw [hps]; exact HPP.out key fp b ms hkey)
        have HX3 : Hid (x = match ofM ms qm with | none => ((405, [(tAllow, allowM ms)], tNoM), 0) | some r => (answers r qb ps, r.k)) := Lib.hid (by rw [← HX2.out]; simp only [hfi])
        rw [fpost_some hf2] at HFi
        obtain ⟨pn, hpn⟩ : ∃ n, ps.length = n := ⟨_, rfl⟩
        rw [hpn] at HFi
        have HPN := Lib.hid hpn
        clear hfi hf2 hkey hps hpn
        go_wp2_with fail
        refine HFi.out.mono ?_
        rintro e w6 ⟨fa2, fc2, rfl, h6⟩
        clear HFi h5 d4
        have h6 := h6.eq (B := star (Mp TrM.kS b (msV ms)) (star (pt xb (.cells #[kS qm, kS qp, kS qq, .int .i64 qv, .slice fa fn fc, kS qb, .bool qc] 24 (0, 0))) (star (pt yb (.cells #[.int .i64 0, .slice none 0 0, .string ⟨#[]⟩] 29 (0, 0))) (star (pt rp (.cells #[lv, .pointer (some ⟨tp, 0, none⟩)] 54 (0, 0))) (star (Row 40 4 lv l.length (rsV l)) (star (TrCm.IsT tp 32 (mapE vB E)) (star (MB (delM key E)) (star (Row 43 2 (.slice fa2 pn fc2) pn (fldV ps)) R)))))))) (by rw [HMT.out]; ac_rfl)
        have e0 := h6.right.cell 0 (v := kS qm) rfl
        have HOf := Lib.hid (of_any b ms h6 qm)
        cases hof : ofM ms qm with
        | none =>
          have HE : Hid (x = ((405, [(tAllow, allowM ms)], tNoM), 0)) := Lib.hid (by rw [HX3.out, hof])
          rw [hof] at HOf
          clear hof
          go_wp2_with fail
          refine HOf.out.mono ?_
          rintro e w7 ⟨rfl, hb7⟩
          have h7 := h6.past hb7
          clear HOf h6 hb7 e0
          simp only [lkV]
          have h8 := (h7.alloc (.cells #[.string ByteArray.empty, .string ByteArray.empty, .int .i64 0, .string ByteArray.empty] 40 (0, 0))).right
          have HAl := Lib.hid (allow_any b ms h8 HMF.out.1 HMF.out.2.1 HMF.out.2.2)
          go_wp2_with fail
          refine HAl.out.mono ?_
          rintro e w9 ⟨rfl, h9⟩
          clear HAl h8 h7
          have h9 := h9.eq (B := star (pt yb (.cells #[.int .i64 0, .slice none 0 0, .string ⟨#[]⟩] 29 (0, 0))) (star (pt xb (.cells #[kS qm, kS qp, kS qq, .int .i64 qv, .slice fa fn fc, kS qb, .bool qc] 24 (0, 0))) (star (Row 43 2 (.slice fa2 pn fc2) pn (fldV ps)) (star (pt rp (.cells #[lv, .pointer (some ⟨tp, 0, none⟩)] 54 (0, 0))) (star (Row 40 4 lv l.length (rsV l)) (star (TrCm.IsT tp 32 (mapE vB E)) (star (MB E) R))))))) (by rw [HMT.out]; ac_rfl)
          obtain ⟨AT, hAT⟩ : ∃ t, allowM ms = t := ⟨_, rfl⟩
          rw [hAT] at HE ⊢
          have h10 := h9.alloc (.cells #[.string ⟨#[65, 108, 108, 111, 119]⟩, kS AT] 43 (0, 0))
          obtain ⟨ab, hab⟩ : ∃ z, w9.heap.size = z := ⟨_, rfl⟩
          rw [hab] at h10
          have h11 := h10.eq (B := star (pt yb (.cells #[.int .i64 0, .slice none 0 0, .string ⟨#[]⟩] 29 (0, 0))) (star (pt ab (.cells #[.string ⟨#[65, 108, 108, 111, 119]⟩, kS AT] 43 (0, 0))) (star (pt xb (.cells #[kS qm, kS qp, kS qq, .int .i64 qv, .slice fa fn fc, kS qb, .bool qc] 24 (0, 0))) (star (Row 43 2 (.slice fa2 pn fc2) pn (fldV ps)) (star (pt rp (.cells #[lv, .pointer (some ⟨tp, 0, none⟩)] 54 (0, 0))) (star (Row 40 4 lv l.length (rsV l)) (star (TrCm.IsT tp 32 (mapE vB E)) (star (MB E) R)))))))) (by ac_rfl)
          clear h9 h10
          have k0 := h11.cell 0 (v := .int .i64 0) rfl
          have k1 := h11.cell 1 (v := .slice none 0 0) rfl
          have k2 := h11.cell 2 (v := .string ⟨#[]⟩) rfl
          have g0 := h11.free 0
          have g1 := h11.free 1
          have g2 := h11.free 2
          have hfA := h11.setCell 0 (.int .i64 405)
          have hfB := hfA.setCell 1 (.slice (some ⟨ab, 0, none⟩) 1 1)
          have hf := hfB.setCell 2 (.string ⟨#[110, 111, 32, 115, 117, 99, 104, 32, 109, 101, 116, 104, 111, 100]⟩)
          clear h11
          go_wp2
          have j2 := hf.cell 2 (v := .string ⟨#[110, 111, 32, 115, 117, 99, 104, 32, 109, 101, 116, 104, 111, 100]⟩) rfl
          have i0 := hfA.cell 0 (v := .int .i64 405) rfl
          have i1 := hfB.cell 1 (v := .slice (some ⟨ab, 0, none⟩) 1 1) rfl
          exact bodyPost_ret (v := .tuple #[.agg #[.int .i64 405, .slice (some ⟨ab, 0, none⟩) 1 1, .string ⟨#[110, 111, 32, 115, 117, 99, 104, 32, 109, 101, 116, 104, 111, 100]⟩], .int .i64 0]) (by simp [results, Tryz.results9, go_sem, j2, i0, i1]) rfl (SvPst.mk1 HE.out rfl (by have hg := hf.right; have hg := (hg.eq (B := star (pt ab (.cells #[.string ⟨#[65, 108, 108, 111, 119]⟩, kS AT] 43 (0, 0))) (star (star (pt xb (.cells #[kS qm, kS qp, kS qq, .int .i64 qv, .slice fa fn fc, kS qb, .bool qc] 24 (0, 0))) (Row 43 2 (.slice fa2 pn fc2) pn (fldV ps))) (star (pt rp (.cells #[lv, .pointer (some ⟨tp, 0, none⟩)] 54 (0, 0))) (star (Row 40 4 lv l.length (rsV l)) (star (TrCm.IsT tp 32 (mapE vB E)) (star (MB E) R)))))) (by ac_rfl)); exact (St.toRt (R := star (Row 43 2 (.slice (some ⟨ab, 0, none⟩) 1 1) 1 (fldV [(tAllow, AT)])) R) rfl HPE.out (((St.mkRow (size := 2) (n := 1) (cap := 1) (xs := fldV [(tAllow, AT)]) hg (Nat.le_refl _) (by unfold maxLen; omega) rfl rfl).swap.right).eq (by ac_rfl))).swap))
        | some r =>
          obtain ⟨rm, rq, rk, rt⟩ := r
          have HE : Hid (x = (answers ⟨rm, rq, rk, rt⟩ qb ps, rk)) := Lib.hid (by rw [HX3.out, hof])
          rw [hof] at HOf
          clear hof
          go_wp2_with fail
          refine HOf.out.mono ?_
          rintro e w7 ⟨rfl, hb7⟩
          have h7 := h6.past hb7
          clear HOf h6 hb7 e0
          simp only [lkV]
          have h8 := h7.alloc (.cells #[kS rm, kS rq, .int .i64 rk, kS rt] 40 (0, 0))
          obtain ⟨rb, hrb⟩ : ∃ z, w7.heap.size = z := ⟨_, rfl⟩
          rw [hrb] at h8
          go_upto_region 14 with fail
          clear hrb h7
          generalize w7.alloc (.cells #[kS rm, kS rq, .int .i64 rk, kS rt] 40 (0, 0)) = w8 at *
          have HCA : Hid (∀ w' A, St W w' (star (pt rb (.cells #[kS rm, kS rq, .int .i64 rk, kS rt] 40 (0, 0))) (star (Mp TrM.kS b (msV ms)) (star (pt xb (.cells #[kS qm, kS qp, kS qq, .int .i64 qv, .slice fa fn fc, kS qb, .bool qc] 24 (0, 0))) A))) → CA14 rb xb rm rq rk rt qm qp qq qv fa fn fc qb qc w') := Lib.hid fun w' A h => ⟨h.cell 0 rfl, h.cell 1 rfl, h.cell 2 rfl, h.cell 3 rfl, h.right.right.cell 0 rfl, h.right.right.cell 1 rfl, h.right.right.cell 2 rfl, h.right.right.cell 3 rfl, h.right.right.cell 4 rfl, h.right.right.cell 5 rfl, h.right.right.cell 6 rfl⟩
          have h8 := h8.drew
          refine Go.Proofs.YtlofiaaacepgmaaGreatDoor.Held.wp_region_held (CA14 rb xb rm rq rk rt qm qp qq qv fa fn fc qb qc) [] tr14 (by kernel_rfl) (by kernel_rfl) (HCA.out _ _ h8) ?_
          generalize w8.drew = w9 at *
          unfold tr14
          refine tr_held (.agg #[kS rm, kS rq, .int .i64 rk, kS rt]) rfl ?_ (by simp only [nthOp, Act.put, List.setIfInBounds_toArray, List.set_cons_succ, List.set_cons_zero]; rfl) ?_
          · (rintro w' ⟨hc0, hc1, hc2, hc3, hd0, hd1, hd2, hd3, hd4, hd5, hd6⟩; simp only [nthOp]; go_simp)
          refine tr_held (.agg #[kS qm, kS qp, kS qq, .int .i64 qv, .slice fa fn fc, kS qb, .bool qc]) rfl ?_ (by simp only [nthOp, Act.put, List.setIfInBounds_toArray, List.set_cons_succ, List.set_cons_zero]; rfl) ?_
          · (rintro w' ⟨hc0, hc1, hc2, hc3, hd0, hd1, hd2, hd3, hd4, hd5, hd6⟩; simp only [nthOp]; go_simp)
          refine tr_plain (.slice fa2 pn fc2) rfl ?_ (by simp only [nthOp, Act.put, List.setIfInBounds_toArray, List.set_cons_succ, List.set_cons_zero]; rfl) ?_
          · exact fun _ => rfl
          refine tr_plain (.pointer (some ⟨rb, 2, none⟩)) rfl ?_ (by simp only [nthOp, Act.put, List.setIfInBounds_toArray, List.set_cons_succ, List.set_cons_zero]; rfl) ?_
          · (intro w'; simp only [nthOp]; go_simp)
          refine tr_held (.int .i64 rk) rfl ?_ (by simp only [nthOp, Act.put, List.setIfInBounds_toArray, List.set_cons_succ, List.set_cons_zero]; rfl) ?_
          · (rintro w' ⟨hc0, hc1, hc2, hc3, hd0, hd1, hd2, hd3, hd4, hd5, hd6⟩; simp only [nthOp]; go_simp)
          have hFs := (h8.eq (B := star (Row 43 2 (.slice fa2 pn fc2) pn (fldV ps)) (star (pt rb (.cells #[kS rm, kS rq, .int .i64 rk, kS rt] 40 (0, 0))) (star (Mp TrM.kS b (msV ms)) (star (pt xb (.cells #[kS qm, kS qp, kS qq, .int .i64 qv, .slice fa fn fc, kS qb, .bool qc] 24 (0, 0))) (star (pt yb (.cells #[.int .i64 0, .slice none 0 0, .string ⟨#[]⟩] 29 (0, 0))) (star (pt rp (.cells #[lv, .pointer (some ⟨tp, 0, none⟩)] 54 (0, 0))) (star (Row 40 4 lv l.length (rsV l)) (star (TrCm.IsT tp 32 (mapE vB E)) (star (MB (delM key E)) R))))))))) (by ac_rfl)).rowSl
          have HAn := Lib.hid (answers_any rm rq rk rt qm qp qq qv fa fn fc qb qc fa2 pn fc2 ps HPN.out (by rw [← HPN.out]; exact HPS.out.1) HPS.out.2 hFs)
          obtain ⟨⟨an, af, ab⟩, ha⟩ : ∃ y, answers ⟨rm, rq, rk, rt⟩ qb ps = y := ⟨_, rfl⟩
          have haf : af = [] := answers_nil ha
          subst haf
          rw [ha] at HAn HE
          clear ha hFs
          refine tr_one ?_
          simp only [nthOp]
          go_wp2_with fail
          refine HAn.out.mono ?_
          rintro e w10 ⟨rfl, hb10⟩
          have h10 := h8.past hb10
          clear HAn h8 hb10
          simp only [pvV]
          go_wp2_with fail
          simp only [Reg.Next]
          refine ⟨fun _ => HCA.out _ _ h10, tr_one ?_⟩
          simp only [nthOp]
          have hy := h10.eq (B := star (pt yb (.cells #[.int .i64 0, .slice none 0 0, .string ⟨#[]⟩] 29 (0, 0))) (star (pt rb (.cells #[kS rm, kS rq, .int .i64 rk, kS rt] 40 (0, 0))) (star (Mp TrM.kS b (msV ms)) (star (pt xb (.cells #[kS qm, kS qp, kS qq, .int .i64 qv, .slice fa fn fc, kS qb, .bool qc] 24 (0, 0))) (star (Row 43 2 (.slice fa2 pn fc2) pn (fldV ps)) (star (pt rp (.cells #[lv, .pointer (some ⟨tp, 0, none⟩)] 54 (0, 0))) (star (Row 40 4 lv l.length (rsV l)) (star (TrCm.IsT tp 32 (mapE vB E)) (star (MB (delM key E)) R))))))))) (by ac_rfl)
          clear h10
          have k0 := hy.cell 0 (v := .int .i64 0) rfl
          have k1 := hy.cell 1 (v := .slice none 0 0) rfl
          have k2 := hy.cell 2 (v := .string ⟨#[]⟩) rfl
          have g0 := hy.free 0
          have g1 := hy.free 1
          have g2 := hy.free 2
          have hfA := hy.setCell 0 (.int .i64 an)
          have hfB := hfA.setCell 1 (.slice none 0 0)
          have hf := hfB.setCell 2 (kS ab)
          clear hy
          go_wp2_with fail
          simp only [Reg.Next]
          refine ⟨fun _ => HCA.out _ _ (hf.right), ?_⟩
          refine tr_plain (.int .i64 rk) rfl ?_ (by simp only [nthOp, Act.put, List.setIfInBounds_toArray, List.set_cons_succ, List.set_cons_zero]; rfl) ?_
          · exact fun _ => rfl
          refine tr_done ?_
          go_wp2
          have j2 := hf.cell 2 (v := kS ab) rfl
          have i0 := hfA.cell 0 (v := .int .i64 an) rfl
          have i1 := hfB.cell 1 (v := .slice none 0 0) rfl
          exact bodyPost_ret (v := .tuple #[.agg #[.int .i64 an, .slice none 0 0, kS ab], .int .i64 rk]) (by simp [results, Tryz.results9, go_sem, j2, i0, i1]) rfl (SvPst.mk0 HE.out rfl (St.toRt rfl HPE.out ((hf.right.eq (B := star (star (pt rb (.cells #[kS rm, kS rq, .int .i64 rk, kS rt] 40 (0, 0))) (star (pt xb (.cells #[kS qm, kS qp, kS qq, .int .i64 qv, .slice fa fn fc, kS qb, .bool qc] 24 (0, 0))) (Row 43 2 (.slice fa2 pn fc2) pn (fldV ps)))) (star (pt rp (.cells #[lv, .pointer (some ⟨tp, 0, none⟩)] 54 (0, 0))) (star (Row 40 4 lv l.length (rsV l)) (star (TrCm.IsT tp 32 (mapE vB E)) (star (MB E) R))))) (by rw [HMT.out]; ac_rfl)).right)))
end Go.Proofs.YtlofiaaacepgmaaGreatDoor.RtV
namespace Go.Proofs.YtlofiaaacepgmaaGreatDoor.RtW
open Go Go.RowKit Go.Proofs Go.Proofs.YtlofiaaacepgmaaGreatDoor.Sep Go.Proofs.YtlofiaaacepgmaaGreatDoor.Reg Go.Proofs.YtlofiaaacepgmaaGreatDoor.Frame Go.Proofs.YtlofiaaacepgmaaGreatDoor.Strs Go.Proofs.YtlofiaaacepgmaaGreatDoor.Mp Go.Proofs.YtlofiaaacepgmaaGreatDoor.TrP Go.Proofs.YtlofiaaacepgmaaGreatDoor.TrQ Go.Proofs.YtlofiaaacepgmaaGreatDoor.RtP Go.Proofs.YtlofiaaacepgmaaGreatDoor.RtQ Go.Proofs.YtlofiaaacepgmaaGreatDoor.RtA Go.Proofs.YtlofiaaacepgmaaGreatDoor.RtM Go.Proofs.YtlofiaaacepgmaaGreatDoor.RtB Go.Proofs.YtlofiaaacepgmaaGreatDoor.RtC Go.Proofs.YtlofiaaacepgmaaGreatDoor.RtD Go.Proofs.YtlofiaaacepgmaaGreatDoor.RtE Go.Proofs.YtlofiaaacepgmaaGreatDoor.RtT Go.Proofs.YtlofiaaacepgmaaGreatDoor.RtV

theorem elF_all {W : World} {a : Option Addr} {n c : Nat} {l : List (Tx × Tx)} (h : Sl W 2 (.slice a n c) n (fldV l)) {i : Nat} {x : Tx × Tx} (hx : l[i]? = some x) :
    ∃ ab ao, a = some ⟨ab, ao, none⟩ ∧ ∀ w A, St W w A → w.cell? ⟨ab, ao + i * 2, none⟩ = some (kS x.1) ∧ w.cell? ⟨ab, ao + i * 2 + 1, none⟩ = some (kS x.2) := by
  obtain ⟨ab, ao, e, h0, h1⟩ := elF h hx
  exact ⟨ab, ao, e, fun w A hS => ⟨(hS.old (World.block_lt_of_cell? W _ h0)).trans h0, (hS.old (World.block_lt_of_cell? W _ h1)).trans h1⟩⟩
set_option maxRecDepth 100000 in
set_option maxHeartbeats 8000000 in
theorem Same_any (w : World) (c1 : Int) (a1 : Option Addr) (n1 k1 : Nat) (f1 : List (Tx × Tx)) (b1 : Tx) (c2 : Int) (a2 : Option Addr) (n2 k2 : Nat) (f2 : List (Tx × Tx)) (b2 : Tx) (h1n : f1.length = n1) (h2n : f2.length = n2) (hb : n1 ≤ 1000000)
    (hs1 : Sl w 2 (.slice a1 n1 k1) n1 (fldV f1)) (hs2 : Sl w 2 (.slice a2 n2 k2) n2 (fldV f2)) :
    Calls Tryz.prog 10 #[.agg #[.int .i64 c1, .slice a1 n1 k1, kS b1], .agg #[.int .i64 c2, .slice a2 n2 k2, kS b2]] w (Makes w (.bool (decide (f1 = f2) && (decide (c1 = c2) && decide (b1 = b2))))) := by
  obtain ⟨res, hres⟩ : ∃ r, (decide (f1 = f2) && (decide (c1 = c2) && decide (b1 = b2))) = r := ⟨_, rfl⟩
  rw [hres]
  have HR := Lib.hid hres
  have H1 := Lib.hid h1n
  have H2 := Lib.hid h2n
  have HS1 := Lib.hid hs1
  have HS2 := Lib.hid hs2
  clear hres h1n h2n hs1 hs2
  have h0 := ((St.start w).alloc (.cells #[.int .i64 c1, .slice a1 n1 k1, kS b1] 29 (0, 0))).alloc (.cells #[.int .i64 c2, .slice a2 n2 k2, kS b2] 29 (0, 0))
  rw [World.size_alloc] at h0
  obtain ⟨xb, hxb⟩ : ∃ z, w.heap.size = z := ⟨_, rfl⟩
  obtain ⟨yb, hyb⟩ : ∃ z, xb + 1 = z := ⟨_, rfl⟩
  rw [hxb, hyb] at h0
  have HC : Hid (∀ wr, St w wr (star (pt yb (.cells #[.int .i64 c2, .slice a2 n2 k2, kS b2] 29 (0, 0))) (star (pt xb (.cells #[.int .i64 c1, .slice a1 n1 k1, kS b1] 29 (0, 0))) emp)) →
      wr.cell? ⟨xb, 0, none⟩ = some (.int .i64 c1) ∧ wr.cell? ⟨xb, 1, none⟩ = some (.slice a1 n1 k1) ∧ wr.cell? ⟨xb, 2, none⟩ = some (kS b1) ∧ wr.cell? ⟨yb, 0, none⟩ = some (.int .i64 c2) ∧ wr.cell? ⟨yb, 1, none⟩ = some (.slice a2 n2 k2) ∧ wr.cell? ⟨yb, 2, none⟩ = some (kS b2)) := Lib.hid fun wr h =>
    ⟨h.right.cell 0 rfl, h.right.cell 1 rfl, h.right.cell 2 rfl, h.cell 0 rfl, h.cell 1 rfl, h.cell 2 rfl⟩
  obtain ⟨x0, x1, x2, y0, y1, y2⟩ := HC.out _ h0
  by_cases hn : n1 = n2
  · have hnb : (((n1 : Nat) : Int) != (n2 : Nat)) = false := by rw [hn]; simp
    subst hn
    go_enter Tryz.func10, Tryz.ntmps10
    go_upto_region 3 with fail
    clear hxb hyb x0 x1 x2 y0 y1 y2 hnb
    generalize (w.alloc (.cells #[.int .i64 c1, .slice a1 n1 k1, kS b1] 29 (0, 0))).alloc (.cells #[.int .i64 c2, .slice a2 n1 k2, kS b2] 29 (0, 0)) = w1 at *
    go_wp2_with fail
    go_loopw [5] (fun iv wr => ∃ i : Nat, i ≤ n1 ∧ iv = .int .i64 i ∧ Hid (f1.take i = f2.take i) ∧ St w wr (star (pt yb (.cells #[.int .i64 c2, .slice a2 n1 k2, kS b2] 29 (0, 0))) (star (pt xb (.cells #[.int .i64 c1, .slice a1 n1 k1, kS b1] 29 (0, 0))) emp))) (fun iv _ => n1 - (intOf iv).toNat)
    case atStart => exact ⟨0, Nat.zero_le _, rfl, Lib.hid (by simp), h0⟩
    case round =>
      obtain ⟨i, hi, rfl, HT, hS⟩ := hrel
      clear h0
      obtain ⟨x0, x1, x2, y0, y1, y2⟩ := HC.out _ hS
      by_cases hin : i < n1
      · obtain ⟨f, hf⟩ : ∃ x, f1[i]? = some x := ⟨_, List.getElem?_eq_getElem (by rw [H1.out]; exact hin)⟩
        obtain ⟨g, hg⟩ : ∃ x, f2[i]? = some x := ⟨_, List.getElem?_eq_getElem (by rw [H2.out]; exact hin)⟩
        obtain ⟨ab, ao, rfl, hea⟩ := elF_all HS1.out hf
        obtain ⟨bb, bo, rfl, heb⟩ := elF_all HS2.out hg
        obtain ⟨p0, p1⟩ := hea _ _ hS
        obtain ⟨q0, q1⟩ := heb _ _ hS
        have hinI : (i : Int) < n1 := by omega
        have HF := Lib.hid hf
        have HG := Lib.hid hg
        obtain ⟨fa, fb⟩ := f
        obtain ⟨ga, gb⟩ := g
        dsimp only at p0 p1 q0 q1
        clear hf hg hea heb
        have stop : ∀ (_ : (fa, fb) ≠ (ga, gb)), res = false := fun hne => by
          rw [← HR.out]
          have : f1 ≠ f2 := fun e => hne (by have h1 := HF.out; rw [e, HG.out] at h1; exact (Option.some.inj h1).symm)
          simp [this]
        have STOP := Lib.hid stop
        clear stop
        cases ha : (fa == ga)
        · have HZ := Lib.hid (STOP.out (fun e => by have := (Prod.mk.inj e).1; simp [this] at ha))
          clear STOP
          go_wp2_with fail
          go_big_quiet (fail)
          go_wp2
          go_ret
          exact ⟨by rw [HZ.out]; rfl, (hS.drewN nq).below⟩
        · cases hb2 : (fb == gb)
          · have HZ := Lib.hid (STOP.out (fun e => by have := (Prod.mk.inj e).2; simp [this] at hb2))
            clear STOP
            go_wp2_with fail
            go_big_quiet (fail)
            go_wp2
            go_ret
            exact ⟨by rw [HZ.out]; rfl, (hS.drewN nq).below⟩
          · have HT2 : Hid (f1.take (i + 1) = f2.take (i + 1)) := Lib.hid (by
              rw [List.take_add_one, List.take_add_one, HT.out, HF.out, HG.out]
              have e1 : fa = ga := by simpa using ha
              have e2 : fb = gb := by simpa using hb2
              rw [e1, e2])
            clear STOP
            go_wp2_with fail
            go_big_quiet (fail)
            go_wp2_with fail
            exact ⟨⟨i + 1, hin, by go_num, HT2, hS.drewN nq⟩, by simp [intOf]; omega⟩
      · obtain rfl : n1 = i := by omega
        have HEQ : Hid (f1 = f2) := Lib.hid (by
          have := HT.out
          rwa [List.take_of_length_le (by rw [H1.out]; exact Nat.le_refl _), List.take_of_length_le (by rw [H2.out]; exact Nat.le_refl _)] at this)
        have HR2 : Hid (res = (decide (c1 = c2) && decide (b1 = b2))) := Lib.hid (by rw [← HR.out, HEQ.out]; simp)
        cases hc : (c1 == c2)
        · have HZ : Hid (res = false) := Lib.hid (by rw [HR2.out, decide_eq_false (fun e => by rw [e] at hc; simp at hc)]; rfl)
          go_wp2
          go_ret
          exact ⟨by rw [HZ.out]; rfl, hS.below⟩
        · obtain ⟨bb, hbb⟩ : ∃ b, (b1 == b2) = b := ⟨_, rfl⟩
          have HZ : Hid (res = bb) := Lib.hid (by rw [HR2.out, ← hbb, decide_eq_true (show c1 = c2 from by simpa using hc), Bool.true_and]; rw [Bool.eq_iff_iff]; simp)
          go_wp2
          go_ret
          exact ⟨by rw [HZ.out]; rfl, hS.below⟩
  · have hnb : (((n1 : Nat) : Int) != (n2 : Nat)) = true := by rw [bne_iff_ne]; omega
    have HZ : Hid (res = false) := Lib.hid (by
      rw [← HR.out]
      have : f1 ≠ f2 := fun e => hn (by rw [← H1.out, ← H2.out, e])
      simp [this])
    clear hn
    go_enter Tryz.func10, Tryz.ntmps10
    go_wp2
    go_ret
    exact ⟨by rw [HZ.out]; rfl, h0.below⟩
end Go.Proofs.YtlofiaaacepgmaaGreatDoor.RtW
namespace Go.Proofs.YtlofiaaacepgmaaGreatDoor.RtX
open Go Go.RowKit Go.Proofs Go.Proofs.YtlofiaaacepgmaaGreatDoor.Sep Go.Proofs.YtlofiaaacepgmaaGreatDoor.Reg Go.Proofs.YtlofiaaacepgmaaGreatDoor.Frame Go.Proofs.YtlofiaaacepgmaaGreatDoor.Strs Go.Proofs.YtlofiaaacepgmaaGreatDoor.Mp Go.Proofs.YtlofiaaacepgmaaGreatDoor.TrP Go.Proofs.YtlofiaaacepgmaaGreatDoor.TrQ Go.Proofs.YtlofiaaacepgmaaGreatDoor.RtP Go.Proofs.YtlofiaaacepgmaaGreatDoor.RtQ Go.Proofs.YtlofiaaacepgmaaGreatDoor.RtA Go.Proofs.YtlofiaaacepgmaaGreatDoor.RtM Go.Proofs.YtlofiaaacepgmaaGreatDoor.RtB Go.Proofs.YtlofiaaacepgmaaGreatDoor.RtC Go.Proofs.YtlofiaaacepgmaaGreatDoor.RtD Go.Proofs.YtlofiaaacepgmaaGreatDoor.RtE Go.Proofs.YtlofiaaacepgmaaGreatDoor.RtT Go.Proofs.YtlofiaaacepgmaaGreatDoor.RtV Go.Proofs.YtlofiaaacepgmaaGreatDoor.RtW

def chapO : Obj := .cells (rsV chap).toArray 40 (0, 0)
theorem chap_row {W w : World} {R : Asn} (h : St W w R) : St W (w.alloc chapO) (star (Row 40 4 (.slice (some ⟨w.heap.size, 0, none⟩) 5 5) 5 (rsV chap)) R) :=
  St.mkRow (h.alloc _) (Nat.le_refl _) (by unfold maxLen; omega) rfl rfl
set_option maxRecDepth 100000 in
theorem routes_any {W w : World} {R : Asn} (h : St W w R) : Calls Tryz.prog 13 #[] w fun e w' => e = .returned (.slice (some ⟨w.heap.size, 0, none⟩) 5 5) ∧ St W w' (star (Row 40 4 (.slice (some ⟨w.heap.size, 0, none⟩) 5 5) 5 (rsV chap)) R) := by
  have h1 := Lib.hid (chap_row h)
  clear h
  go_enter Tryz.func13, Tryz.ntmps13
  go_wp2
  go_ret
  exact ⟨rfl, h1.out⟩
set_option maxRecDepth 100000 in
theorem Routes_any {W w : World} {R : Asn} (rp : Nat) (l : List Rt) (es : RE) (hl : l.length ≤ 1000) (h : St W w (star (IsRt rp l es) R)) : Calls Tryz.prog 11 #[.pointer (some ⟨rp, 0, none⟩)] w fun e w' => ∃ a c, e = .returned (.slice a l.length c) ∧ St W w' (star (IsRt rp l es) R) := by
  obtain ⟨tp, lv, E, hpe, h0⟩ := St.isRt h
  obtain ⟨_, la, lc, rfl, _⟩ := _root_.id h0.right.rowSl
  have c0 := h0.cell 0 (v := .slice la l.length lc) rfl
  have HC := Lib.hid (CloneR_any la l.length lc l rfl (by omega) h h0.right.rowSl)
  clear h h0
  go_enter Tryz.func11, Tryz.ntmps11
  go_wp2_with fail
  refine HC.out.mono ?_
  rintro e w1 ⟨v, rfl, h1⟩
  obtain ⟨_, va, vc, rfl, _⟩ := _root_.id h1.rowSl
  go_wp2
  go_ret
  exact ⟨_, _, rfl, h1.right⟩
set_option maxRecDepth 100000 in
theorem Routes_nil (w : World) : Calls Tryz.prog 11 #[.pointer none] w (Makes w (.slice none 0 0)) := by
  go_enter Tryz.func11, Tryz.ntmps11
  go_wp2
  go_ret
  exact Makes.mk0 _ _
set_option maxRecDepth 100000 in
set_option maxHeartbeats 4000000 in
theorem Serve_nil (w : World) (qm qp qq : Tx) (qv : Int) (fa : Option Addr) (fn fc : Nat) (qb : Tx) (qc : Bool) :
    Calls Tryz.prog 9 #[.pointer none, .agg #[kS qm, kS qp, kS qq, .int .i64 qv, .slice fa fn fc, kS qb, .bool qc]] w (Makes w (.tuple #[.agg #[.int .i64 404, .slice none 0 0, .string ⟨#[110, 111, 116, 32, 102, 111, 117, 110, 100]⟩], .int .i64 0])) := by
  have hf := ((St.start w).alloc (.cells #[kS qm, kS qp, kS qq, .int .i64 qv, .slice fa fn fc, kS qb, .bool qc] 24 (0, 0))).alloc (.cells #[.int .i64 404, .slice none 0 0, .string ⟨#[110, 111, 116, 32, 102, 111, 117, 110, 100]⟩] 29 (0, 0))
  go_enter Tryz.func9, Tryz.ntmps9
  go_wp2
  exact bodyPost_ret (v := .tuple #[.agg #[.int .i64 404, .slice none 0 0, .string ⟨#[110, 111, 116, 32, 102, 111, 117, 110, 100]⟩], .int .i64 0]) (by simp [results, Tryz.results9, go_sem]) rfl ⟨rfl, hf.below⟩
theorem sv_one {W w' : World} {rp : Nat} {l : List Rt} {es : RE} {x : Rep × Int} {R : Asn} {e : Ending} {n k : Int} {t : Tx} {f : Tx × Tx} (hx : x = ((n, [f], t), k)) (h : SvPst W rp l es x R e w') :
    ∃ a c, e = .returned (.tuple #[.agg #[.int .i64 n, .slice a 1 c, kS t], .int .i64 k]) ∧ St W w' (star (Row 43 2 (.slice a 1 c) 1 (fldV [f])) (star (IsRt rp l es) R)) := by subst hx; exact h
theorem sv_zero {W w' : World} {rp : Nat} {l : List Rt} {es : RE} {x : Rep × Int} {R : Asn} {e : Ending} {n k : Int} {t : Tx} (hx : x = ((n, [], t), k)) (h : SvPst W rp l es x R e w') :
    ∃ a c, e = .returned (.tuple #[.agg #[.int .i64 n, .slice a 0 c, kS t], .int .i64 k]) ∧ St W w' (star (Row 43 2 (.slice a 0 c) 0 (fldV [])) (star (IsRt rp l es) R)) := by subst hx; exact h
set_option maxRecDepth 100000 in
set_option maxHeartbeats 8000000 in
theorem wakes_any {W w : World} {R : Asn} (hMx : TrS.MaxLen W) (hMp : PathT.MaxLen W) (h : St W w R) : Calls Tryz.prog 8 #[] w (Law W R) := by
  have HM := Lib.hid hMx
  have HMp := Lib.hid hMp
  have HRo := Lib.hid (routes_any h)
  have HRo2 := Lib.hid fun (w : World) (A : Asn) (h : St W w A) => routes_any h
  clear hMx hMp h
  go_enter Tryz.func8, Tryz.ntmps8
  go_wp2_with fail
  refine HRo.out.mono ?_
  rintro e w1 ⟨rfl, h1⟩
  have HNw := Lib.hid (New_any _ 5 5 chap rfl (by omega) h1 h1.rowSl HM.out (fun r hr => by have := chap_len r hr; omega))
  clear HRo
  go_wp2_with fail
  refine HNw.out.mono ?_
  rintro e w2 (⟨h0, -, -⟩ | ⟨-, rp, rfl, h2⟩)
  · exact absurd (show newN chap = 0 from by unfold newN; rw [if_neg (by decide)]; exact chap_ok) h0
  have h2 : St W w2 (star (IsRt rp chap ces) (star (Row 40 4 (.slice (some ⟨w.heap.size, 0, none⟩) 5 5) 5 (rsV chap)) R)) := h2
  have HS1 := Lib.hid (Serve_any rp chap ces h2 chap_ri (by decide) chap_len HM.out HMp.out [71, 69, 84] [47, 97, 47, 122] [] 0 none 0 0 [] false (by decide) |>.mono fun e w h => sv_zero chap_a h)
  clear HNw h1
  go_wp2_with fail
  refine HS1.out.mono ?_
  rintro e w3 ⟨a3, c3, rfl, h3⟩
  have h3 : St W w3 (star (IsRt rp chap ces) (star (Row 40 4 (.slice (some ⟨w.heap.size, 0, none⟩) 5 5) 5 (rsV chap)) R)) := h3.right
  clear HS1 h2
  have h4 := h3.alloc (.cells #[.int .i64 200, .slice a3 0 c3, kS [120, 61, 122, 10]] 29 (0, 0))
  obtain ⟨rb, hrb⟩ : ∃ z, w3.heap.size = z := ⟨_, rfl⟩
  rw [hrb] at h4
  have HS2 := Lib.hid (Serve_any rp chap ces h4.swap chap_ri (by decide) chap_len HM.out HMp.out [80, 79, 83, 84] [47, 97, 47, 98] [] 0 none 0 0 [] false (by decide) |>.mono fun e w h => sv_one chap_b h)
  go_wp2_with fail
  refine HS2.out.mono ?_
  rintro e w5 ⟨a5, c5, rfl, h5⟩
  obtain ⟨ab, ao, rfl, hef⟩ := elF_all h5.rowSl (i := 0) (x := (tAllow, [71, 69, 84, 44, 32, 72, 69, 65, 68])) rfl
  clear HS2 h4 h3 hrb
  have h6 := h5.alloc (.cells #[.int .i64 405, .slice (some ⟨ab, ao, none⟩) 1 c5, kS tNoM] 29 (0, 0))
  obtain ⟨sb, hsb⟩ : ∃ z, w5.heap.size = z := ⟨_, rfl⟩
  rw [hsb] at h6
  go_upto_region 6 with fail
  clear hsb
  have hx6 := (hef _ _ ((St.start w5).alloc (.cells #[.int .i64 405, .slice (some ⟨ab, ao, none⟩) 1 c5, kS tNoM] 29 (0, 0)))).2
  generalize w5.alloc (.cells #[.int .i64 405, .slice (some ⟨ab, ao, none⟩) 1 c5, kS tNoM] 29 (0, 0)) = w6 at *
  have f1 : w6.cell? ⟨ab, ao + 1, none⟩ = some (kS [71, 69, 84, 44, 32, 72, 69, 65, 68]) := by simpa using hx6
  have s0 := h6.cell 0 (v := .int .i64 405) rfl
  have s1 := h6.cell 1 (v := .slice (some ⟨ab, ao, none⟩) 1 c5) rfl
  have r0 := h6.right.right.right.cell 0 (v := .int .i64 200) rfl
  have r2 := h6.right.right.right.cell 2 (v := kS [120, 61, 122, 10]) rfl
  have hc5 : 1 ≤ c5 := by obtain ⟨_, _, _, hv, h1, h2, _⟩ := h6.right.rowSl; cases hv; exact h1
  have HR3 := Lib.hid (HRo2.out _ _ h6)
  obtain ⟨gb, hgb⟩ : ∃ z, w6.heap.size = z := ⟨_, rfl⟩
  rw [hgb] at HR3
  clear hef hx6 h5
  go_wp2_with fail
  refine HR3.out.mono ?_
  rintro e w7 ⟨rfl, h7⟩
  clear HR3 hgb f1 s0 s1 r0 r2
  obtain ⟨_, _, he, hel⟩ := elR h7.rowSl (i := 0) (x := ⟨[71, 69, 84], [47], 1, [104, 111, 109, 101]⟩) rfl
  cases he
  have hel := hel _ _ (St.start w7)
  have e0 : w7.cell? ⟨gb, 0, none⟩ = some (kS [71, 69, 84]) := by simpa using hel.1
  have e1 : w7.cell? ⟨gb, 1, none⟩ = some (kS [47]) := by simpa using hel.2.1
  have e2 : w7.cell? ⟨gb, 2, none⟩ = some (.int .i64 1) := by simpa using hel.2.2.1
  have e3 : w7.cell? ⟨gb, 3, none⟩ = some (kS [104, 111, 109, 101]) := by simpa using hel.2.2.2
  have HRi := Lib.hid (Right_any (W := w7) ⟨[71, 69, 84], [47], 1, [104, 111, 109, 101]⟩ (by decide) (by decide) (HM.out.st h7))
  rw [show right ⟨[71, 69, 84], [47], 1, [104, 111, 109, 101]⟩ = true from by decide +kernel] at HRi
  clear hel h6
  go_wp2_with fail
  refine HRi.out.mono ?_
  rintro e w8 hq8
  have h8 := h7.makes hq8
  obtain ⟨rfl, -⟩ := hq8
  have HRs := Lib.hid (Routes_any rp chap ces (by decide) (h8.eq (B := star (IsRt rp chap ces) (star (Row 40 4 (.slice (some ⟨gb, 0, none⟩) 5 5) 5 (rsV chap)) (star (pt sb (.cells #[.int .i64 405, .slice (some ⟨ab, ao, none⟩) 1 c5, kS tNoM] 29 (0, 0))) (star (Row 43 2 (.slice (some ⟨ab, ao, none⟩) 1 c5) 1 (fldV [(tAllow, [71, 69, 84, 44, 32, 72, 69, 65, 68])])) (star (pt rb (.cells #[.int .i64 200, .slice a3 0 c3, kS [120, 61, 122, 10]] 29 (0, 0))) (star (Row 40 4 (.slice (some ⟨w.heap.size, 0, none⟩) 5 5) 5 (rsV chap)) R)))))) (by ac_rfl)))
  clear h7 HRi e0 e1 e2 e3
  go_wp2_with fail
  refine HRs.out.mono ?_
  rintro e w9 ⟨a9, c9, rfl, h9⟩
  go_wp2
  go_ret
  exact ⟨rfl, h9.right.right.right.right.right.right⟩
end Go.Proofs.YtlofiaaacepgmaaGreatDoor.RtX
namespace Go.Proofs.YtlofiaaacepgmaaGreatDoor.RtG
open Go Go.RowKit Go.Proofs Go.Proofs.YtlofiaaacepgmaaGreatDoor.Sep Go.Proofs.YtlofiaaacepgmaaGreatDoor.Reg Go.Proofs.YtlofiaaacepgmaaGreatDoor.Frame Go.Proofs.YtlofiaaacepgmaaGreatDoor.Strs Go.Proofs.YtlofiaaacepgmaaGreatDoor.Mp Go.Proofs.YtlofiaaacepgmaaGreatDoor.TrP Go.Proofs.YtlofiaaacepgmaaGreatDoor.TrQ Go.Proofs.YtlofiaaacepgmaaGreatDoor.RtP Go.Proofs.YtlofiaaacepgmaaGreatDoor.RtQ Go.Proofs.YtlofiaaacepgmaaGreatDoor.RtA Go.Proofs.YtlofiaaacepgmaaGreatDoor.RtC Go.Proofs.YtlofiaaacepgmaaGreatDoor.RtV Go.Proofs.YtlofiaaacepgmaaGreatDoor.RtW Go.Proofs.YtlofiaaacepgmaaGreatDoor.RtX

section
variable {P : Program} {H : Type} {enc : TypeId × Value → H} {w : World} {base : Nat} {spare : Nat → Bool} {held : Bool}
theorem trod_struct7 {t : TypeId} {f0 f1 f2 f3 f4 f5 f6 : Field} {fuel : Nat} {cs : List Value} {x : DataW H × List MemPlace} (ht : P.underlying t = some (.struct #[f0, f1, f2, f3, f4, f5, f6])) (h : DataW.trod enc P w base spare held fuel t cs = some x) :
    ∃ y0 y1 y2 y3 y4 y5 y6 n, cs.length = P.cellsOf t ∧ DataW.trod enc P w base spare held n f0.type ((cs.drop f0.offset).take (P.cellsOf f0.type)) = some y0 ∧
      DataW.trod enc P w base spare held n f1.type ((cs.drop f1.offset).take (P.cellsOf f1.type)) = some y1 ∧ DataW.trod enc P w base spare held n f2.type ((cs.drop f2.offset).take (P.cellsOf f2.type)) = some y2 ∧
      DataW.trod enc P w base spare held n f3.type ((cs.drop f3.offset).take (P.cellsOf f3.type)) = some y3 ∧ DataW.trod enc P w base spare held n f4.type ((cs.drop f4.offset).take (P.cellsOf f4.type)) = some y4 ∧
      DataW.trod enc P w base spare held n f5.type ((cs.drop f5.offset).take (P.cellsOf f5.type)) = some y5 ∧ DataW.trod enc P w base spare held n f6.type ((cs.drop f6.offset).take (P.cellsOf f6.type)) = some y6 := by
  obtain ⟨xs, n, _, rfl, hl, hlen, hf⟩ := DataW.trod_struct ht h
  match xs, hlen with
  | [y0, y1, y2, y3, y4, y5, y6], _ => exact ⟨y0, y1, y2, y3, y4, y5, y6, n, hl, by simpa using hf 0 f0 rfl, by simpa using hf 1 f1 rfl, by simpa using hf 2 f2 rfl, by simpa using hf 3 f3 rfl, by simpa using hf 4 f4 rfl, by simpa using hf 5 f5 rfl, by simpa using hf 6 f6 rfl⟩
theorem list7 {cs : List Value} (h : cs.length = 7) : ∃ a b c d e f g, cs = [a, b, c, d, e, f, g] := by
  match cs, h with
  | [a, b, c, d, e, f, g], _ => exact ⟨a, b, c, d, e, f, g, rfl⟩
theorem list4 {cs : List Value} (h : cs.length = 4) : ∃ a b c d, cs = [a, b, c, d] := by
  match cs, h with
  | [a, b, c, d], _ => exact ⟨a, b, c, d, rfl⟩
end
namespace ReqC
structure T where
  m : Tx
  p : Tx
  q : Tx
  v : Int
  fa : Option Addr
  fn : Nat
  fc : Nat
  b : Tx
  c : Bool
def E (x : T) : List Value := [.string ⟨x.m.toArray⟩, .string ⟨x.p.toArray⟩, .string ⟨x.q.toArray⟩, .int .i64 x.v, .slice x.fa x.fn x.fc, .string ⟨x.b.toArray⟩, .bool x.c]
def Ok (x : T) : Prop := x.m.length ≤ maxLen ∧ x.p.length ≤ maxLen ∧ x.b.length ≤ maxLen
set_option maxRecDepth 100000 in
theorem dec {H : Type} {enc : TypeId × Value → H} {w : World} {base : Nat} {spare : Nat → Bool} {held : Bool} {n : Nat} {cs : List Value} {y : DataW H × List MemPlace} {d : TypeDesc} (_ : Tryz.prog.underlying 24 = some d)
    (h : DataW.trod enc Tryz.prog w base spare held n 24 cs = some y) : ∃ x, cs = E x ∧ Ok x := by
  obtain ⟨y0, y1, y2, y3, y4, y5, y6, m, hl, h0, h1, h2, h3, h4, h5, h6⟩ := trod_struct7 Tryz.underlying24 h
  rw [show Tryz.prog.cellsOf 24 = 7 by kernel_rfl] at hl
  have ci : Tryz.prog.cellsOf 3 = 1 := by kernel_rfl
  have cs1 : Tryz.prog.cellsOf 9 = 1 := by kernel_rfl
  have cl : Tryz.prog.cellsOf 22 = 1 := by kernel_rfl
  have cb : Tryz.prog.cellsOf 4 = 1 := by kernel_rfl
  obtain ⟨a, b, c, e, f, g, k, rfl⟩ := list7 hl
  simp only [ci, cs1, cl, cb] at h0 h1 h2 h3 h4 h5 h6
  obtain ⟨x0, e0, w0⟩ := string_in Tryz.underlying9 h0
  obtain ⟨x1, e1, w1⟩ := string_in Tryz.underlying9 h1
  obtain ⟨x2, e2, w2⟩ := string_in Tryz.underlying9 h2
  obtain ⟨x3, e3, w3⟩ := int_in Tryz.underlying3 h3
  obtain ⟨fa, fn, fc, e4⟩ : ∃ fa fn fc, f = .slice fa fn fc := by
    rcases Deep.open_slice Tryz.underlying22 h4 with ⟨hv, _⟩ | ⟨ad, l, c, m, n, D, Pl, hv, _⟩
    · simp at hv; exact ⟨_, _, _, hv⟩
    · simp at hv; exact ⟨_, _, _, hv⟩
  obtain ⟨x5, e5, w5⟩ := string_in Tryz.underlying9 h5
  obtain ⟨x6, e6, -⟩ := bool_in Tryz.underlying4 h6
  simp at e0 e1 e2 e3 e5 e6
  subst e0; subst e1; subst e2; subst e3; subst e4; subst e5; subst e6
  exact ⟨⟨x0, x1, x2, x3, fa, fn, fc, x5, x6⟩, rfl, w0, w1, w5⟩
end ReqC
namespace RouteC
def E (x : Rt) : List Value := rE x
def Ok (x : Rt) : Prop := x.m.length ≤ maxLen ∧ x.p.length ≤ maxLen ∧ x.t.length ≤ maxLen
theorem len (x : Rt) : (E x).length = 4 := rfl
set_option maxRecDepth 100000 in
theorem dec {H : Type} {enc : TypeId × Value → H} {w : World} {base : Nat} {spare : Nat → Bool} {held : Bool} {n : Nat} {cs : List Value} {y : DataW H × List MemPlace} {d : TypeDesc} (_ : Tryz.prog.underlying 40 = some d)
    (h : DataW.trod enc Tryz.prog w base spare held n 40 cs = some y) : ∃ x, cs = E x ∧ Ok x := by
  obtain ⟨y0, y1, y2, y3, m, -, hl, h0, h1, h2, h3⟩ := Go.Joins.trod_struct4 Tryz.underlying40 h
  rw [show Tryz.prog.cellsOf 40 = 4 by kernel_rfl] at hl
  have ci : Tryz.prog.cellsOf 3 = 1 := by kernel_rfl
  have cs1 : Tryz.prog.cellsOf 9 = 1 := by kernel_rfl
  obtain ⟨a, b, c, e, rfl⟩ := list4 hl
  simp only [ci, cs1] at h0 h1 h2 h3
  obtain ⟨x0, e0, w0⟩ := string_in Tryz.underlying9 h0
  obtain ⟨x1, e1, w1⟩ := string_in Tryz.underlying9 h1
  obtain ⟨x2, e2, w2⟩ := int_in Tryz.underlying3 h2
  obtain ⟨x3, e3, w3⟩ := string_in Tryz.underlying9 h3
  simp at e0 e1 e2 e3
  subst e0; subst e1; subst e2; subst e3
  exact ⟨⟨x0, x1, x2, x3⟩, rfl, w0, w1, w3⟩
end RouteC
/-- Great: either way; not, only where all is small. -/
def GPost (w : World) (l : List Rt) (x : ReqC.T) (e : Ending) (w' : World) : Prop :=
  ∃ b, Makes w (.bool b) e w' ∧ (b = false → l.length ≤ 40 ∧ x.p.length ≤ 300 ∧ x.b.length ≤ 3000 ∧ x.m.length ≤ 200 ∧ ∀ y ∈ l, y.m.length ≤ 200 ∧ y.p.length ≤ 200 ∧ y.t.length ≤ 5000)
set_option maxRecDepth 100000 in
set_option maxHeartbeats 8000000 in
theorem Great_any (a : Option Addr) (n c : Nat) (l : List Rt) (hn : l.length = n) (w : World) (hsl : Sl w 4 (.slice a n c) n (rsV l)) (x : ReqC.T) :
    Calls Tryz.prog 7 #[.slice a n c, .agg #[kS x.m, kS x.p, kS x.q, .int .i64 x.v, .slice x.fa x.fn x.fc, kS x.b, .bool x.c]] w (GPost w l x) := by
  have HN := Lib.hid hn
  have HSL := Lib.hid hsl
  have h0 := (St.start w).alloc (.cells #[kS x.m, kS x.p, kS x.q, .int .i64 x.v, .slice x.fa x.fn x.fc, kS x.b, .bool x.c] 24 (0, 0))
  clear hn hsl
  by_cases g0 : 40 < n
  · have d0 : decide ((40 : Int) < ((n : Nat) : Int)) = true := decide_eq_true (by omega)
    clear g0
    go_enter Tryz.func7, Tryz.ntmps7
    go_wp2
    go_ret
    exact ⟨true, ⟨rfl, h0.below⟩, fun h => by cases h⟩
  have d0 : decide ((40 : Int) < ((n : Nat) : Int)) = false := decide_eq_false (by omega)
  by_cases g1 : 300 < x.p.length
  · have d1 : decide ((300 : Int) < ((x.p.length : Nat) : Int)) = true := decide_eq_true (by omega)
    clear g1
    go_enter Tryz.func7, Tryz.ntmps7
    go_wp2
    go_ret
    exact ⟨true, ⟨rfl, h0.below⟩, fun h => by cases h⟩
  have d1 : decide ((300 : Int) < ((x.p.length : Nat) : Int)) = false := decide_eq_false (by omega)
  by_cases g2 : 3000 < x.b.length
  · have d2 : decide ((3000 : Int) < ((x.b.length : Nat) : Int)) = true := decide_eq_true (by omega)
    clear g2
    go_enter Tryz.func7, Tryz.ntmps7
    go_wp2
    go_ret
    exact ⟨true, ⟨rfl, h0.below⟩, fun h => by cases h⟩
  have d2 : decide ((3000 : Int) < ((x.b.length : Nat) : Int)) = false := decide_eq_false (by omega)
  by_cases g3 : 200 < x.m.length
  · have d3 : decide ((200 : Int) < ((x.m.length : Nat) : Int)) = true := decide_eq_true (by omega)
    clear g3
    go_enter Tryz.func7, Tryz.ntmps7
    go_wp2
    go_ret
    exact ⟨true, ⟨rfl, h0.below⟩, fun h => by cases h⟩
  have d3 : decide ((200 : Int) < ((x.m.length : Nat) : Int)) = false := decide_eq_false (by omega)
  have HG : Hid (n ≤ 40 ∧ x.p.length ≤ 300 ∧ x.b.length ≤ 3000 ∧ x.m.length ≤ 200) := Lib.hid (by omega)
  clear g0 g1 g2 g3
  have hle40 : n ≤ 40 := HG.out.1
  go_enter Tryz.func7, Tryz.ntmps7
  go_wp2_with fail
  go_loopw [5] (fun iv wr => ∃ i : Nat, i ≤ n ∧ iv = .int .i64 i ∧ Hid (∀ y ∈ l.take i, y.m.length ≤ 200 ∧ y.p.length ≤ 200 ∧ y.t.length ≤ 5000) ∧ St w wr (star (pt w.heap.size (.cells #[kS x.m, kS x.p, kS x.q, .int .i64 x.v, .slice x.fa x.fn x.fc, kS x.b, .bool x.c] 24 (0, 0))) emp)) (fun iv _ => n - (intOf iv).toNat)
  case atStart => exact ⟨0, Nat.zero_le _, rfl, Lib.hid (by simp), h0⟩
  case round =>
    obtain ⟨i, hi, rfl, HT, hS⟩ := hrel
    clear h0
    by_cases hin : i < n
    · obtain ⟨y, hy⟩ : ∃ y, l[i]? = some y := ⟨_, List.getElem?_eq_getElem (by rw [HN.out]; exact hin)⟩
      obtain ⟨ab, ao, rfl, hel⟩ := elR HSL.out hy
      obtain ⟨e0, e1, e2, e3⟩ := hel _ _ hS
      have hinI : (i : Int) < n := by omega
      have HY := Lib.hid hy
      clear hel hy d0 d1 d2 d3
      by_cases q0 : 200 < y.m.length
      · have k0 : decide ((200 : Int) < ((y.m.length : Nat) : Int)) = true := decide_eq_true (by omega)
        clear q0
        go_wp2
        go_ret
        exact ⟨true, ⟨rfl, hS.below⟩, fun h => by cases h⟩
      have k0 : decide ((200 : Int) < ((y.m.length : Nat) : Int)) = false := decide_eq_false (by omega)
      by_cases q1 : 200 < y.p.length
      · have k1 : decide ((200 : Int) < ((y.p.length : Nat) : Int)) = true := decide_eq_true (by omega)
        clear q1
        go_wp2
        go_ret
        exact ⟨true, ⟨rfl, hS.below⟩, fun h => by cases h⟩
      have k1 : decide ((200 : Int) < ((y.p.length : Nat) : Int)) = false := decide_eq_false (by omega)
      by_cases q2 : 5000 < y.t.length
      · have k2 : decide ((5000 : Int) < ((y.t.length : Nat) : Int)) = true := decide_eq_true (by omega)
        clear q2
        go_wp2
        go_ret
        exact ⟨true, ⟨rfl, hS.below⟩, fun h => by cases h⟩
      have k2 : decide ((5000 : Int) < ((y.t.length : Nat) : Int)) = false := decide_eq_false (by omega)
      have HT2 : Hid (∀ z ∈ l.take (i + 1), z.m.length ≤ 200 ∧ z.p.length ≤ 200 ∧ z.t.length ≤ 5000) := Lib.hid (by
        intro z hz
        rw [List.take_add_one, HY.out] at hz
        rcases List.mem_append.1 hz with h | h
        · exact HT.out z h
        · simp at h; subst h; omega)
      clear q0 q1 q2
      go_wp2_with fail
      exact ⟨⟨i + 1, hin, by go_num, HT2, hS⟩, by simp [intOf]; omega⟩
    · obtain rfl : n = i := by omega
      clear d0 d1 d2 d3
      go_wp2_with fail
      go_ret
      exact ⟨false, ⟨rfl, hS.below⟩, fun _ => ⟨by rw [HN.out]; exact HG.out.1, HG.out.2.1, HG.out.2.2.1, HG.out.2.2.2, fun y hy => HT.out y (by rw [List.take_of_length_le (by rw [HN.out]; exact Nat.le_refl _)]; exact hy)⟩⟩
end Go.Proofs.YtlofiaaacepgmaaGreatDoor.RtG
