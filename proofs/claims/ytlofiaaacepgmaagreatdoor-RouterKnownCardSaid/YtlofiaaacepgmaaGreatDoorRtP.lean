/-
  A router, as lists: which routes make one, what it answers; the order of routes turns nothing of that. No program is named here.
-/
import Derived.Test.YtlofiaaacepgmaaGreatDoorTrU
import Derived.Test.YtlofiaaacepgmaaGreatDoorWdP
namespace Go.Proofs.YtlofiaaacepgmaaGreatDoor.RtP
open Go Go.Proofs.YtlofiaaacepgmaaGreatDoor.PathP Go.Proofs.YtlofiaaacepgmaaGreatDoor.Mp Go.Proofs.YtlofiaaacepgmaaGreatDoor.TrP Go.Proofs.YtlofiaaacepgmaaGreatDoor.TrU Go.Proofs.YtlofiaaacepgmaaGreatDoor.WdP

structure Rt where
  m : Tx
  p : Tx
  k : Int
  t : Tx
deriving DecidableEq
abbrev Ms := List (Tx × Rt)
abbrev RE := TrP.Ents Ms
def wGET : Tx := [71, 69, 84]
def wHEAD : Tx := [72, 69, 65, 68]
def right (r : Rt) : Bool := isTok r.m && (splitP r.p).isSome && decide (1 ≤ r.k) && decide (r.k ≤ 4) && !(decide (r.k = 4) && decide (r.m ≠ wGET)) && (decide (r.k = 1 ∧ r.t.length ≤ 4096) || decide (r.t = []))
def compat (r s : Rt) : Prop := (r.p = s.p ∧ r.m ≠ s.m) ∨ (r.p ≠ s.p ∧ keyP r.p ≠ keyP s.p)
theorem compat_symm {r s : Rt} (h : compat r s) : compat s r := h.elim (fun h => .inl ⟨h.1.symm, Ne.symm h.2⟩) (fun h => .inr ⟨Ne.symm h.1, Ne.symm h.2⟩)
/-- The routes of a pattern, by their methods. -/
def rts (l : List Rt) (p : Tx) : Ms := (l.filter (fun r => decide (r.p = p))).map fun r => (r.m, r)
theorem mem_rts {l : List Rt} {p m : Tx} {r : Rt} : (m, r) ∈ rts l p ↔ r ∈ l ∧ r.p = p ∧ r.m = m := by
  unfold rts
  simp only [List.mem_map, List.mem_filter, decide_eq_true_eq, Prod.mk.injEq]
  constructor
  · rintro ⟨s, ⟨h1, h2⟩, h3, rfl⟩; exact ⟨h1, h2, h3⟩
  · rintro ⟨h1, h2, h3⟩; exact ⟨r, ⟨h1, h2⟩, h3, rfl⟩
theorem rts_snoc (l : List Rt) (r : Rt) (p : Tx) : rts (l ++ [r]) p = rts l p ++ (if r.p = p then [(r.m, r)] else []) := by
  unfold rts
  rw [List.filter_append, List.map_append]
  congr 1
  by_cases h : r.p = p <;> simp [h]
theorem rts_nodup {l : List Rt} (h : l.Pairwise compat) (p : Tx) : ((rts l p).map (·.1)).Nodup := by
  unfold rts
  rw [List.map_map]
  have h2 : (l.filter (fun r => decide (r.p = p))).Pairwise fun a b => a.m ≠ b.m := by
    refine (List.Pairwise.filter _ h).imp_of_mem fun {a b} ha hb hc => ?_
    have h1 := of_decide_eq_true (List.mem_filter.1 ha).2
    have h2 := of_decide_eq_true (List.mem_filter.1 hb).2
    rcases hc with hc | hc
    · exact hc.2
    · exact absurd (h1.trans h2.symm) hc.1
  exact List.pairwise_map.2 h2
def addR (es : RE) (r : Rt) : Int × RE :=
  if right r = true then
    match getT es r.p with
    | none => addT es 32 r.p [(r.m, r)]
    | some ms => if (getM r.m ms).isSome = true then (5, es) else (0, (setT es r.p (putM r.m r ms)).2)
  else (1, es)
def newR : RE → List Rt → Int × RE
  | es, [] => (0, es)
  | es, r :: l => if (addR es r).1 = 0 then newR (addR es r).2 l else addR es r
/-- What a router of some routes has. -/
structure RI (es : RE) (l : List Rt) : Prop where
  good : TrP.Good es
  rt : ∀ r ∈ l, right r = true
  pw : l.Pairwise compat
  len : es.length ≤ l.length
  has : ∀ r ∈ l, ∃ v, getM (keyP r.p) es = some v ∧ v.1 = r.p
  ms : ∀ e ∈ es, e.2.2 = rts l e.2.1 ∧ e.2.2 ≠ []
theorem RI.nil : RI [] [] := ⟨TrP.Good.nil, by simp, List.Pairwise.nil, Nat.le_refl _, by simp, by simp⟩
theorem key_eq {p : Tx} {l : List Tx} (h : splitP p = some l) : keysOf l = keyP p := by unfold keyP; rw [h]; rfl
theorem RI.get {es : RE} {l : List Rt} (h : RI es l) {k : List Key} {v : Tx × Ms} (hk : getM k es = some v) : keyP v.1 = k ∧ v.2 = rts l v.1 ∧ ∃ r ∈ l, r.p = v.1 := by
  have h1 := h.ms _ (getM_mem hk)
  obtain ⟨ks, hs, e⟩ := h.good.pat hk
  refine ⟨by rw [e, key_eq hs], h1.1, ?_⟩
  have h2 := h1.2
  rw [h1.1] at h2
  cases e : rts l v.1 with
  | nil => exact absurd e h2
  | cons x xs =>
    obtain ⟨m, r⟩ := x
    have := mem_rts.1 (show (m, r) ∈ rts l v.1 by rw [e]; simp)
    exact ⟨r, this.1, this.2.1⟩
theorem right_split {r : Rt} (h : right r = true) : ∃ ks, splitP r.p = some ks := by
  unfold right at h
  simp only [Bool.and_eq_true] at h
  exact Option.isSome_iff_exists.1 h.1.1.1.1.2
theorem getM_snoc_same {κ α : Type} [DecidableEq κ] {es : List (κ × α)} {k : κ} (h : getM k es = none) (v : α) : getM k (es ++ [(k, v)]) = some v := by
  have : putM k v es = es ++ [(k, v)] := by unfold putM; rw [if_neg (getM_none.1 h)]
  rw [← this, getM_put, if_pos rfl]
/-- A route that fits the others is added. -/
theorem RI.add {es : RE} {l : List Rt} (h : RI es l) (hl : l.length < 32) {r : Rt} (hr : right r = true) (hc : ∀ s ∈ l, compat s r) : (addR es r).1 = 0 ∧ RI (addR es r).2 (l ++ [r]) := by
  obtain ⟨ks, hs⟩ := right_split hr
  have hk := key_eq hs
  have hrt : ∀ s ∈ l ++ [r], right s = true := fun s hs => by
    rcases List.mem_append.1 hs with h1 | h1
    · exact h.rt s h1
    · simp at h1; subst h1; exact hr
  have hpw : (l ++ [r]).Pairwise compat := List.pairwise_append.2 ⟨h.pw, by simp, fun a ha b hb => by simp at hb; subst hb; exact hc a ha⟩
  cases hg : getM (keysOf ks) es with
  | none =>
    have hgt : getT es r.p = none := by unfold getT; rw [hs]; simp only [hg]
    have e : addR es r = (0, es ++ [(keysOf ks, r.p, [(r.m, r)])]) := by
      unfold addR
      rw [if_pos hr, hgt]
      unfold addT
      rw [hs]
      simp only [hg, Option.isSome_none, Bool.false_eq_true, if_false]
      rw [if_neg (by have := h.len; omega)]
    rw [e]
    have hno : ∀ s ∈ l, s.p ≠ r.p := fun s hsl e => by
      obtain ⟨v, hv, -⟩ := h.has s hsl
      rw [e, ← hk, hg] at hv; cases hv
    refine ⟨rfl, h.good.snoc hs hg _, hrt, hpw, by have := h.len; simp; omega, ?_, ?_⟩
    · intro s hsl
      rcases List.mem_append.1 hsl with h1 | h1
      · obtain ⟨v, hv, hp⟩ := h.has s h1
        refine ⟨v, ?_, hp⟩
        rw [getM_snoc _ _ _ (fun e => ?_)]
        · exact hv
        · simp only at e; rw [e, hg] at hv; cases hv
      · simp at h1; subst h1
        exact ⟨_, by rw [← hk]; exact getM_snoc_same hg _, rfl⟩
    · intro x hx
      rcases List.mem_append.1 hx with h1 | h1
      · obtain ⟨h2, h3⟩ := h.ms x h1
        refine ⟨?_, h3⟩
        rw [rts_snoc, if_neg, List.append_nil]
        · exact h2
        · intro e
          obtain ⟨k2, hk2, e2⟩ := h.good.2 x h1
          rw [← e, hs] at hk2
          cases hk2
          have := getM_of_mem h.good.1 (show (x.1, x.2) ∈ es from h1)
          rw [e2, hg] at this; cases this
      · simp at h1; subst h1
        refine ⟨?_, by simp⟩
        rw [rts_snoc, if_pos rfl]
        have : rts l r.p = [] := by
          unfold rts
          rw [List.filter_eq_nil_iff.2 (fun s hsl => by simpa using hno s hsl)]
          rfl
        rw [this]; rfl
  | some v =>
    obtain ⟨h1, h2, s, hsl, hsp⟩ := h.get hg
    have hvp : v.1 = r.p := by
      rcases hc s hsl with ⟨h3, -⟩ | ⟨h3, h4⟩
      · rw [← hsp, h3]
      · exact absurd (by rw [hsp, h1, hk]) h4
    have hgt : getT es r.p = some v.2 := by unfold getT; rw [hs]; simp only [hg, if_pos hvp]
    have hnm : getM r.m v.2 = none := by
      rw [getM_none, h2]
      intro hm
      obtain ⟨⟨m, s2⟩, hx, e⟩ := List.mem_map.1 hm
      simp only at e
      obtain ⟨h5, h6, h7⟩ := mem_rts.1 hx
      rcases hc s2 h5 with ⟨-, h8⟩ | ⟨h8, -⟩
      · exact h8 (h7.trans e)
      · exact h8 (h6.trans hvp)
    have hpm : putM r.m r v.2 = v.2 ++ [(r.m, r)] := by unfold putM; rw [if_neg (getM_none.1 hnm)]
    have e : addR es r = (0, putM (keysOf ks) (r.p, v.2 ++ [(r.m, r)]) es) := by
      unfold addR
      rw [if_pos hr, hgt]
      simp only [hnm, Option.isSome_none, Bool.false_eq_true, if_false]
      unfold setT
      rw [hs]
      simp only [hg, if_pos hvp, hpm]
    rw [e]
    have hkm : keysOf ks ∈ es.map (·.1) := List.mem_map_of_mem (f := (·.1)) (getM_mem hg)
    have hgp : ∀ e ∈ putM (keysOf ks) (r.p, v.2 ++ [(r.m, r)]) es, e = (keysOf ks, r.p, v.2 ++ [(r.m, r)]) ∨ (e ∈ es ∧ e.1 ≠ keysOf ks) := by
      intro x hx
      unfold putM at hx
      rw [if_pos hkm] at hx
      obtain ⟨y, hy, rfl⟩ := List.mem_map.1 hx
      split
      · exact .inl rfl
      · rename_i hne; exact .inr ⟨hy, hne⟩
    refine ⟨rfl, ⟨putM_nodup h.good.1, fun x hx => ?_⟩, hrt, hpw, ?_, ?_, ?_⟩
    · rcases hgp x hx with rfl | ⟨h3, -⟩
      · exact ⟨ks, hs, rfl⟩
      · exact h.good.2 x h3
    · have : (putM (keysOf ks) (r.p, v.2 ++ [(r.m, r)]) es).length = es.length := by unfold putM; rw [if_pos hkm]; simp
      rw [this]; have := h.len; simp; omega
    · intro s2 hs2
      by_cases hke : keyP s2.p = keysOf ks
      · refine ⟨_, by rw [getM_put, if_pos hke], ?_⟩
        rcases List.mem_append.1 hs2 with h3 | h3
        · obtain ⟨v2, hv2, hp2⟩ := h.has s2 h3
          rw [hke, hg] at hv2
          cases hv2
          rw [← hp2, hvp]
        · simp at h3; subst h3; rfl
      · rcases List.mem_append.1 hs2 with h3 | h3
        · obtain ⟨v2, hv2, hp2⟩ := h.has s2 h3
          exact ⟨v2, by rw [getM_put, if_neg hke]; exact hv2, hp2⟩
        · simp at h3; subst h3; exact absurd hk.symm hke
    · intro x hx
      rcases hgp x hx with rfl | ⟨h3, h4⟩
      · refine ⟨?_, by simp⟩
        rw [rts_snoc, if_pos rfl]
        simp only
        rw [h2, hvp]
      · obtain ⟨h5, h6⟩ := h.ms x h3
        refine ⟨?_, h6⟩
        rw [rts_snoc, if_neg, List.append_nil]
        · exact h5
        · intro e
          obtain ⟨k2, hk2, e2⟩ := h.good.2 x h3
          rw [← e, hs] at hk2
          cases hk2
          exact h4 e2
/-- One that does not fit is refused. -/
theorem RI.not {es : RE} {l : List Rt} (h : RI es l) {r : Rt} (h0 : (addR es r).1 = 0) : right r = true ∧ ∀ s ∈ l, compat s r := by
  by_cases hr : right r = true
  · refine ⟨hr, fun s hsl => ?_⟩
    obtain ⟨ks, hs⟩ := right_split hr
    have hk := key_eq hs
    obtain ⟨v, hv, hvp⟩ := h.has s hsl
    by_cases hp : s.p = r.p
    · refine .inl ⟨hp, fun hm => ?_⟩
      rw [hp, ← hk] at hv
      have hgt : getT es r.p = some v.2 := by unfold getT; rw [hs]; simp only [hv, if_pos (hvp.trans hp)]
      unfold addR at h0
      rw [if_pos hr, hgt] at h0
      simp only at h0
      have h2 := (h.get hv).2.1
      have : (getM r.m v.2).isSome = true := by
        cases e : getM r.m v.2 with
        | some x => rfl
        | none =>
          exfalso
          refine getM_none.1 e ?_
          rw [h2]
          exact List.mem_map.2 ⟨(s.m, s), mem_rts.2 ⟨hsl, hvp.symm, rfl⟩, hm⟩
      rw [if_pos this] at h0
      cases h0
    · refine .inr ⟨hp, fun hkk => ?_⟩
      rw [hkk, ← hk] at hv
      have hgt : getT es r.p = none := by unfold getT; rw [hs]; simp only [hv]; rw [if_neg (fun e => hp (hvp.symm.trans e))]
      unfold addR at h0
      rw [if_pos hr, hgt] at h0
      unfold addT at h0
      rw [hs] at h0
      simp only [hv, Option.isSome_some, if_true] at h0
      cases h0
  · unfold addR at h0
    rw [if_neg hr] at h0
    cases h0
theorem RI.more : ∀ {m l : List Rt} {es : RE}, RI es l → l.length + m.length ≤ 32 → ((newR es m).1 = 0 → RI (newR es m).2 (l ++ m)) ∧ ((∀ r ∈ m, right r = true) → (l ++ m).Pairwise compat → (newR es m).1 = 0)
  | [], l, es, h, _ => ⟨fun _ => by rw [List.append_nil]; exact h, fun _ _ => rfl⟩
  | r :: m, l, es, h, hl => by
    rw [List.length_cons] at hl
    refine ⟨fun h0 => ?_, fun hr hp => ?_⟩
    · unfold newR at h0 ⊢
      by_cases ha : (addR es r).1 = 0
      · rw [if_pos ha] at h0 ⊢
        obtain ⟨h1, h2⟩ := h.not ha
        have h3 := (h.add (by omega) h1 h2).2
        have := (RI.more h3 (by simp; omega)).1 h0
        rwa [List.append_assoc] at this
      · rw [if_neg ha] at h0; exact absurd h0 ha
    · have hrr := hr r (by simp)
      have hc : ∀ s ∈ l, compat s r := fun s hs => (List.pairwise_append.1 hp).2.2 s hs r (by simp)
      obtain ⟨h1, h2⟩ := h.add (by omega) hrr hc
      unfold newR
      rw [if_pos h1]
      refine (RI.more h2 (by simp; omega)).2 (fun s hs => hr s (by simp [hs])) ?_
      rw [List.append_assoc]; exact hp
/-- Which routes make a router. -/
def makes (l : List Rt) : Prop := (∀ r ∈ l, right r = true) ∧ l.Pairwise compat
theorem new_ok {l : List Rt} (hl : l.length ≤ 32) : (newR [] l).1 = 0 ↔ makes l :=
  ⟨fun h => by
    have := (RI.more RI.nil (m := l) (by simpa using hl)).1 h
    exact ⟨this.rt, this.pw⟩, fun h => (RI.more RI.nil (m := l) (by simpa using hl)).2 h.1 h.2⟩
theorem new_ri {l : List Rt} (hl : l.length ≤ 32) (h : (newR [] l).1 = 0) : RI (newR [] l).2 l := (RI.more RI.nil (m := l) (by simpa using hl)).1 h
theorem makes_perm {l m : List Rt} (hp : m.Perm l) (h : makes l) : makes m :=
  ⟨fun r hr => h.1 r (hp.mem_iff.1 hr), (hp.pairwise_iff (fun h => compat_symm h)).2 h.2⟩

/-! ### What is answered -/
structure Rq where
  m : Tx
  path : Tx
  body : Tx
abbrev Rep := Int × List (Tx × Tx) × Tx
def ofM (ms : Ms) (m : Tx) : Option Rt := (getM m ms).or (if m = wHEAD then getM wGET ms else none)
def sortS (l : List Tx) : List Tx := l.mergeSort fun x y => decide (x ≤ y)
def headed (l : List Tx) : List Tx := if wGET ∈ l ∧ wHEAD ∉ l then l ++ [wHEAD] else l
def joinC : List Tx → Tx
  | [] => []
  | [x] => x
  | x :: y :: r => x ++ 44 :: 32 :: joinC (y :: r)
def allowM (ms : Ms) : Tx := joinC (sortS (headed (ms.map (·.1))))
def lines (ps : List (Tx × Tx)) : Tx := ps.flatMap fun f => f.1 ++ 61 :: (f.2 ++ [10])
def answers (r : Rt) (body : Tx) (ps : List (Tx × Tx)) : Rep :=
  if r.k = 2 then (200, [], body) else if r.k = 3 then (200, [], lines ps) else if r.k = 4 then (101, [], []) else (200, [], r.t)
def tNot : Tx := [110, 111, 116, 32, 102, 111, 117, 110, 100]
def tBad : Tx := [98, 97, 100, 32, 112, 97, 116, 104]
def tNoM : Tx := [110, 111, 32, 115, 117, 99, 104, 32, 109, 101, 116, 104, 111, 100]
def tAllow : Tx := [65, 108, 108, 111, 119]
def pathOf (s : Tx) : List Tx := if s = [47] then [] else (segs s).getD []
def serveR (es : RE) (q : Rq) : Rep × Int :=
  match segs q.path with
  | none => ((400, [], tBad), 0)
  | some _ => match findT es (pathOf q.path) with
    | none => ((404, [], tNot), 0)
    | some (_, ms, ps) => match ofM ms q.m with
      | none => ((405, [(tAllow, allowM ms)], tNoM), 0)
      | some r => (answers r q.body ps, r.k)
theorem le_antisymm' {a b : Tx} (h1 : a ≤ b) (h2 : b ≤ a) : a = b := List.le_antisymm h1 h2
theorem sortS_perm {l m : List Tx} (h : l.Perm m) : sortS l = sortS m := by
  have tr : ∀ a b c : Tx, decide (a ≤ b) = true → decide (b ≤ c) = true → decide (a ≤ c) = true := by
    intro a b c h1 h2; simp only [decide_eq_true_eq] at *; exact List.le_trans h1 h2
  have tot : ∀ a b : Tx, (decide (a ≤ b) || decide (b ≤ a)) = true := by
    intro a b; simp only [Bool.or_eq_true, decide_eq_true_eq]; exact List.le_total a b
  refine List.Perm.eq_of_pairwise (le := fun a b => decide (a ≤ b) = true) ?_ (List.pairwise_mergeSort tr tot l) (List.pairwise_mergeSort tr tot m) ?_
  · intro a b _ _ h1 h2; simp only [decide_eq_true_eq] at h1 h2; exact List.le_antisymm h1 h2
  · exact ((List.mergeSort_perm l _).trans h).trans (List.mergeSort_perm m _).symm
theorem headed_perm {l m : List Tx} (h : l.Perm m) : (headed l).Perm (headed m) := by
  unfold headed
  by_cases hc : wGET ∈ l ∧ wHEAD ∉ l
  · rw [if_pos hc, if_pos ⟨h.mem_iff.1 hc.1, fun h2 => hc.2 (h.mem_iff.2 h2)⟩]
    exact h.append_right _
  · rw [if_neg hc, if_neg (fun h2 => hc ⟨h.mem_iff.2 h2.1, fun h3 => h2.2 (h.mem_iff.1 h3)⟩)]
    exact h
theorem allow_perm {a b : Ms} (h : a.Perm b) : allowM a = allowM b := by
  unfold allowM
  rw [sortS_perm (headed_perm (h.map (·.1)))]
theorem of_perm {a b : Ms} (h : a.Perm b) (hn : (b.map (·.1)).Nodup) (m : Tx) : ofM a m = ofM b m := by
  unfold ofM
  rw [getM_perm h hn m, getM_perm h hn wGET]
/-- The order of routes turns nothing of what is answered. -/
theorem serve_perm {es fs : RE} {l m : List Rt} (h : RI es l) (k : RI fs m) (hp : m.Perm l) (q : Rq) : serveR fs q = serveR es q := by
  have hkey : ∀ ks, (getM ks fs).isSome = (getM ks es).isSome := by
    intro ks
    rw [Bool.eq_iff_iff]
    constructor
    · intro h1
      obtain ⟨v, hv⟩ := Option.isSome_iff_exists.1 h1
      obtain ⟨h2, -, r, hr, hrp⟩ := k.get hv
      obtain ⟨v2, hv2, -⟩ := h.has r (hp.mem_iff.1 hr)
      rw [hrp, h2] at hv2
      rw [hv2]; rfl
    · intro h1
      obtain ⟨v, hv⟩ := Option.isSome_iff_exists.1 h1
      obtain ⟨h2, -, r, hr, hrp⟩ := h.get hv
      obtain ⟨v2, hv2, -⟩ := k.has r (hp.mem_iff.2 hr)
      rw [hrp, h2] at hv2
      rw [hv2]; rfl
  unfold serveR
  cases hsg : segs q.path with
  | none => rfl
  | some _ =>
    simp only
    unfold findT
    rw [best_congr fs es hkey]
    cases hb : bestE es [] (pathOf q.path) with
    | none => rfl
    | some ks =>
      simp only
      cases hv : getM ks es with
      | none =>
        have := hkey ks
        rw [hv] at this
        cases hv2 : getM ks fs with
        | none => rfl
        | some v => rw [hv2] at this; cases this
      | some v =>
        have hs2 := hkey ks
        rw [hv] at hs2
        obtain ⟨v2, hv2⟩ := Option.isSome_iff_exists.1 hs2
        rw [hv2]
        obtain ⟨e1, e2, r, hr, hrp⟩ := h.get hv
        obtain ⟨f1, f2, -⟩ := k.get hv2
        obtain ⟨v3, hv3, e3⟩ := k.has r (hp.mem_iff.2 hr)
        rw [hrp, e1, hv2] at hv3
        cases hv3
        have hpp : v2.1 = v.1 := e3.trans hrp
        have hpm : (v2.2).Perm v.2 := by
          rw [e2, f2, hpp]
          unfold rts
          exact (hp.filter _).map _
        have hnd : (v.2.map (·.1)).Nodup := by rw [e2]; exact rts_nodup h.pw _
        simp only [hpp]
        rw [of_perm hpm hnd]
        cases ofM v.2 q.m with
        | none => simp only [allow_perm hpm]
        | some r => rfl
end Go.Proofs.YtlofiaaacepgmaaGreatDoor.RtP
