/-
  Tries in memory: nodes in a bag, which one is reached by which keys; how that turns as a node grows and as it takes a pattern. No program is named here.
-/
import Derived.Test.YtlofiaaacepgmaaGreatDoorTrP
import Derived.Test.YtlofiaaacepgmaaGreatDoorStrs
namespace Go.Proofs.YtlofiaaacepgmaaGreatDoor.TrM
open Go Go.RowKit Go.Proofs Go.Proofs.YtlofiaaacepgmaaGreatDoor.Sep Go.Proofs.YtlofiaaacepgmaaGreatDoor.Frame Go.Proofs.YtlofiaaacepgmaaGreatDoor.Mp Go.Proofs.YtlofiaaacepgmaaGreatDoor.TrP

def pV (o : Option Nat) : Value := .pointer (o.map fun b => ⟨b, 0, none⟩)
theorem pV_none : pV none = .pointer none := rfl
theorem pV_some (b : Nat) : pV (some b) = .pointer (some ⟨b, 0, none⟩) := rfl
def kS (t : Tx) : Value := .string ⟨t.toArray⟩
theorem cS : KeyC .string kS := keyC_str
structure Nd where
  lb : Option Nat
  lit : List (Tx × Nat)
  par : Option Nat
  rst : Option Nat
  pat : Tx
  x : Value
def child (nd : Nd) : Key → Option Nat
  | .lit s => getM s nd.lit
  | .par => nd.par
  | .rst => nd.rst
def litV (l : List (Tx × Nat)) : List (Tx × Value) := l.map fun e => (e.1, pV (some e.2))
def litA : Option Nat → List (Tx × Nat) → Asn
  | none, l => pu (l = [])
  | some b, l => Mp kS b (litV l)
def ndC (nd : Nd) : Array Value := #[.map nd.lb, pV nd.par, pV nd.rst, kS nd.pat, nd.x]
def NdA (nt : TypeId) (p : Nat) (nd : Nd) : Asn := star (pt p (.cells (ndC nd) nt (0, 0))) (litA nd.lb nd.lit)
abbrev Bag := List (Nat × Nd)
def Nds (nt : TypeId) : Bag → Asn
  | [] => emp
  | e :: F => star (NdA nt e.1 e.2) (Nds nt F)

theorem litV_get (l : List (Tx × Nat)) (s : Tx) : (getM s (litV l)).getD (.pointer none) = pV (getM s l) := by
  induction l with
  | nil => rfl
  | cons e l ih =>
    unfold litV at ih ⊢
    rw [List.map_cons, getM_cons, getM_cons]
    split
    · rfl
    · exact ih
theorem litV_put (l : List (Tx × Nat)) (s : Tx) (q : Nat) : putM s (pV (some q)) (litV l) = litV (putM s q l) := by
  have hk : (litV l).map (·.1) = l.map (·.1) := by unfold litV; rw [List.map_map]; rfl
  unfold putM
  rw [hk]
  split
  · unfold litV
    rw [List.map_map, List.map_map]
    refine List.map_congr_left fun e _ => ?_
    simp only [Function.comp]
    split <;> rfl
  · simp [litV]

section
variable {nt : TypeId} {F : Bag} {p : Nat} {nd : Nd}
theorem delM_cons_eq {κ α : Type} [DecidableEq κ] (k : κ) (v : α) (es : List (κ × α)) : delM k ((k, v) :: es) = delM k es := by
  unfold delM; rw [List.filter_cons_of_neg (by simp)]
theorem delM_cons_ne {κ α : Type} [DecidableEq κ] {k : κ} {e : κ × α} (h : e.1 ≠ k) (es : List (κ × α)) : delM k (e :: es) = e :: delM k es := by
  unfold delM; rw [List.filter_cons_of_pos (by simpa using h)]
/-- A node out of the bag. -/
theorem Nds_take (hn : (F.map (·.1)).Nodup) (h : getM p F = some nd) : Nds nt F = star (NdA nt p nd) (Nds nt (delM p F)) := by
  induction F with
  | nil => cases h
  | cons e F ih =>
    obtain ⟨k, n⟩ := e
    rw [List.map_cons, List.nodup_cons] at hn
    rw [getM_cons] at h
    split at h
    · rename_i hk
      simp only at hk
      subst hk
      cases h
      rw [delM_cons_eq, delM_none hn.1]
      rfl
    · rename_i hk
      rw [delM_cons_ne hk]
      show star _ (Nds nt F) = _
      rw [ih hn.2 h]
      show _ = star _ (star _ _)
      rw [star_left_comm]
theorem putM_cons_eq {κ α : Type} [DecidableEq κ] {k : κ} {u v : α} {es : List (κ × α)} (h : k ∉ es.map (·.1)) : putM k v ((k, u) :: es) = (k, v) :: es := by
  unfold putM
  rw [if_pos (by simp), List.map_cons, if_pos rfl]
  congr 1
  conv => rhs; rw [← List.map_id es]
  refine List.map_congr_left fun e he => ?_
  rw [if_neg (fun hk => h (by rw [← hk]; exact List.mem_map_of_mem (f := (·.1)) he))]
  rfl
theorem putM_cons_ne {κ α : Type} [DecidableEq κ] {k : κ} {e : κ × α} {v : α} {es : List (κ × α)} (h : e.1 ≠ k) : putM k v (e :: es) = e :: putM k v es := by
  unfold putM
  by_cases hm : k ∈ es.map (·.1)
  · rw [if_pos (by simp [hm]), if_pos hm, List.map_cons, if_neg h]
  · rw [if_neg (by
      rw [List.map_cons, List.mem_cons]
      rintro (h1 | h1)
      · exact h h1.symm
      · exact hm h1), if_neg hm]
    rfl
/-- .. and back, turned. -/
theorem Nds_put (hn : (F.map (·.1)).Nodup) (h : getM p F = some nd) (nd' : Nd) : Nds nt (putM p nd' F) = star (NdA nt p nd') (Nds nt (delM p F)) := by
  induction F with
  | nil => cases h
  | cons e F ih =>
    obtain ⟨k, n⟩ := e
    rw [List.map_cons, List.nodup_cons] at hn
    rw [getM_cons] at h
    split at h
    · rename_i hk
      simp only at hk
      subst hk
      rw [putM_cons_eq hn.1, delM_cons_eq, delM_none hn.1]
      rfl
    · rename_i hk
      rw [delM_cons_ne hk, putM_cons_ne hk]
      show star _ (Nds nt (putM p nd' F)) = _
      rw [ih hn.2 h]
      show _ = star _ (star _ _)
      rw [star_left_comm]
theorem putM_keys_in {κ α : Type} [DecidableEq κ] {k : κ} {u v : α} {es : List (κ × α)} (h : getM k es = some u) : (putM k v es).map (·.1) = es.map (·.1) := by
  rw [putM_keys, if_pos]
  exact List.mem_map_of_mem (f := (·.1)) (getM_mem h)
end

/-! ### What is reached -/
def step (F : Bag) (p : Nat) (k : Key) : Option Nat := (getM p F).bind fun nd => child nd k
def reach (F : Bag) (root : Nat) (ks : List Key) : Option Nat := ks.foldl (fun o k => o.bind fun p => step F p k) (some root)
theorem reach_nil (F : Bag) (root : Nat) : reach F root [] = some root := rfl
theorem reach_snoc (F : Bag) (root : Nat) (ks : List Key) (k : Key) : reach F root (ks ++ [k]) = (reach F root ks).bind fun p => step F p k := by
  simp [reach, List.foldl_append]
theorem snocInd {α : Type} {P : List α → Prop} (h0 : P []) (h1 : ∀ l a, P l → P (l ++ [a])) (l : List α) : P l := by
  have : ∀ r : List α, P r.reverse := by
    intro r
    induction r with
    | nil => simpa using h0
    | cons a r ih => simpa using h1 _ a ih
  simpa using this l.reverse
theorem reach_congr {F F' : Bag} (root : Nat) (h : ∀ p k, step F' p k = step F p k) (ks : List Key) : reach F' root ks = reach F root ks := by
  induction ks using snocInd with
  | h0 => rfl
  | h1 ks k ih => rw [reach_snoc, reach_snoc, ih]; simp only [h]
theorem reach_pre {F : Bag} {root : Nat} {ks : List Key} (h : reach F root ks = none) (ms : List Key) : reach F root (ks ++ ms) = none := by
  induction ms using snocInd with
  | h0 => simpa using h
  | h1 ms k ih => rw [← List.append_assoc, reach_snoc, ih]; rfl

structure Inv (F : Bag) (root : Nat) (N : List Key → Prop) (V : List Key → Option (Tx × Value)) : Prop where
  nodup : (F.map (·.1)).Nodup
  inj : ∀ ks ks' p, reach F root ks = some p → reach F root ks' = some p → ks = ks'
  node : ∀ ks p, reach F root ks = some p → N ks ∧ ∃ nd, getM p F = some nd ∧ nd.pat = ((V ks).map (·.1)).getD [] ∧ ∀ v, V ks = some v → nd.x = v.2
  out : ∀ ks, reach F root ks = none → ¬ N ks

/-- A node that nothing is below of. -/
def bare (z : Value) : Nd := ⟨none, [], none, none, [], z⟩
theorem child_bare (z : Value) (k : Key) : child (bare z) k = none := by cases k <;> rfl
theorem Inv.new (root : Nat) (z : Value) : Inv [(root, bare z)] root (fun ks => ks = []) (fun _ => none) := by
  have hs : ∀ p k, step [(root, bare z)] p k = none := fun p k => by
    unfold step
    rw [getM_cons, getM_nil]
    split
    · exact child_bare z k
    · rfl
  have hr : ∀ ks p, reach [(root, bare z)] root ks = some p → ks = [] ∧ p = root := fun ks p h => by
    induction ks using snocInd with
    | h0 => cases h; exact ⟨rfl, rfl⟩
    | h1 ks k _ =>
      rw [reach_snoc] at h
      simp [hs] at h
  refine ⟨by simp, ?_, ?_, ?_⟩
  · intro ks ks' p h h'
    rw [(hr _ _ h).1, (hr _ _ h').1]
  · intro ks p h
    obtain ⟨rfl, rfl⟩ := hr _ _ h
    exact ⟨rfl, bare z, by rw [getM_cons, if_pos rfl], rfl, by simp⟩
  · rintro ks h rfl
    cases h

theorem Inv.mono {F : Bag} {root : Nat} {N N' : List Key → Prop} {V V' : List Key → Option (Tx × Value)} (h : Inv F root N V) (hN : ∀ ks, N ks ↔ N' ks) (hV : ∀ ks, V ks = V' ks) : Inv F root N' V' := by
  obtain rfl : N = N' := funext fun ks => propext (hN ks)
  obtain rfl : V = V' := funext hV
  exact h

/-- A node grows one below it. -/
theorem Inv.grow {F : Bag} {root : Nat} {N : List Key → Prop} {V : List Key → Option (Tx × Value)} (h : Inv F root N V) {kp : List Key} {k : Key} {p q : Nat} {nd nd' f : Nd} (hr : reach F root kp = some p) (hn : getM p F = some nd)
    (hc : child nd k = none) (hq : q ∉ F.map (·.1)) (hv : V (kp ++ [k]) = none) (hc' : ∀ j, child nd' j = if j = k then some q else child nd j) (hp' : nd'.pat = nd.pat) (hx' : nd'.x = nd.x) (hf : ∀ j, child f j = none) (hfp : f.pat = []) :
    Inv ((q, f) :: putM p nd' F) root (fun ks => N ks ∨ ks = kp ++ [k]) V ∧ reach ((q, f) :: putM p nd' F) root (kp ++ [k]) = some q := by
  have hpq : q ≠ p := by
    rintro rfl
    exact hq (List.mem_map_of_mem (f := (·.1)) (getM_mem hn))
  have hin : ∀ r, (∃ ks, reach F root ks = some r) → r ≠ q := by
    rintro r ⟨ks, hks⟩ rfl
    obtain ⟨_, n, hn', _⟩ := h.node ks _ hks
    exact hq (List.mem_map_of_mem (f := (·.1)) (getM_mem hn'))
  have hg : ∀ r, getM r ((q, f) :: putM p nd' F) = if r = q then some f else if r = p then some nd' else getM r F := fun r => by
    rw [getM_cons, getM_put]
    by_cases h1 : r = q
    · subst h1; simp
    · rw [if_neg (fun e => h1 e.symm), if_neg h1]
  have hR : ∀ ks, reach ((q, f) :: putM p nd' F) root ks = if ks = kp ++ [k] then some q else reach F root ks := fun ks => by
    induction ks using snocInd with
    | h0 => rw [if_neg (by simp)]; rfl
    | h1 ks j ih =>
      rw [reach_snoc, reach_snoc, ih]
      by_cases h1 : ks = kp ++ [k]
      · rw [if_pos h1]
        have h2 : reach F root ks = Option.none := by
          rw [h1, reach_snoc, hr]
          simp [step, hn, hc]
        rw [if_neg (by
          rintro e
          have := congrArg List.length e
          rw [h1] at this
          simp at this), h2]
        simp [step, hg, hf]
      · rw [if_neg h1]
        cases hks : reach F root ks with
        | none =>
          rw [if_neg]
          · rfl
          · intro e
            have := (List.append_inj' e rfl).1
            rw [this, hr] at hks
            cases hks
        | some r =>
          have hrq : r ≠ q := hin r ⟨ks, hks⟩
          simp only [Option.bind_some, step, hg, if_neg hrq]
          by_cases hrp : r = p
          · have hkk : ks = kp := h.inj _ _ _ hks (by rw [hrp]; exact hr)
            subst hkk
            subst hrp
            rw [if_pos rfl, Option.bind_some, hc']
            by_cases hj : j = k
            · rw [if_pos hj, if_pos (by rw [hj])]
            · rw [if_neg hj, if_neg (by simpa using hj), hn]; rfl
          · rw [if_neg hrp, if_neg]
            intro e
            have := (List.append_inj' e rfl).1
            rw [this, hr] at hks
            cases hks
            exact hrp rfl
  refine ⟨⟨?_, ?_, ?_, ?_⟩, by rw [hR, if_pos rfl]⟩
  · rw [List.map_cons, List.nodup_cons, putM_keys_in hn]
    exact ⟨hq, h.nodup⟩
  · intro ks ks' r h1 h2
    rw [hR] at h1 h2
    split at h1 <;> split at h2
    · rename_i e1 e2; rw [e1, e2]
    · cases h1
      exact absurd rfl (hin _ ⟨_, h2⟩)
    · cases h2
      exact absurd rfl (hin _ ⟨_, h1⟩)
    · exact h.inj _ _ _ h1 h2
  · intro ks r h1
    rw [hR] at h1
    split at h1
    · rename_i e1
      cases h1
      refine ⟨.inr e1, f, by rw [hg, if_pos rfl], ?_, ?_⟩
      · rw [e1, hv, hfp]; rfl
      · intro v hv'; rw [e1, hv] at hv'; cases hv'
    · obtain ⟨hN, n, hn', h3, h4⟩ := h.node ks r h1
      refine ⟨.inl hN, ?_⟩
      by_cases hrp : r = p
      · subst hrp
        rw [hn] at hn'
        cases hn'
        exact ⟨nd', by rw [hg, if_neg (hin _ ⟨_, h1⟩), if_pos rfl], by rw [hp', h3], fun v hv => by rw [hx', h4 v hv]⟩
      · exact ⟨n, by rw [hg, if_neg (hin _ ⟨_, h1⟩), if_neg hrp, hn'], h3, h4⟩
  · intro ks h1 hN
    rw [hR] at h1
    split at h1
    · cases h1
    · rename_i hne
      rcases hN with hN | hN
      · exact h.out ks h1 hN
      · exact hne hN

/-- A node takes a pattern. -/
theorem Inv.take {F : Bag} {root : Nat} {N : List Key → Prop} {V : List Key → Option (Tx × Value)} (h : Inv F root N V) {kp : List Key} {p : Nat} {nd : Nd} (hr : reach F root kp = some p) (hn : getM p F = some nd) (pat : Tx) (x : Value) :
    Inv (putM p { nd with pat := pat, x := x } F) root N (fun ks => if ks = kp then some (pat, x) else V ks) := by
  have hg : ∀ r, getM r (putM p { nd with pat := pat, x := x } F) = if r = p then some { nd with pat := pat, x := x } else getM r F := fun r => getM_put ..
  have hs : ∀ r k, step (putM p { nd with pat := pat, x := x } F) r k = step F r k := fun r k => by
    unfold step
    rw [hg]
    split
    · rename_i e; subst e; rw [hn]; cases k <;> rfl
    · rfl
  have hR := reach_congr root hs
  refine ⟨?_, ?_, ?_, ?_⟩
  · rw [putM_keys_in hn]; exact h.nodup
  · intro ks ks' r h1 h2
    rw [hR] at h1 h2
    exact h.inj _ _ _ h1 h2
  · intro ks r h1
    rw [hR] at h1
    obtain ⟨hN, n, hn', h3, h4⟩ := h.node ks r h1
    refine ⟨hN, ?_⟩
    by_cases hk : ks = kp
    · subst hk
      rw [hr] at h1
      cases h1
      exact ⟨_, by rw [hg, if_pos rfl], by rw [if_pos rfl]; rfl, fun v hv => by rw [if_pos rfl] at hv; cases hv; rfl⟩
    · have hrp : r ≠ p := by
        rintro rfl
        exact hk (h.inj _ _ _ h1 hr)
      exact ⟨n, by rw [hg, if_neg hrp, hn'], by rw [if_neg hk, h3], fun v hv => by rw [if_neg hk] at hv; exact h4 v hv⟩
  · intro ks h1
    rw [hR] at h1
    exact h.out ks h1

/-! ### A trie of entries -/
abbrev EntsV := Ents Value
def NE (es : EntsV) (ks : List Key) : Prop := ks = [] ∨ ∃ e ∈ es, ks <+: e.1
theorem NE_some {es : EntsV} {ks : List Key} (h : (getM ks es).isSome = true) : NE es ks := by
  cases e : getM ks es with
  | none => rw [e] at h; cases h
  | some v => exact .inr ⟨_, getM_mem e, List.prefix_refl _⟩
abbrev InvE (F : Bag) (root : Nat) (es : EntsV) : Prop := Inv F root (NE es) (fun ks => getM ks es)

/-- What best finds, node by node. -/
def bestF (F : Bag) : Option Nat → List Tx → Option Nat
  | none, _ => none
  | some p, [] => match getM p F with
    | none => none
    | some nd => if nd.pat = [] then none else some p
  | some p, s :: r => match getM p F with
    | none => none
    | some nd => (bestF F (getM s nd.lit) r).or ((if s = [] then none else bestF F nd.par r).or nd.rst)
theorem bestF_none (F : Bag) (path : List Tx) : bestF F none path = none := by cases path <;> rfl
theorem bestF_nil {F : Bag} {p : Nat} {nd : Nd} (h : getM p F = some nd) : bestF F (some p) [] = if nd.pat = [] then none else some p := by
  unfold bestF; rw [h]
theorem bestF_cons {F : Bag} {p : Nat} {nd : Nd} (h : getM p F = some nd) (s : Tx) (r : List Tx) : bestF F (some p) (s :: r) = (bestF F (getM s nd.lit) r).or ((if s = [] then none else bestF F nd.par r).or nd.rst) := by
  rw [bestF, h]
theorem reach_of_NE {F : Bag} {root : Nat} {es : EntsV} (h : InvE F root es) {ks ms : List Key} (hs : (getM (ks ++ ms) es).isSome = true) : reach F root ks ≠ none := fun he =>
  h.out _ (reach_pre he ms) (NE_some hs)
theorem NE_rst {es : EntsV} (hg : TrP.Good es) {ks : List Key} (h : NE es (ks ++ [.rst])) : (getM (ks ++ [.rst]) es).isSome = true := by
  rcases h with h | ⟨e, he, ms, h⟩
  · simp at h
  · obtain ⟨l, hl, hk⟩ := hg.2 e he
    have h1 : (keysOf l)[ks.length]? = some .rst := by rw [← hk, ← h]; simp
    have h2 := keys_rst hl _ h1
    have h3 : ms = [] := by
      have := congrArg List.length h
      rw [hk] at this
      simp [keysOf] at this
      exact List.eq_nil_of_length_eq_zero (by omega)
    rw [h3, List.append_nil] at h
    rw [h, getM_of_mem hg.1 he]; rfl
theorem bestF_eq {F : Bag} {root : Nat} {es : EntsV} (h : InvE F root es) (hg : TrP.Good es) : ∀ (path : List Tx) (ks : List Key), bestF F (reach F root ks) path = (bestE es ks path).bind (reach F root)
  | path, ks => by
    cases hr : reach F root ks with
    | none =>
      rw [bestF_none]
      cases hb : bestE es ks path with
      | none => rfl
      | some k =>
        obtain ⟨m, rfl, _, hs⟩ := best_fits es path ks k hb
        exact absurd hr (reach_of_NE h hs)
    | some p =>
      obtain ⟨_, nd, hn, hp, _⟩ := h.node ks p hr
      cases path with
      | nil =>
        rw [bestF_nil hn, bestE, hp]
        cases hv : getM ks es with
        | none => simp
        | some v =>
          obtain ⟨l, hl, _⟩ := hg.pat hv
          have := splitP_pat hl
          simp [this, hr]
      | cons s r =>
        have h1 : getM s nd.lit = reach F root (ks ++ [.lit s]) := by rw [reach_snoc, hr]; simp [step, hn, child]
        have h2 : nd.par = reach F root (ks ++ [.par]) := by rw [reach_snoc, hr]; simp [step, hn, child]
        have h3 : nd.rst = reach F root (ks ++ [.rst]) := by rw [reach_snoc, hr]; simp [step, hn, child]
        have i1 := bestF_eq h hg r (ks ++ [.lit s])
        have i2 := bestF_eq h hg r (ks ++ [.par])
        have e3 : reach F root (ks ++ [.rst]) = (if (getM (ks ++ [.rst]) es).isSome = true then some (ks ++ [.rst]) else none).bind (reach F root) := by
          split
          · rfl
          · rename_i hs
            cases hr3 : reach F root (ks ++ [.rst]) with
            | none => rfl
            | some q => exact absurd (NE_rst hg (h.node _ _ hr3).1) hs
        have some_of : ∀ (ks' k : List Key), bestE es ks' r = some k → ∃ q, reach F root k = some q := fun ks' k hb => by
          obtain ⟨m, rfl, _, hs⟩ := best_fits es r ks' k hb
          cases hq : reach F root (ks' ++ m) with
          | some q => exact ⟨q, rfl⟩
          | none => exact absurd hq (reach_of_NE h (ms := []) (by simpa using hs))
        rw [bestF_cons hn, bestE, h1, i1, h2, i2, h3, e3]
        cases hb1 : bestE es (ks ++ [.lit s]) r with
        | some k =>
          obtain ⟨q, hq⟩ := some_of _ _ hb1
          simp [hq]
        | none =>
          simp only [Option.bind_none, Option.none_or]
          by_cases hs : s = []
          · simp [hs]
          · rw [if_neg hs, if_neg hs]
            cases hb2 : bestE es (ks ++ [.par]) r with
            | some k =>
              obtain ⟨q, hq⟩ := some_of _ _ hb2
              simp [hq]
            | none => simp
termination_by path => path.length

theorem InvE.new (root : Nat) (z : Value) : InvE [(root, bare z)] root [] := (Inv.new root z).mono (fun ks => by simp [NE]) (fun _ => rfl)
/-- On the way to a pattern's node. -/
def NP (es : EntsV) (l : List Key) (i : Nat) (ks : List Key) : Prop := NE es ks ∨ ks <+: l.take i
theorem NP_zero (es : EntsV) (l : List Key) (ks : List Key) : NP es l 0 ks ↔ NE es ks := by
  unfold NP
  constructor
  · rintro (h | h)
    · exact h
    · rw [List.take_zero, List.prefix_nil] at h; exact .inl h
  · exact .inl
theorem pre_snoc {l ks : List Key} {i : Nat} {k : Key} (h : l[i]? = some k) : ks <+: l.take (i + 1) ↔ ks <+: l.take i ∨ ks = l.take i ++ [k] := by
  have e : l.take (i + 1) = l.take i ++ [k] := by rw [List.take_add_one, h]; rfl
  rw [e, List.prefix_concat_iff]
  constructor
  · rintro (h | h)
    · exact .inr h
    · exact .inl h
  · rintro (h | h)
    · exact .inr h
    · exact .inl h
theorem NP_succ {es : EntsV} {l : List Key} {i : Nat} {k : Key} (h : l[i]? = some k) (ks : List Key) : NP es l (i + 1) ks ↔ NP es l i ks ∨ ks = l.take i ++ [k] := by
  unfold NP
  rw [pre_snoc h]
  constructor
  · rintro (h | h | h)
    · exact .inl (.inl h)
    · exact .inl (.inr h)
    · exact .inr h
  · rintro ((h | h) | h)
    · exact .inl h
    · exact .inr (.inl h)
    · exact .inr (.inr h)
theorem NE_snoc (es : EntsV) (l : List Key) (v : Tx × Value) (ks : List Key) : NP es l l.length ks ↔ NE (es ++ [(l, v)]) ks := by
  unfold NP NE
  rw [List.take_length]
  constructor
  · rintro ((h | ⟨e, he, h⟩) | h)
    · exact .inl h
    · exact .inr ⟨e, by simp [he], h⟩
    · exact .inr ⟨(l, v), by simp, h⟩
  · rintro (h | ⟨e, he, h⟩)
    · exact .inl (.inl h)
    · rcases List.mem_append.1 he with he | he
      · exact .inl (.inr ⟨e, he, h⟩)
      · simp at he; subst he; exact .inr h
theorem V_snoc {es : EntsV} {l : List Key} (hl : getM l es = none) (v : Tx × Value) (ks : List Key) : (if ks = l then some v else getM ks es) = getM ks (es ++ [(l, v)]) := by
  rw [getM_append, getM_cons, getM_nil]
  by_cases h : ks = l
  · rw [if_pos h, if_pos h.symm, h, hl]; rfl
  · rw [if_neg h, if_neg (fun e => h e.symm)]; simp
/-- One step on the way: it is there already. -/
theorem Inv.there {F : Bag} {root : Nat} {es : EntsV} {l : List Key} {i : Nat} {k : Key} {q : Nat} {V : List Key → Option (Tx × Value)} (h : Inv F root (NP es l i) V) (hk : l[i]? = some k) (hq : reach F root (l.take i ++ [k]) = some q) : Inv F root (NP es l (i + 1)) V := by
  refine h.mono (fun ks => ?_) (fun _ => rfl)
  rw [NP_succ hk]
  constructor
  · exact .inl
  · rintro (h1 | rfl)
    · exact h1
    · exact (h.node _ _ hq).1
theorem take_key {l : List Key} {i : Nat} {k : Key} (h : l[i]? = some k) : l.take (i + 1) = l.take i ++ [k] := by rw [List.take_add_one, h]; rfl
theorem Inv.growP {F : Bag} {root : Nat} {es : EntsV} {l : List Key} {i : Nat} {k : Key} {p q : Nat} {nd nd' : Nd} {z : Value} (h : Inv F root (NP es l i) (fun ks => getM ks es)) (hk : l[i]? = some k) (hr : reach F root (l.take i) = some p) (hn : getM p F = some nd)
    (hc : child nd k = none) (hq : q ∉ F.map (·.1)) (hc' : ∀ j, child nd' j = if j = k then some q else child nd j) (hp' : nd'.pat = nd.pat) (hx' : nd'.x = nd.x) :
    Inv ((q, bare z) :: putM p nd' F) root (NP es l (i + 1)) (fun ks => getM ks es) ∧ reach ((q, bare z) :: putM p nd' F) root (l.take (i + 1)) = some q := by
  have hrn : reach F root (l.take i ++ [k]) = none := by rw [reach_snoc, hr]; simp [step, hn, hc]
  have hv : getM (l.take i ++ [k]) es = none := by
    cases e : getM (l.take i ++ [k]) es with
    | none => rfl
    | some v => exact absurd (.inl (NE_some (by rw [e]; rfl))) (h.out _ hrn)
  have := h.grow (f := bare z) hr hn hc hq hv hc' hp' hx' (child_bare z) rfl
  refine ⟨this.1.mono (fun ks => (NP_succ hk ks).symm) (fun _ => rfl), ?_⟩
  rw [take_key hk]; exact this.2
theorem Inv.thereP {F : Bag} {root : Nat} {es : EntsV} {l : List Key} {i : Nat} {k : Key} {p q : Nat} {nd : Nd} (h : Inv F root (NP es l i) (fun ks => getM ks es)) (hk : l[i]? = some k) (hr : reach F root (l.take i) = some p) (hn : getM p F = some nd) (hc : child nd k = some q) :
    Inv F root (NP es l (i + 1)) (fun ks => getM ks es) ∧ reach F root (l.take (i + 1)) = some q := by
  have hq : reach F root (l.take i ++ [k]) = some q := by rw [reach_snoc, hr]; simp [step, hn, hc]
  exact ⟨h.there hk hq, by rw [take_key hk]; exact hq⟩
/-- The pattern at its node. -/
theorem Inv.doneP {F : Bag} {root : Nat} {es : EntsV} {l : List Key} {q : Nat} {nd : Nd} (h : Inv F root (NP es l l.length) (fun ks => getM ks es)) (hr : reach F root l = some q) (hn : getM q F = some nd) (hl : getM l es = none) (pat : Tx) (x : Value) :
    InvE (putM q { nd with pat := pat, x := x } F) root (es ++ [(l, pat, x)]) :=
  (h.take hr hn pat x).mono (NE_snoc es l (pat, x)) (V_snoc hl (pat, x))
theorem getM_none_of {F : Bag} {root : Nat} {es : EntsV} (h : InvE F root es) {ks : List Key} (hr : reach F root ks = none) : getM ks es = none := by
  cases e : getM ks es with
  | none => rfl
  | some v => exact absurd (NE_some (by rw [e]; rfl)) (h.out _ hr)
end Go.Proofs.YtlofiaaacepgmaaGreatDoor.TrM
