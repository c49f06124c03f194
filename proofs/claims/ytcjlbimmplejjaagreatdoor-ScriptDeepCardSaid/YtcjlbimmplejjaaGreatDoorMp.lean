/-
  A map of the call's own, in the small separation logic: its entries as a list of keys and values, oldest first. No program is named here.
-/
import Derived.Test.YtcjlbimmplejjaaGreatDoorGen
import Derived.Maps.RangeRun
import Derived.Maps.RangeWalk
import Derived.Maps.OwnSet
import Derived.Maps.OwnIn
import Derived.OwnWalkIn
namespace Go.Proofs.YtcjlbimmplejjaaGreatDoor.Mp
set_option linter.unusedSectionVars false
open Go Go.RowKit Go.MapKept Go.Proofs Go.Proofs.YtcjlbimmplejjaaGreatDoor.Sep

/-! ### Plain lists of keys and values -/
section
variable {κ α β : Type} [DecidableEq κ]
def getM (k : κ) (es : List (κ × α)) : Option α := (es.find? fun e => decide (e.1 = k)).map (·.2)
def putM (k : κ) (v : α) (es : List (κ × α)) : List (κ × α) := if k ∈ es.map (·.1) then es.map (fun e => if e.1 = k then (k, v) else e) else es ++ [(k, v)]
def delM (k : κ) (es : List (κ × α)) : List (κ × α) := es.filter fun e => decide (e.1 ≠ k)

theorem getM_nil (k : κ) : getM k ([] : List (κ × α)) = none := rfl
theorem getM_cons (k : κ) (e : κ × α) (es : List (κ × α)) : getM k (e :: es) = if e.1 = k then some e.2 else getM k es := by
  unfold getM
  by_cases h : e.1 = k <;> simp [h]
theorem getM_none {k : κ} {es : List (κ × α)} : getM k es = none ↔ k ∉ es.map (·.1) := by
  induction es with
  | nil => simp [getM_nil]
  | cons e es ih =>
    rw [getM_cons]
    by_cases h : e.1 = k
    · simp [h]
    · rw [if_neg h, ih, List.map_cons, List.mem_cons]
      exact ⟨fun h1 h2 => h2.elim (fun h3 => h h3.symm) h1, fun h1 h2 => h1 (.inr h2)⟩
theorem getM_append (k : κ) (es fs : List (κ × α)) : getM k (es ++ fs) = (getM k es).or (getM k fs) := by
  induction es with
  | nil => simp [getM_nil]
  | cons e es ih => rw [List.cons_append, getM_cons, getM_cons, ih]; split <;> simp
theorem getM_mem {k : κ} {v : α} {es : List (κ × α)} (h : getM k es = some v) : (k, v) ∈ es := by
  induction es with
  | nil => cases h
  | cons e es ih =>
    rw [getM_cons] at h
    split at h
    · rename_i hk
      cases h
      rw [← hk]
      exact List.mem_cons_self ..
    · exact List.mem_cons_of_mem _ (ih h)
theorem getM_of_mem {k : κ} {v : α} {es : List (κ × α)} (hn : (es.map (·.1)).Nodup) (h : (k, v) ∈ es) : getM k es = some v := by
  induction es with
  | nil => cases h
  | cons e es ih =>
    rw [List.map_cons, List.nodup_cons] at hn
    rw [getM_cons]
    rcases List.mem_cons.1 h with rfl | h
    · simp
    · have : e.1 ≠ k := fun e1 => hn.1 (by rw [e1]; exact List.mem_map_of_mem (f := (·.1)) h)
      rw [if_neg this, ih hn.2 h]
theorem putM_keys (k : κ) (v : α) (es : List (κ × α)) : (putM k v es).map (·.1) = if k ∈ es.map (·.1) then es.map (·.1) else es.map (·.1) ++ [k] := by
  unfold putM
  split
  · rw [List.map_map]
    refine List.map_congr_left fun e _ => ?_
    simp only [Function.comp]
    split
    · rename_i h; exact h.symm
    · rfl
  · simp
theorem delM_keys (k : κ) (es : List (κ × α)) : (delM k es).map (·.1) = (es.map (·.1)).filter fun x => decide (x ≠ k) := by
  unfold delM
  rw [List.filter_map]
  rfl
theorem putM_nodup {k : κ} {v : α} {es : List (κ × α)} (h : (es.map (·.1)).Nodup) : ((putM k v es).map (·.1)).Nodup := by
  rw [putM_keys]
  split
  · exact h
  · rename_i hk
    rw [List.nodup_append]
    exact ⟨h, by simp, fun a ha b hb e => hk (by simp at hb; rw [← hb, ← e]; exact ha)⟩
theorem delM_nodup {k : κ} {es : List (κ × α)} (h : (es.map (·.1)).Nodup) : ((delM k es).map (·.1)).Nodup := by
  rw [delM_keys]; exact h.filter _
theorem getM_put (k j : κ) (v : α) (es : List (κ × α)) : getM j (putM k v es) = if j = k then some v else getM j es := by
  unfold putM
  split
  · rename_i hk
    induction es with
    | nil => simp at hk
    | cons e es ih =>
      rw [List.map_cons, getM_cons, getM_cons]
      by_cases he : e.1 = k
      · rw [if_pos he]
        by_cases hj : j = k
        · subst hj; simp
        · rw [if_neg hj, if_neg (fun h => hj h.symm), if_neg (fun h => hj (h.symm.trans he))]
          by_cases hm : k ∈ es.map (·.1)
          · rw [ih hm, if_neg hj]
          · have : es.map (fun e => if e.1 = k then (k, v) else e) = es := by
              conv => rhs; rw [← List.map_id es]
              refine List.map_congr_left fun x hx => ?_
              rw [if_neg (fun h => hm (by rw [← h]; exact List.mem_map_of_mem (f := (·.1)) hx))]
              rfl
            rw [this]
      · rw [if_neg he]
        have hm : k ∈ es.map (·.1) := by
          rcases List.mem_cons.1 (by simpa using hk : k ∈ e.1 :: es.map (·.1)) with h | h
          · exact absurd h.symm he
          · exact h
        rw [ih hm]
        by_cases hj : e.1 = j
        · subst hj; simp [he]
        · simp [hj]
  · rename_i hk
    rw [getM_append, getM_cons, getM_nil]
    by_cases hj : j = k
    · subst hj
      rw [getM_none.2 hk]; simp
    · rw [if_neg (fun h => hj h.symm), if_neg hj]; simp
theorem getM_del (k j : κ) (es : List (κ × α)) : getM j (delM k es) = if j = k then none else getM j es := by
  induction es with
  | nil => simp [delM, getM_nil]
  | cons e es ih =>
    unfold delM at ih ⊢
    by_cases he : e.1 = k
    · rw [List.filter_cons_of_neg (by simpa using he), ih, getM_cons]
      by_cases hj : j = k
      · simp [hj]
      · rw [if_neg hj, if_neg hj, if_neg (fun h => hj (h.symm.trans he))]
    · rw [List.filter_cons_of_pos (by simpa using he), getM_cons, getM_cons, ih]
      by_cases hj : e.1 = j
      · subst hj; simp [he]
      · simp [hj]
theorem delM_none {k : κ} {es : List (κ × α)} (h : k ∉ es.map (·.1)) : delM k es = es := by
  refine List.filter_eq_self.2 fun e he => ?_
  simp only [ne_eq, decide_not, Bool.not_eq_true', decide_eq_false_iff_not]
  rintro rfl
  exact h (List.mem_map_of_mem (f := (·.1)) he)
theorem eraseIdx_del {k : κ} : ∀ {es : List (κ × α)} {j : Nat} {v : α}, (es.map (·.1)).Nodup → es[j]? = some (k, v) → es.eraseIdx j = delM k es
  | [], j, v, _, h => by simp at h
  | e :: es, 0, v, hn, h => by
    simp at h; subst h
    rw [List.map_cons, List.nodup_cons] at hn
    rw [List.eraseIdx_zero, List.tail_cons]
    unfold delM
    rw [List.filter_cons_of_neg (by simp)]
    exact (delM_none hn.1).symm
  | e :: es, j + 1, v, hn, h => by
    rw [List.map_cons, List.nodup_cons] at hn
    have h' : es[j]? = some (k, v) := by simpa using h
    have hk : e.1 ≠ k := fun he => hn.1 (by rw [he]; exact List.mem_map_of_mem (f := (·.1)) (List.mem_of_getElem? h'))
    rw [List.eraseIdx_cons_succ, eraseIdx_del hn.2 h']
    unfold delM
    rw [List.filter_cons_of_pos (by simpa using hk)]
theorem getM_idx {k : κ} {es : List (κ × α)} {j : Nat} {v : α} (hn : (es.map (·.1)).Nodup) (h : es[j]? = some (k, v)) : getM k es = some v := getM_of_mem hn (List.mem_of_getElem? h)
theorem put_idx {k : κ} {v' : α} : ∀ {es : List (κ × α)} {j : Nat} {v : α}, (es.map (·.1)).Nodup → es[j]? = some (k, v) → es.set j (k, v') = putM k v' es := by
  intro es j v hn h
  have hk : k ∈ es.map (·.1) := List.mem_map_of_mem (f := (·.1)) (List.mem_of_getElem? h)
  unfold putM
  rw [if_pos hk]
  apply List.ext_getElem?
  intro i
  rw [List.getElem?_set, List.getElem?_map]
  by_cases hij : j = i
  · subst hij
    have hl := (List.getElem?_eq_some_iff.1 h).1
    rw [if_pos rfl, if_pos hl, h]
    simp
  · rw [if_neg hij]
    cases hi : es[i]? with
    | none => rfl
    | some e =>
      have : e.1 ≠ k := fun he => by
        obtain ⟨hl, h1⟩ := List.getElem?_eq_some_iff.1 h
        obtain ⟨hl2, h2⟩ := List.getElem?_eq_some_iff.1 hi
        have hp := List.pairwise_iff_getElem.1 hn
        rcases Nat.lt_or_gt_of_ne hij with h3 | h3
        · exact hp j i (by simpa using hl) (by simpa using hl2) h3 (by simp [h1, h2, he])
        · exact hp i j (by simpa using hl2) (by simpa using hl) h3 (by simp [h1, h2, he])
      simp [this]
end

/-- How keys of a type stand in memory. -/
structure KeyC {κ : Type} (d : TypeDesc) (enc : κ → Value) : Prop where
  isKey : ∀ k, IsKey d (enc k)
  inj : ∀ a b, enc a = enc b → a = b
theorem keyC_int (q : IntKind) : KeyC (.int q) (fun k : Int => Value.int q k) := ⟨fun _ => rfl, fun a b h => by cases h; rfl⟩
theorem keyC_str : KeyC .string (fun k : List UInt8 => Value.string ⟨k.toArray⟩) := ⟨fun _ => trivial, fun a b h => by
  have h1 : (⟨a.toArray⟩ : ByteArray) = ⟨b.toArray⟩ := by injection h
  have h2 : a.toArray = b.toArray := by injection h1
  simpa using h2⟩

section
variable {κ : Type} [DecidableEq κ] {P : Program} {W w : World} {d : TypeDesc} {enc : κ → Value} {b : Nat} {es : List (κ × Value)} {R : Asn} {t kt et : TypeId}

/-- A map's block: its entries. -/
def Mp (enc : κ → Value) (b : Nat) (es : List (κ × Value)) : Asn := fun h =>
  ∃ (arr : Array MapEntry) (clock : Nat), Stamped arr clock ∧ arr.toList.map (fun x => (x.key, x.val)) = es.map (fun e => (enc e.1, e.2)) ∧ pt b (.map arr clock) h

theorem St.mp (h : St W w (star (Mp enc b es) R)) : ∃ arr clock, Stamped arr clock ∧ arr.toList.map (fun x => (x.key, x.val)) = es.map (fun e => (enc e.1, e.2)) ∧ St W w (star (pt b (.map arr clock)) R) := by
  obtain ⟨hb, k, ⟨h1, h2, dj, e, ⟨arr, clock, s1, s2, a⟩, r⟩, f⟩ := h
  exact ⟨arr, clock, s1, s2, hb, k, ⟨h1, h2, dj, e, a, r⟩, f⟩
theorem St.mkMp {arr : Array MapEntry} {clock : Nat} (s : Stamped arr clock) (e : arr.toList.map (fun x => (x.key, x.val)) = es.map (fun e => (enc e.1, e.2))) (h : St W w (star (pt b (.map arr clock)) R)) : St W w (star (Mp enc b es) R) := by
  refine h.weak fun k => ?_
  rintro ⟨h1, h2, dj, e', a, r⟩
  exact ⟨h1, h2, dj, e', ⟨arr, clock, s, e, a⟩, r⟩
theorem St.newMp (enc : κ → Value) (h : St W w R) : St W (w.alloc (.map #[] 0)) (star (Mp enc w.heap.size []) R) := St.mkMp (stamped_empty 0) (by simp) (h.alloc _)

theorem ent_get {arr : Array MapEntry} (e : arr.toList.map (fun x => (x.key, x.val)) = es.map (fun e => (enc e.1, e.2))) {j : Nat} {x : MapEntry} (hx : arr.toList[j]? = some x) : ∃ y, es[j]? = some y ∧ x.key = enc y.1 ∧ x.val = y.2 := by
  have h1 : (arr.toList.map (fun x => (x.key, x.val)))[j]? = some (x.key, x.val) := by rw [List.getElem?_map, hx]; rfl
  rw [e, List.getElem?_map] at h1
  cases hy : es[j]? with
  | none => rw [hy] at h1; cases h1
  | some y =>
    rw [hy] at h1
    simp only [Option.map_some, Option.some.injEq, Prod.mk.injEq] at h1
    exact ⟨y, rfl, h1.1.symm, h1.2.symm⟩
theorem ent_mem {arr : Array MapEntry} (e : arr.toList.map (fun x => (x.key, x.val)) = es.map (fun e => (enc e.1, e.2))) {x : MapEntry} (hx : x ∈ arr.toList) : ∃ y ∈ es, x.key = enc y.1 ∧ x.val = y.2 := by
  obtain ⟨j, hj⟩ := List.getElem?_of_mem hx
  obtain ⟨y, hy, h⟩ := ent_get e hj
  exact ⟨y, List.mem_of_getElem? hy, h⟩
theorem ent_back {arr : Array MapEntry} (e : arr.toList.map (fun x => (x.key, x.val)) = es.map (fun e => (enc e.1, e.2))) {y : κ × Value} (hy : y ∈ es) : ∃ x ∈ arr.toList, x.key = enc y.1 ∧ x.val = y.2 := by
  have : (enc y.1, y.2) ∈ arr.toList.map (fun x => (x.key, x.val)) := by rw [e]; exact List.mem_map_of_mem (f := fun e => (enc e.1, e.2)) hy
  obtain ⟨x, hx, h⟩ := List.mem_map.1 this
  simp only [Prod.mk.injEq] at h
  exact ⟨x, hx, h⟩
theorem ent_nodup {arr : Array MapEntry} {clock : Nat} (s : Stamped arr clock) (e : arr.toList.map (fun x => (x.key, x.val)) = es.map (fun e => (enc e.1, e.2))) : (es.map (·.1)).Nodup := by
  have h1 := s.2.2
  have h2 : arr.toList.map (·.key) = (es.map (·.1)).map enc := by
    have := congrArg (List.map (·.1)) e
    simpa [List.map_map, Function.comp_def] using this
  rw [h2] at h1
  unfold List.Nodup at h1 ⊢
  rw [List.pairwise_map] at h1
  exact h1.imp fun h e => h (congrArg enc e)
theorem St.mp_nodup (h : St W w (star (Mp enc b es) R)) : (es.map (·.1)).Nodup := by
  obtain ⟨arr, clock, s, e, _⟩ := St.mp h
  exact ent_nodup s e
theorem ent_keys (C : KeyC d enc) {arr : Array MapEntry} (e : arr.toList.map (fun x => (x.key, x.val)) = es.map (fun e => (enc e.1, e.2))) : ∀ x ∈ arr.toList, IsKey d x.key := fun x hx => by
  obtain ⟨y, _, h, _⟩ := ent_mem e hx
  rw [h]; exact C.isKey _

/-- Where a key is found. -/
theorem ent_find (C : KeyC d enc) (hk : P.underlying kt = some d) {arr : Array MapEntry} (e : arr.toList.map (fun x => (x.key, x.val)) = es.map (fun e => (enc e.1, e.2))) (k : κ) (w : World) :
    ((Instr.findKey kt (enc k) arr.toList).run P w = .ok none w ∧ k ∉ es.map (·.1)) ∨ ∃ j x v, (Instr.findKey kt (enc k) arr.toList).run P w = .ok (some (j, v)) w ∧ arr.toList[j]? = some x ∧ x.key = enc k ∧ x.val = v ∧ es[j]? = some (k, v) := by
  rcases findNow_spec (C.isKey k) arr.toList 0 (ent_keys C e) with ⟨h1, h2⟩ | ⟨j, x, h1, h2, h3⟩
  · refine .inl ⟨run_findKey hk h1, fun hm => ?_⟩
    obtain ⟨y, hy, rfl⟩ := List.mem_map.1 hm
    obtain ⟨x, hx, hxk, _⟩ := ent_back e hy
    exact h2 x hx hxk
  · obtain ⟨y, hy, e1, e2⟩ := ent_get e h2
    have : y.1 = k := C.inj _ _ (e1.symm.trans h3)
    refine .inr ⟨j, x, x.val, run_findKey hk (by simpa using h1), h2, h3, rfl, ?_⟩
    rw [hy, ← this, e2]

/-- 'm[k]', 'v, ok := m[k]'. -/
theorem run_lookup (C : KeyC d enc) (ht : P.underlying t = some (.map kt et)) (hk : P.underlying kt = some d) {z : Value} (hz : (zeroValue et).run P w = .ok z w) (h : St W w (star (Mp enc b es) R)) (k : κ) (ok : Bool) :
    (Instr.lookup t (.map (some b)) (enc k) ok).run P w = .ok (if ok then .tuple #[(getM k es).getD z, .bool (getM k es).isSome] else (getM k es).getD z) w := by
  obtain ⟨arr, clock, s, e, hp⟩ := St.mp h
  have hb := hp.blk
  have hn := ent_nodup s e
  rcases ent_find C hk e k w with ⟨h1, h2⟩ | ⟨j, x, v, h1, h2, h3, h4, h5⟩
  · rw [getM_none.2 h2]
    cases ok <;> simp [Instr.lookup, run_underlying ht, MapKept.run_getObj_map hb, MapKept.run_checkKey hk (C.isKey k), h1, hz, Result.andThen]
  · rw [getM_idx hn h5]
    cases ok <;> simp [Instr.lookup, run_underlying ht, MapKept.run_getObj_map hb, MapKept.run_checkKey hk (C.isKey k), h1, Result.andThen]

theorem St.setMap {arr : Array MapEntry} {clock : Nat} (h : St W w (star (pt b (.map arr clock)) R)) (o : Obj) : St W { w with heap := w.heap.setIfInBounds b o } (star (pt b o) R) :=
  h.turn rfl rfl rfl (by simp) (fun k _ hk => (heap_set h.blk).2 k hk) (heap_set h.blk).1

/-- 'm[k] = v'. -/
theorem run_mapUpdate (C : KeyC d enc) (ht : P.underlying t = some (.map kt et)) (hk : P.underlying kt = some d) (h : St W w (star (Mp enc b es) R)) (k : κ) (v : Value) :
    ∃ w', (Instr.mapUpdate t (.map (some b)) (enc k) v).run P w = .ok () w' ∧ St W w' (star (Mp enc b (putM k v es)) R) := by
  obtain ⟨arr, clock, s, e, hp⟩ := St.mp h
  have hb := hp.blk
  have hn := ent_nodup s e
  rcases ent_find C hk e k w with ⟨h1, h2⟩ | ⟨j, x, u, h1, h2, h3, h4, h5⟩
  · have hne : ∀ x ∈ arr.toList, x.key ≠ enc k := fun x hx hxk => by
      obtain ⟨y, hy, e1, _⟩ := ent_mem e hx
      exact h2 (by rw [← C.inj _ _ (e1.symm.trans hxk)]; exact List.mem_map_of_mem (f := (·.1)) hy)
    refine ⟨_, ?_, St.mkMp (stamped_push s hne) ?_ (St.setMap hp (.map (arr.push ⟨enc k, v, clock⟩) (clock + 1)))⟩
    · simp [Instr.mapUpdate, run_underlying ht, MapKept.run_getObj_map hb, MapKept.run_checkKey hk (C.isKey k), h1, MapKept.run_setObj_map _ hb, Result.andThen]
    · unfold putM
      rw [if_neg h2]
      simp [e]
  · have hj : arr[j]? = some x := by simpa using h2
    have hst : (Instr.keyThatStays (((arr[j]?).map (·.key)).getD (enc k)) (enc k)).run P w = .ok (enc k) w := by
      rw [hj]
      simp only [Option.map_some, Option.getD_some, h3]
      exact run_keyThatStays (C.isKey k)
    refine ⟨_, ?_, St.mkMp (stamped_modify s j (fun e => { e with key := enc k, val := v }) (fun _ _ => rfl) (fun e0 _ he => ?_)) ?_ (St.setMap hp (.map (arr.modify j fun e => { e with key := enc k, val := v }) clock))⟩
    · simp [Instr.mapUpdate, run_underlying ht, MapKept.run_getObj_map hb, MapKept.run_checkKey hk (C.isKey k), h1, hst, MapKept.run_setObj_map _ hb, Result.andThen]
    · rw [hj] at he; cases he; exact h3.symm
    · rw [← put_idx hn h5]
      apply List.ext_getElem?
      intro i
      have hl := (List.getElem?_eq_some_iff.1 h5).1
      have ei := congrArg (fun l => l[i]?) e
      simp only [List.getElem?_map, Array.getElem?_toList] at ei
      simp only [List.getElem?_map, Array.getElem?_toList, Array.getElem?_modify, List.getElem?_set]
      by_cases hij : j = i
      · subst hij
        simp [hj, hl]
      · simp [hij, ei]

/-- 'delete(m, k)'. -/
theorem run_delete (C : KeyC d enc) (ht : P.underlying t = some (.map kt et)) (hk : P.underlying kt = some d) (h : St W w (star (Mp enc b es) R)) (k : κ) (x ty : TypeId) :
    ∃ w', (Builtin.delete_ #[t, x] ty #[.map (some b), enc k]).run P w = .ok (.tuple #[]) w' ∧ St W w' (star (Mp enc b (delM k es)) R) := by
  obtain ⟨arr, clock, s, e, hp⟩ := St.mp h
  have hb := hp.blk
  have hn := ent_nodup s e
  rcases ent_find C hk e k w with ⟨h1, h2⟩ | ⟨j, x, u, h1, h2, h3, h4, h5⟩
  · refine ⟨_, ?_, St.mkMp s ?_ (St.setMap hp (.map arr clock))⟩
    · simp [Builtin.delete_, run_underlying ht, MapKept.run_getObj_map hb, MapKept.run_checkKey hk (C.isKey k), h1, MapKept.run_setObj_map _ hb, Result.andThen]
    · rw [delM_none h2]; exact e
  · refine ⟨_, ?_, St.mkMp (stamped_erase s j) ?_ (St.setMap hp (.map (arr.eraseIdxIfInBounds j) clock))⟩
    · simp [Builtin.delete_, run_underlying ht, MapKept.run_getObj_map hb, MapKept.run_checkKey hk (C.isKey k), h1, MapKept.run_setObj_map _ hb, Result.andThen]
    · rw [← eraseIdx_del hn h5]
      have hjl : j < arr.size := by have := (List.getElem?_eq_some_iff.1 h2).1; simpa using this
      simp only [Array.eraseIdxIfInBounds, hjl, dite_true, Array.toList_eraseIdx]
      have hm : ∀ {α β : Type} (f : α → β) (l : List α) (j : Nat), (l.eraseIdx j).map f = (l.map f).eraseIdx j := fun f l => by
        induction l with
        | nil => intro j; rfl
        | cons x l ih => intro j; cases j <;> simp [ih]
      rw [hm, e, ← hm]

/-- 'len(m)'. -/
theorem run_len (ht : P.underlying t = some (.map kt et)) (h : St W w (star (Mp enc b es) R)) (ty : TypeId) : (Builtin.len_ #[t] ty #[.map (some b)]).run P w = .ok (.int .i64 es.length) w := by
  obtain ⟨arr, clock, s, e, hp⟩ := St.mp h
  have hb := hp.blk
  have hl : arr.size = es.length := by have := congrArg List.length e; simpa using this
  simp [Builtin.len_, run_underlying ht, MapKept.run_getObj_map hb, hl, Result.andThen, goInt]

/-! ### At the operation -/
variable {ops : Array Oper} {rest : List Oper} {o : Oper} {a : Act} {Q : Exit → Act → World → Prop} {F : Fence} {n : Nat}
theorem wpList_lookup (C : KeyC d enc) (hg : o.guard = none) (m x : Operand) (ok : Bool) (hop : o.op = Op.lookup t m x ok) (ht : P.underlying t = some (.map kt et)) (hk : P.underlying kt = some d) {z : Value} (hz : ∀ w, (zeroValue et).run P w = .ok z w)
    (hm : a.eval m = .map (some b)) (h : St W w (star (Mp enc b es) R)) (k : κ) (hx : a.eval x = enc k)
    (hK : wpList P ops Q rest (a.put o.dst (if ok then .tuple #[(getM k es).getD z, .bool (getM k es).isSome] else (getM k es).getD z)) w) : wpList P ops Q (o :: rest) a w := by
  refine wpList_plain hg fun K' hK' => ?_
  unfold Oper.wp
  simp [execOp, hop, hm, hx, run_lookup C ht hk (hz w) h k ok, Result.andThen]
  exact hK' _ _ hK
theorem wpList_mapUpdate (C : KeyC d enc) (hg : o.guard = none) (m x v : Operand) (hop : o.op = Op.mapUpdate t m x v) (ht : P.underlying t = some (.map kt et)) (hk : P.underlying kt = some d)
    (hm : a.eval m = .map (some b)) (h : St W w (star (Mp enc b es) R)) (k : κ) (val : Value) (hx : a.eval x = enc k) (hv : a.eval v = val)
    (hK : ∀ w', St W w' (star (Mp enc b (putM k val es)) R) → wpList P ops Q rest (a.put o.dst undef) w') : wpList P ops Q (o :: rest) a w := by
  refine wpList_plain hg fun K' hK' => ?_
  obtain ⟨w', hrun, h'⟩ := run_mapUpdate C ht hk h k val
  unfold Oper.wp
  simp [execOp, hop, hm, hx, hv, hrun, Result.andThen]
  exact hK' _ _ (hK w' h')
theorem wpList_delete (C : KeyC d enc) (hg : o.guard = none) (m x : Operand) (hop : o.op = Op.call { callee := Callee.builtin Builtin.delete, args := #[m, x], argTypes := #[t, kt] }) (ht : P.underlying t = some (.map kt et)) (hk : P.underlying kt = some d)
    (hm : a.eval m = .map (some b)) (h : St W w (star (Mp enc b es) R)) (k : κ) (hx : a.eval x = enc k)
    (hK : ∀ w', St W w' (star (Mp enc b (delM k es)) R) → wpList P ops Q rest (a.put o.dst (.tuple #[])) w') : wpList P ops Q (o :: rest) a w := by
  refine wpList_plain hg fun K' hK' => ?_
  obtain ⟨w', hrun, h'⟩ := run_delete C ht hk h k kt o.type
  unfold Oper.wp execOp
  simp only [hop, resolve, invoke, builtin, Sem.run_bind, Sem.run_pure, Result.andThen_ok, List.map_toArray, List.map_cons, List.map_nil, hm, hx, hrun]
  exact hK' _ _ (hK w' h')
theorem wpList_mapLen (hg : o.guard = none) (m : Operand) (hop : o.op = Op.call { callee := Callee.builtin Builtin.len, args := #[m], argTypes := #[t] }) (ht : P.underlying t = some (.map kt et))
    (hm : a.eval m = .map (some b)) (h : St W w (star (Mp enc b es) R))
    (hK : wpList P ops Q rest (a.put o.dst (.int .i64 es.length)) w) : wpList P ops Q (o :: rest) a w := by
  refine wpList_plain hg fun K' hK' => ?_
  unfold Oper.wp execOp
  simp only [hop, resolve, invoke, builtin, Sem.run_bind, Sem.run_pure, Result.andThen_ok, List.map_toArray, List.map_cons, List.map_nil, hm, run_len ht h o.type]
  exact hK' _ _ hK
end
end Go.Proofs.YtcjlbimmplejjaaGreatDoor.Mp
