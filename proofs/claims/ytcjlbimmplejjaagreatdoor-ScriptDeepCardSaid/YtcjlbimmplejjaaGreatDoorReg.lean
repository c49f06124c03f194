/-
  A region that draws its order, walked once, in one order that serves for all: what only computes comes first, what only reads comes ahead of whatever may write. No program is named here.
-/
import Derived.WalkKit
import Derived.Orders
import Derived.Deep.Quiet
import Derived.KernelRfl
namespace Go.Proofs.YtcjlbimmplejjaaGreatDoor.Reg
open Go

/-- Who succeeds leaves the world as it was, and yields the same in every world. -/
def Indep {α : Type} (P : Program) (e : Sem α) : Prop := ∀ a w w', e.run P w = .ok a w' → w' = w ∧ ∀ w2, e.run P w2 = .ok a w2
/-- Who succeeds leaves the world as it was. -/
def Still {α : Type} (P : Program) (e : Sem α) : Prop := ∀ a w w', e.run P w = .ok a w' → w' = w

theorem Indep.still {α : Type} {P : Program} {e : Sem α} (h : Indep P e) : Still P e := fun a w w' r => (h a w w' r).1
theorem Indep.pure {α : Type} {P : Program} (a : α) : Indep P (Pure.pure a : Sem α) := fun b w w' r => by
  have r' : (Result.ok a w : Result α) = .ok b w' := r
  cases r'; exact ⟨rfl, fun _ => rfl⟩
theorem Indep.bind {α β : Type} {P : Program} {e : Sem α} {f : α → Sem β} (he : Indep P e) (hf : ∀ a, Indep P (f a)) : Indep P (e >>= f) := fun b w w' r => by
  rw [Sem.run_bind] at r
  cases hr : e.run P w with
  | ok a w1 =>
    rw [hr] at r
    obtain ⟨rfl, h1⟩ := he a w w1 hr
    obtain ⟨rfl, h2⟩ := hf a b w1 w' r
    exact ⟨rfl, fun w2 => by rw [Sem.run_bind, h1 w2]; exact h2 w2⟩
  | halt h w1 => rw [hr] at r; cases r
theorem Indep.never {α : Type} {P : Program} {e : Sem α} (h : ∀ w a w', e.run P w ≠ .ok a w') : Indep P e := fun a w w' r => absurd r (h w a w')
theorem Indep.halt {α : Type} {P : Program} (h : Halt) : Indep P (Sem.halt h : Sem α) := Indep.never fun _ _ _ r => by cases r
theorem Indep.stuck {α : Type} {P : Program} (s : String) : Indep P (Go.stuck s : Sem α) := Indep.halt _
theorem Indep.unsupported {α : Type} {P : Program} (u : Unsupported) : Indep P (Go.unsupported u : Sem α) := Indep.halt _
theorem Indep.program {P : Program} : Indep P (Go.program) := fun a w w' r => by
  have r' : (Result.ok P w : Result Program) = .ok a w' := r
  cases r'; exact ⟨rfl, fun _ => rfl⟩
def Never {α : Type} (P : Program) (e : Sem α) : Prop := ∀ w a w', e.run P w ≠ .ok a w'
theorem Never.bind {α β : Type} {P : Program} {e : Sem α} {f : α → Sem β} (h : ∀ a, Never P (f a)) : Never P (e >>= f) := fun w b w' r => by
  rw [Sem.run_bind] at r
  cases hr : e.run P w with
  | ok a w1 => rw [hr] at r; exact h a w1 b w' r
  | halt x w1 => rw [hr] at r; cases r
theorem Never.halt {α : Type} {P : Program} (h : Halt) : Never P (Sem.halt h : Sem α) := fun _ _ _ r => by cases r
theorem Never.runtimePanic {α : Type} {P : Program} (e : RuntimeError) : Never P (Go.runtimePanic e : Sem α) := by
  unfold Go.runtimePanic
  refine Never.bind fun p => ?_
  cases e with
  | bounds x y s c => exact Never.halt _
  | error m => exact Never.halt _
  | plain m => exact Never.halt _
  | nilDeref => exact Never.halt _
  | typeAssertion i c a m => exact Never.bind fun _ => Never.bind fun _ => Never.halt _
  | panicNil => exact Never.bind fun _ => Never.bind fun _ => Never.halt _
  | unhashable t => exact Never.halt _
theorem Never.boundsPanic {α : Type} {P : Program} (k : IntKind) (x y : Int) (c : BoundsCode) : Never P (Go.boundsPanic k x y c : Sem α) := by
  unfold Go.boundsPanic
  dsimp only
  split <;> exact Never.bind fun _ => Never.runtimePanic _
theorem Never.indep {α : Type} {P : Program} {e : Sem α} (h : Never P e) : Indep P e := Indep.never h
theorem Indep.ite {α : Type} {P : Program} {c : Prop} [Decidable c] {a b : Sem α} (ha : Indep P a) (hb : Indep P b) : Indep P (if c then a else b) := by split <;> assumption

theorem indep_typeInfo {P : Program} (t : TypeId) : Indep P (Go.typeInfo t) := by
  unfold Go.typeInfo
  refine Indep.bind Indep.program fun p => ?_
  split
  · exact Indep.pure _
  · exact Indep.stuck _
theorem indep_underlying {P : Program} (t : TypeId) : Indep P (Go.underlying t) := by
  unfold Go.underlying
  refine Indep.bind Indep.program fun p => ?_
  split
  · exact Indep.pure _
  · exact Indep.stuck _
theorem indep_sizeOf {P : Program} (t : TypeId) : Indep P (Go.sizeOf t) := Indep.bind (indep_typeInfo t) fun _ => Indep.pure _
theorem indep_asIntOf {P : Program} (v : Value) : Indep P (Go.asIntOf v) := by
  unfold Go.asIntOf
  split
  · exact Indep.pure _
  · exact Indep.unsupported _
  · exact Indep.stuck _
theorem indep_asBool {P : Program} (v : Value) : Indep P (Go.asBool v) := by
  unfold Go.asBool
  split
  · exact Indep.pure _
  · exact Indep.stuck _
theorem indep_sureAddr {P : Program} (v : Value) : Indep P (Instr.sureAddr v) := by
  unfold Instr.sureAddr
  split
  · exact Indep.pure _
  · exact Indep.stuck _
theorem indep_sliceBound {P : Program} (x : Value) (y : Nat) (c : BoundsCode) : Indep P (Instr.sliceBound x y c) := by
  unfold Instr.sliceBound
  refine Indep.bind (indep_asIntOf x) fun a => ?_
  dsimp only
  split
  · exact Indep.pure _
  · exact (Never.boundsPanic _ _ _ _).indep
theorem indep_sliceBounds {P : Program} (b : Bool) (len cap : Nat) (lo hi mx : Option Value) : Indep P (Instr.sliceBounds b len cap lo hi mx) := by
  unfold Instr.sliceBounds
  cases mx <;> cases hi <;> cases lo <;> dsimp only <;>
    repeat (first | exact Indep.pure _ | exact Indep.stuck _ | exact indep_sliceBound _ _ _ | (refine Indep.bind ?_ fun _ => ?_))
theorem indep_asAddr {P : Program} (v : Value) : Indep P (Go.asAddr v) := by
  unfold Go.asAddr
  split
  · exact Indep.pure _
  · exact (Never.runtimePanic _).indep
  · exact Indep.stuck _
theorem indep_slice {P : Program} (t : TypeId) (x : Value) (lo hi mx : Option Value) : Indep P (Instr.slice t x lo hi mx) := by
  unfold Instr.slice
  refine Indep.bind (indep_underlying t) fun d => ?_
  split
  · dsimp only
    split
    · exact Indep.bind (Indep.stuck _) fun _ => Indep.bind (indep_sliceBounds _ _ _ _ _ _) fun _ => Indep.pure _
    · exact Indep.bind (indep_sliceBounds _ _ _ _ _ _) fun _ => Indep.pure _
  · exact Indep.bind (indep_sliceBounds _ _ _ _ _ _) fun _ => Indep.bind (indep_sizeOf _) fun _ => Indep.pure _
  · refine Indep.bind (indep_asAddr _) fun a => Indep.bind (indep_underlying _) fun d => ?_
    dsimp only
    split
    · exact Indep.bind (indep_sliceBounds _ _ _ _ _ _) fun _ => Indep.bind (indep_sizeOf _) fun _ => Indep.pure _
    · exact Indep.stuck _
  · exact Indep.stuck _
theorem indep_sliceAt {P : Program} (t : TypeId) (x : Value) (lo hi mx : Option Value) : Indep P (Instr.sliceAt t x lo hi mx) := by
  unfold Instr.sliceAt
  refine Indep.bind (indep_underlying t) fun d => ?_
  split
  · exact Indep.bind (indep_sureAddr _) fun _ => Indep.bind (indep_sliceBounds _ _ _ _ _ _) fun _ => Indep.bind (indep_sizeOf _) fun _ => Indep.pure _
  · exact indep_slice _ _ _ _ _
theorem indep_indexAt {P : Program} (t : TypeId) (x ix : Value) : Indep P (Instr.indexAt t x ix) := by
  unfold Instr.indexAt
  refine Indep.bind (indep_asIntOf ix) fun a => Indep.bind (indep_underlying t) fun d => ?_
  repeat' (first | exact Indep.pure _ | exact Indep.stuck _ | exact Indep.unsupported _ | exact (Never.boundsPanic _ _ _ _).indep | exact (Never.runtimePanic _).indep | exact indep_sizeOf _ | exact indep_underlying _ | exact indep_typeInfo _ | exact indep_sureAddr _ | exact indep_asBool _ | exact Indep.program | assumption | (refine Indep.bind ?_ fun _ => ?_) | split | dsimp only)
theorem indep_isAgg {P : Program} (t : TypeId) : Indep P (Go.isAgg t) := by
  unfold Go.isAgg
  refine Indep.bind (indep_underlying t) fun d => ?_
  split <;> exact Indep.pure _
theorem indep_part {P : Program} (t : TypeId) (cs : Array Value) (off : Nat) : Indep P (Go.part t cs off) := by
  unfold Go.part
  refine Indep.bind (indep_isAgg t) fun b => ?_
  repeat' (first | exact Indep.pure _ | exact Indep.stuck _ | exact Indep.unsupported _ | exact (Never.boundsPanic _ _ _ _).indep | exact (Never.runtimePanic _).indep | exact indep_sizeOf _ | exact indep_underlying _ | exact indep_typeInfo _ | exact indep_sureAddr _ | exact indep_asBool _ | exact Indep.program | assumption | (refine Indep.bind ?_ fun _ => ?_) | split)
theorem indep_index {P : Program} (t : TypeId) (x ix : Value) : Indep P (Instr.index t x ix) := by
  unfold Instr.index
  refine Indep.bind (indep_asIntOf ix) fun a => Indep.bind (indep_underlying t) fun d => ?_
  repeat' (first | exact Indep.pure _ | exact Indep.stuck _ | exact Indep.unsupported _ | exact (Never.boundsPanic _ _ _ _).indep | exact (Never.runtimePanic _).indep | exact indep_sizeOf _ | exact indep_part _ _ _ | exact indep_underlying _ | exact indep_typeInfo _ | exact indep_sureAddr _ | exact indep_asBool _ | exact Indep.program | assumption | (refine Indep.bind ?_ fun _ => ?_) | split)
theorem indep_extract {P : Program} (v : Value) (i : Nat) : Indep P (Instr.extract v i) := by
  unfold Instr.extract
  split
  · split
    · exact Indep.pure _
    · exact Indep.stuck _
  · exact Indep.stuck _

/-- The cells of a field's type, if the type is a struct. -/
def fieldCells (P : Program) (s : TypeId) (f : Nat) : Nat :=
  match P.underlying s with
  | some (.struct fs) => match fs[f]? with
    | some x => ((P.info? x.type).map (·.size)).getD 0
    | none => 0
  | _ => 0
theorem run_bind_inv {α β : Type} {P : Program} {e : Sem α} {f : α → Sem β} {w w' : World} {b : β} (r : (e >>= f).run P w = .ok b w') : ∃ a w1, e.run P w = .ok a w1 ∧ (f a).run P w1 = .ok b w' := by
  rw [Sem.run_bind] at r
  cases hr : e.run P w with
  | ok a w1 => rw [hr] at r; exact ⟨a, w1, rfl, r⟩
  | halt h w1 => rw [hr] at r; cases r
theorem Indep.bind_if {α β : Type} {P : Program} {e : Sem α} {f : α → Sem β} (he : Indep P e) (hf : ∀ a w, e.run P w = .ok a w → Indep P (f a)) : Indep P (e >>= f) := fun b w w' r => by
  obtain ⟨a, w1, h1, h2⟩ := run_bind_inv r
  obtain ⟨rfl, h3⟩ := he a w w1 h1
  obtain ⟨rfl, h4⟩ := hf a _ h1 b _ w' h2
  exact ⟨rfl, fun w2 => by rw [Sem.run_bind, h3 w2]; exact h4 w2⟩
theorem run_underlying_inv {P : Program} {t : TypeId} {w : World} {d : TypeDesc} {w' : World} (r : (Go.underlying t).run P w = .ok d w') : P.underlying t = some d := by
  unfold Go.underlying at r
  obtain ⟨p, w1, h1, h2⟩ := run_bind_inv r
  have h1' : (Result.ok P w : Result Program) = .ok p w1 := h1
  cases h1'
  split at h2
  · rename_i d' hd
    have h2' : (Result.ok d' w : Result TypeDesc) = .ok d w' := h2
    cases h2'; exact hd
  · cases h2
theorem run_sizeOf_inv {P : Program} {t : TypeId} {w : World} {n : Nat} {w' : World} (r : (Go.sizeOf t).run P w = .ok n w') : (P.info? t).map (·.size) = some n := by
  unfold Go.sizeOf Go.typeInfo at r
  obtain ⟨i, w1, h1, h2⟩ := run_bind_inv r
  obtain ⟨p, w2, h3, h4⟩ := run_bind_inv h1
  have h3' : (Result.ok P w : Result Program) = .ok p w2 := h3
  cases h3'
  have h2' : (Result.ok i.size w1 : Result Nat) = .ok n w' := h2
  cases h2'
  split at h4
  · rename_i j hj
    have h4' : (Result.ok j w : Result TypeInfo) = .ok i _ := h4
    cases h4'; rw [hj]; rfl
  · cases h4
theorem indep_fieldAt {P : Program} (s : TypeId) (x : Value) (f : Nat) (h : fieldCells P s f ≠ 0) : Indep P (Instr.fieldAt s x f) := by
  unfold Instr.fieldAt
  refine Indep.bind_if (indep_underlying s) fun d w hd => ?_
  have hd := run_underlying_inv hd
  split
  · rename_i fields
    split
    · rename_i fl hfl
      refine Indep.bind (indep_sureAddr x) fun a => Indep.bind ?_ fun _ => Indep.pure _
      unfold Go.fieldPlace
      refine Indep.bind_if (indep_sizeOf _) fun n w hn => ?_
      have hn := run_sizeOf_inv hn
      have : n ≠ 0 := by
        unfold fieldCells at h
        rw [hd] at h
        simp only [hfl, hn] at h
        exact h
      rw [if_neg this]
      exact Indep.pure _
    · exact Indep.stuck _
  · exact Indep.stuck _
theorem indep_followBlind {P : Program} : ∀ (l : List FieldStep) (t : TypeId) (x : Option Value), Indep P (followBlind l t x)
  | [], t, x => Indep.pure _
  | s :: rest, t, x => by
    have ih := fun t x => indep_followBlind (P := P) rest t x
    unfold followBlind
    repeat' (first | exact Indep.pure _ | exact Indep.stuck _ | exact Indep.unsupported _ | exact (Never.boundsPanic _ _ _ _).indep | exact (Never.runtimePanic _).indep | exact indep_sizeOf _ | exact indep_underlying _ | exact indep_typeInfo _ | exact indep_sureAddr _ | exact indep_asBool _ | exact Indep.program | exact ih _ _ | exact indep_part _ _ _ | (refine Indep.bind ?_ fun _ => ?_) | split)
theorem indep_nilAhead {P : Program} : ∀ (n : Nat) (t : TypeId) (v : Value) (s : String), Indep P (nilAhead n t v s)
  | 0, _, _, _ => Indep.pure _
  | n + 1, t, v, s => by
    have ih := fun t v s => indep_nilAhead (P := P) n t v s
    unfold nilAhead
    repeat' (first | exact Indep.pure _ | exact Indep.stuck _ | exact Indep.unsupported _ | exact (Never.boundsPanic _ _ _ _).indep | exact (Never.runtimePanic _).indep | exact indep_sizeOf _ | exact indep_underlying _ | exact indep_typeInfo _ | exact indep_sureAddr _ | exact indep_asBool _ | exact Indep.program | exact ih _ _ _ | exact indep_followBlind _ _ _ | (refine Indep.bind ?_ fun _ => ?_) | split)
/-- An operation that only computes: whoever succeeds yields the same in every world. -/
def pureKind (P : Program) (o : Oper) : Bool :=
  match o.op with
  | .move _ | .assign _ | .pick .. | .nilCheck _ | .slice .. | .indexAddr .. | .index .. | .extract .. => true
  | .fieldAddr s _ f => fieldCells P s f != 0
  | .call { callee := .builtin .len, argTypes, .. } => match (argTypes[0]?).bind P.underlying with | some .string | some (.slice _) => true | _ => false
  | _ => false
/-- An operation that at most reads. -/
def readKind (o : Oper) : Bool := match o.op with | .load .. => true | _ => false

theorem indep_v {P : Program} {s : Sem Value} (h : Indep P s) : Indep P (do pure (Next.value (← s)) : Sem Next) := Indep.bind h fun _ => Indep.pure _

theorem indep_len {P : Program} (ats : Array TypeId) (ty : TypeId) (args : Array Value) (h : (match (ats[0]?).bind P.underlying with | some .string | some (.slice _) => true | _ => false) = true) : Indep P (Builtin.len_ ats ty args) := by
  unfold Builtin.len_
  cases ht : ats[0]? with
  | none => exact Indep.stuck _
  | some t =>
    cases hx : args[0]? with
    | none => exact Indep.stuck _
    | some x =>
      rw [ht] at h
      simp only [Option.bind_some] at h
      refine Indep.bind_if (indep_underlying _) fun d w hd => ?_
      rw [run_underlying_inv hd] at h
      cases d <;> simp at h
      · cases x <;> first | exact Indep.pure _ | exact Indep.stuck _
      · cases x <;> first | exact Indep.pure _ | exact Indep.stuck _

theorem indep_nilCheck {P : Program} (x : Value) : Indep P (match x with
    | .pointer none | .nilIface | .nilFunc => runtimePanic .nilDeref
    | .func (.method name) first captured =>
      match (first[0]? : Option Value) with
      | some .nilIface => runtimePanic .nilDeref
      | some (.iface t w) => do
        if (← nilAhead ((← program).types.size + Made.depth) t w name) != some false then
          unsupported (.noEntry "op/nilCheck.the method's receiver behind this interface value is a nil pointer, or cannot be seen to be none, and the arguments act or may panic (ledger 612)")
        pure (Next.value (.func (.method name) first captured))
      | _ => pure (Next.value (.func (.method name) first captured))
    | x => pure (Next.value x) : Sem Next) := by
  split
  · exact (Never.runtimePanic _).indep
  · exact (Never.runtimePanic _).indep
  · exact (Never.runtimePanic _).indep
  · split
    · exact (Never.runtimePanic _).indep
    · refine Indep.bind Indep.program fun p => Indep.bind (indep_nilAhead _ _ _ _) fun r => ?_
      split
      · exact Indep.bind (Indep.unsupported _) fun _ => Indep.pure _
      · exact Indep.pure _
    · exact Indep.pure _
  · exact Indep.pure _

theorem indep_pure {P : Program} {o : Oper} (h : pureKind P o = true) (ρ : Operand → Value) : Indep P (execOp ρ o) := by
  obtain ⟨dst, op, ty, pos, after, guard⟩ := o
  cases op with
  | move x => exact Indep.pure _
  | assign x => exact Indep.pure _
  | pick c a b => exact Indep.bind (indep_asBool _) fun _ => by split <;> exact Indep.pure _
  | nilCheck x => exact indep_nilCheck _
  | slice t x lo hi mx => exact indep_v (indep_sliceAt _ _ _ _ _)
  | indexAddr t x ix => exact indep_v (indep_indexAt _ _ _)
  | index t x ix => exact indep_v (indep_index _ _ _)
  | extract t ix => exact indep_v (indep_extract _ _)
  | fieldAddr s x f => exact indep_v (indep_fieldAt _ _ _ (by simpa [pureKind] using h))
  | call c =>
    obtain ⟨callee, args, ats⟩ := c
    cases callee with
    | builtin b =>
      cases b with
      | len => exact indep_v (indep_len _ _ _ h)
      | _ => cases h
    | _ => cases h
  | _ => cases h

/-! ### What only reads -/
theorem Still.bind {α β : Type} {P : Program} {e : Sem α} {f : α → Sem β} (he : Still P e) (hf : ∀ a, Still P (f a)) : Still P (e >>= f) := fun b w w' r => by
  obtain ⟨a, w1, h1, h2⟩ := run_bind_inv r
  have := he a w w1 h1
  subst this
  exact hf a b _ w' h2
theorem Still.load {P : Program} (a : Addr) : Still P (Go.load a) := fun v w w' r => by
  unfold Go.load at r
  simp only [Sem.run] at r
  split at r
  · cases r; rfl
  · split at r
    · cases r; rfl
    · cases r
theorem Still.loadCellsFrom {P : Program} (a : Addr) : ∀ (n i : Nat) (acc : Array Value), Still P (Go.loadCellsFrom a i n acc)
  | 0, _, _ => (Indep.pure _).still
  | n + 1, i, acc => Still.bind (Still.load _) fun v => Still.loadCellsFrom a n (i + 1) (acc.push v)
theorem still_loadAt {P : Program} (t : TypeId) (x : Value) : Still P (Instr.loadAt t x) := by
  unfold Instr.loadAt
  refine Still.bind (indep_sureAddr x).still fun a => ?_
  unfold Go.loadVar
  refine Still.bind (indep_isAgg t).still fun b => ?_
  split
  · exact Still.bind (indep_sizeOf t).still fun n => Still.bind (Still.loadCellsFrom _ _ _ _) fun _ => (Indep.pure _).still
  · exact Still.load _

/-- Who succeeds hands back a value. -/
def Values {P : Program} (e : Sem Next) : Prop := ∀ n w w', e.run P w = .ok n w' → ∃ v, n = .value v
theorem values_v {P : Program} (s : Sem Value) : Values (P := P) (do pure (Next.value (← s)) : Sem Next) := fun n w w' r => by
  obtain ⟨v, w1, _, h2⟩ := run_bind_inv r
  have h2' : (Result.ok (Next.value v) w1 : Result Next) = .ok n w' := h2
  cases h2'; exact ⟨v, rfl⟩
theorem values_pure {P : Program} (v : Value) : Values (P := P) (Pure.pure (Next.value v) : Sem Next) := fun n w w' r => by
  have r' : (Result.ok (Next.value v) w : Result Next) = .ok n w' := r
  cases r'; exact ⟨v, rfl⟩
theorem Values.bind {α : Type} {P : Program} {e : Sem α} {f : α → Sem Next} (hf : ∀ a, Values (P := P) (f a)) : Values (P := P) (e >>= f) := fun n w w' r => by
  obtain ⟨a, w1, _, h2⟩ := run_bind_inv r
  exact hf a n w1 w' h2
theorem Never.values {P : Program} {e : Sem Next} (h : Never P e) : Values (P := P) e := fun n w w' r => absurd r (h w n w')
theorem values_nilCheck {P : Program} (x : Value) : Values (P := P) (match x with
    | .pointer none | .nilIface | .nilFunc => runtimePanic .nilDeref
    | .func (.method name) first captured =>
      match (first[0]? : Option Value) with
      | some .nilIface => runtimePanic .nilDeref
      | some (.iface t w) => do
        if (← nilAhead ((← program).types.size + Made.depth) t w name) != some false then
          unsupported (.noEntry "op/nilCheck.the method's receiver behind this interface value is a nil pointer, or cannot be seen to be none, and the arguments act or may panic (ledger 612)")
        pure (Next.value (.func (.method name) first captured))
      | _ => pure (Next.value (.func (.method name) first captured))
    | x => pure (Next.value x) : Sem Next) := by
  split
  · exact (Never.runtimePanic _).values
  · exact (Never.runtimePanic _).values
  · exact (Never.runtimePanic _).values
  · split
    · exact (Never.runtimePanic _).values
    · refine Values.bind fun p => Values.bind fun r => ?_
      split
      · exact Values.bind fun _ => values_pure _
      · exact values_pure _
    · exact values_pure _
  · exact values_pure _

def quietKind (P : Program) (o : Oper) : Bool := pureKind P o || readKind o

theorem quiet_op {P : Program} {o : Oper} (h : quietKind P o = true) (ρ : Operand → Value) {n : Next} {w w' : World} (r : (execOp ρ o).run P w = .ok n w') : w' = w ∧ ∃ v, n = .value v := by
  have hv : Values (P := P) (execOp ρ o) := by
    obtain ⟨dst, op, ty, pos, after, guard⟩ := o
    cases op with
    | move x => exact values_pure _
    | assign x => exact values_pure _
    | pick c a b => exact Values.bind fun _ => by split <;> exact values_pure _
    | nilCheck x => exact values_nilCheck _
    | slice t x lo hi mx => exact values_v _
    | indexAddr t x ix => exact values_v _
    | index t x ix => exact values_v _
    | extract t ix => exact values_v _
    | fieldAddr s x f => exact values_v _
    | load t x => exact values_v _
    | call c =>
      obtain ⟨callee, args, ats⟩ := c
      cases callee with
      | builtin b =>
        cases b with
        | len => exact values_v _
        | _ => cases h
      | _ => cases h
    | _ => cases h
  refine ⟨?_, hv n w w' r⟩
  unfold quietKind at h
  rcases Bool.or_eq_true_iff.1 h with h | h
  · exact ((indep_pure h ρ) n w w' r).1
  · obtain ⟨dst, op, ty, pos, after, guard⟩ := o
    cases op with
    | load t x => exact Still.bind (still_loadAt t (ρ x)) (fun _ => (Indep.pure _).still) n w w' r
    | _ => cases h

/-! ### The order -/
/-- Of an exit's ways the plain one alone. -/
def Only (Q : Exit → Act → World → Prop) : Exit → Act → World → Prop
  | .normal, a, w => Q .normal a w
  | _, _, _ => False
theorem Only.imp {Q : Exit → Act → World → Prop} : ∀ e a w, Only Q e a w → Q e a w := fun e a w h => by cases e <;> first | exact h | exact (h : False).elim

section
variable {P : Program} {ops : Array Oper} {Q : Exit → Act → World → Prop} {md : Region.Mode}

/-- What may come up before i does, if whatever has no need of i comes up. -/
def availOf (md : Region.Mode) (ops : Array Oper) (listed : Array Bool) (i : Nat) : Array Bool :=
  (List.range ops.size).foldl (fun A j => if j != i && ((ops[j]?).all fun o => o.after.all fun e => !Region.binds md e || listed.getD e.on false || A.getD e.on false) then A.setIfInBounds j true else A) (Array.replicate ops.size false)
/-- Whatever may come up before i at most reads. -/
def readFree (P : Program) (md : Region.Mode) (ops : Array Oper) (listed : Array Bool) (i : Nat) : Bool :=
  let A := availOf md ops listed i
  (List.range ops.size).all fun j => j == i || listed.getD j true || match ops[j]? with
    | some oj => !(oj.after.all fun e => !Region.binds md e || listed.getD e.on false || A.getD e.on false) || (A.getD j false && quietKind P oj)
    | none => true
def readFree' (P : Program) (md : Region.Mode) (ops : Array Oper) (listed A : Array Bool) (i : Nat) : Prop :=
  ∀ j oj, ops[j]? = some oj → j ≠ i → listed.getD j true = false → (∀ e ∈ oj.after, Region.binds md e = true → listed.getD e.on false = true ∨ A.getD e.on false = true) → A.getD j false = true ∧ quietKind P oj = true
theorem readFree_spec {listed : Array Bool} {i : Nat} (h : readFree P md ops listed i = true) : readFree' P md ops listed (availOf md ops listed i) i := by
  intro j oj hj hne hun hall
  simp only [readFree, List.all_eq_true, List.mem_range] at h
  have h1 := h j (Array.getElem?_eq_some_iff.1 hj).1
  simp only [hj, Bool.or_eq_true, beq_iff_eq, hne, false_or, hun, Bool.false_eq_true, Bool.and_eq_true, Bool.not_eq_true'] at h1
  rcases h1 with h1 | h1
  · rw [Array.all_eq_false] at h1
    obtain ⟨n, hn, hx⟩ := h1
    simp only [Bool.or_eq_true, Bool.not_eq_true', not_or, Bool.not_eq_false, Bool.not_eq_true] at hx
    rcases hall _ (Array.getElem_mem hn) hx.1.1 with h' | h'
    · rw [h'] at hx; cases hx.1.2
    · rw [h'] at hx; cases hx.2
  · exact h1

/-- In state a, in this world, operation o leaves v in its temporary, and the world alone. -/
def YieldsHere (P : Program) (ops : Array Oper) (w : World) (o : Oper) (v : Value) (a : Act) : Prop :=
  (Region.wanted o (yielded ops a.tmps) = true ∧ (execOp a.eval o).run P w = .ok (.value v) w) ∨ (Region.wanted o (yielded ops a.tmps) = false ∧ v = undef)

theorem YieldsHere.wpOp {i : Nat} {o : Oper} {v : Value} {a : Act} {w : World} (hi : ops[i]? = some o) (hy : YieldsHere P ops w o v a)
    {K : Act → World → Prop} (h : K (a.put o.dst v) w) : wpOp P ops Q i K a w := by
  unfold Go.wpOp
  simp only [hi]
  rcases hy with ⟨hw, hv⟩ | ⟨hw, rfl⟩
  · simp only [hw, if_true, Oper.wp, hv, Oper.upon]; exact .inl h
  · simp only [hw, Bool.false_eq_true, if_false]; exact h
theorem YieldsHere.of_same {o : Oper} {v : Value} {a a' : Act} {w : World} (hy : YieldsHere P ops w o v a) (he : execOp a'.eval o = execOp a.eval o)
    (hw : Region.wanted o (yielded ops a'.tmps) = Region.wanted o (yielded ops a.tmps)) : YieldsHere P ops w o v a' := by
  unfold YieldsHere at *
  rw [he, hw]
  exact hy

/-- What an operation that at most reads does, if nothing but the plain way out is let. -/
theorem quiet_wp {o : Oper} (hk : quietKind P o = true) {a : Act} {w : World} {K : Act → World → Prop} (h : o.wp P a w K (Only Q)) :
    ∃ v, (execOp a.eval o).run P w = .ok (.value v) w ∧ K (a.put o.dst v) w := by
  unfold Oper.wp at h
  cases hr : (execOp a.eval o).run P w with
  | ok n w' =>
    obtain ⟨rfl, v, rfl⟩ := quiet_op hk a.eval hr
    rw [hr] at h
    exact ⟨v, rfl, h⟩
  | halt x w' =>
    rw [hr] at h
    cases x <;> exact (h : False).elim

theorem quiet_wpOp {i : Nat} {o : Oper} (hi : ops[i]? = some o) (hk : quietKind P o = true) {a : Act} {w : World} {K : Act → World → Prop} (h : wpOp P ops (Only Q) i K a w) :
    ∃ v, YieldsHere P ops w o v a ∧ K (a.put o.dst v) w := by
  unfold Go.wpOp at h
  simp only [hi] at h
  by_cases hw : Region.wanted o (yielded ops a.tmps) = true
  · rw [if_pos hw] at h
    rcases h with h | ⟨_, _, _, h⟩
    · obtain ⟨v, h1, h2⟩ := quiet_wp hk h
      exact ⟨v, .inl ⟨hw, h1⟩, h2⟩
    · exact (h : False).elim
  · rw [if_neg hw] at h
    exact ⟨undef, .inr ⟨by simpa using hw, rfl⟩, h⟩

/-- What only reads may be taken first, if whatever may come up before it at most reads. -/
theorem wpAny_read {i : Nat} {oi : Oper} {v : Value} {w : World} {listed0 A : Array Bool} (hi : ops[i]? = some oi) (hsel : ∀ (j : Nat) (o : Oper) cs b, ops[j]? = some o → o.op ≠ .select cs b)
    (hA : readFree' P md ops listed0 A i) :
    ∀ (fuel : Nat) (listed : Array Bool) (a : Act),
      (∀ k, listed.getD k true = false → listed0.getD k true = false) → (∀ k, listed.getD k false = true → listed0.getD k false = true ∨ A.getD k false = true) →
      (∀ j oj, ops[j]? = some oj → j ≠ i → listed.getD j true = false → (∀ e ∈ oj.after, Region.binds md e = true → e.on ≠ i) → oi.apart ops oj = true) →
      i ∈ Region.ready md ops listed → YieldsHere P ops w oi v a →
      wpAny P md ops (Only Q) fuel (listed.setIfInBounds i true) (a.put oi.dst v) w → wpAny P md ops (Only Q) (fuel + 1) listed a w := by
  intro fuel
  induction fuel with
  | zero =>
    intro listed a _ _ _ hr hy H
    refine ⟨fun h => (by rw [h] at hr; cases hr), fun j hj => ?_⟩
    by_cases hji : j = i
    · subst hji; exact hy.wpOp hi H
    · have := ready_mono hj hji
      rw [H.1] at this
      cases this
  | succ fuel ih =>
    intro listed a hun0 hsub hfree hr hy H
    refine ⟨fun h => (by rw [h] at hr; cases hr), fun j hj => ?_⟩
    by_cases hji : j = i
    · subst hji; exact hy.wpOp hi H
    · have h1 := H.2 j (ready_mono hj hji)
      obtain ⟨hjun, oj, hoj, hall⟩ := mem_ready.1 hj
      have hnot : ∀ e ∈ oj.after, Region.binds md e = true → e.on ≠ i := fun e he hb heq => by
        have h1 := hall e he hb
        have h0 := (mem_ready.1 hr).1
        rw [heq] at h1
        rcases Nat.lt_or_ge i listed.size with h' | h'
        · simp [h'] at h0 h1; rw [h0] at h1; cases h1
        · simp [Array.getElem?_eq_none h'] at h1
      obtain ⟨hAj, hqj⟩ := hA j oj hoj hji (hun0 j hjun) (fun e he hb => hsub _ (hall e he hb))
      obtain ⟨u, hu, hK⟩ := quiet_wpOp hoj hqj h1
      obtain ⟨a1, a2, a3⟩ := Oper.apart_spec (hfree j oj hoj hji hjun hnot)
      have hu' : YieldsHere P ops w oj u a := hu.of_same (execOp_put oj (fun cs b => hsel j oj cs b hoj) a oi.dst v a1).symm (wanted_put oj a oi.dst v a1).symm
      refine hu'.wpOp hoj (ih (listed.setIfInBounds j true) (a.put oj.dst u) ?_ ?_ ?_ (ready_mono hr (Ne.symm hji))
        (hy.of_same (execOp_put oi (fun cs b => hsel i oi cs b hi) a oj.dst u a3) (wanted_put oi a oj.dst u a3)) ?_)
      · intro k hk
        by_cases hjk : j = k
        · subst hjk; exact hun0 j hjun
        · rw [getD_set_ne true hjk] at hk; exact hun0 k hk
      · intro k hk
        by_cases hjk : j = k
        · subst hjk; exact .inr hAj
        · rw [getD_set_ne false hjk] at hk; exact hsub k hk
      · intro k ok hk hki hun hno
        refine hfree k ok hk hki ?_ hno
        by_cases hjk : j = k
        · subst hjk; exact hjun
        · rw [getD_set_ne true hjk] at hun; exact hun
      · rw [Array.setIfInBounds_comm _ _ hji, ← Act.put_comm a v u a2]
        exact hK

/-- The operations of a list of numbers. -/
def nthOp : List Oper → Nat → Oper
  | [], _ => default
  | o :: _, 0 => o
  | _ :: l, n + 1 => nthOp l n
def pickOps (l : List Oper) : List Nat → List Oper
  | [] => []
  | i :: r => nthOp l i :: pickOps l r
theorem nthOp_get : ∀ (l : List Oper) (i : Nat) (o : Oper), l[i]? = some o → nthOp l i = o
  | [], _, _, h => by simp at h
  | x :: l, 0, o, h => by simpa [nthOp] using h
  | x :: l, n + 1, o, h => nthOp_get l n o (by simpa using h)

/-- Is this an order that serves for all? -/
def canonB (P : Program) (ops : Array Oper) : List Nat → Array Bool → Bool
  | [], listed => (Region.ready .any ops listed).isEmpty
  | i :: r, listed =>
    (match ops[i]? with
      | none => false
      | some o => if quietKind P o then (Region.ready .any ops listed).contains i && Region.free .any ops listed i && (pureKind P o || readFree P .any ops listed i)
        else Region.ready .any ops listed == [i]) && canonB P ops r (listed.setIfInBounds i true)

theorem canon_sound (hs : Region.noSelect ops = true) : ∀ (π : List Nat) (listed : Array Bool) (a : Act) (w : World), canonB P ops π listed = true →
    wpList P ops (Only Q) (pickOps ops.toList π) a w → wpAny P .any ops (Only Q) π.length listed a w
  | [], listed, a, w, hB, h => ⟨by simpa [canonB] using hB, h⟩
  | i :: r, listed, a, w, hB, h => by
    simp only [canonB, Bool.and_eq_true] at hB
    obtain ⟨h1, hB'⟩ := hB
    cases ho : ops[i]? with
    | none => rw [ho] at h1; cases h1
    | some o =>
      rw [ho] at h1
      have hn : nthOp ops.toList i = o := nthOp_get _ _ _ (by simpa using ho)
      have hw : wpOp P ops (Only Q) i (wpList P ops (Only Q) (pickOps ops.toList r)) a w := by
        unfold Go.wpOp
        simp only [ho]
        simpa only [pickOps, wpList, hn] using h
      by_cases hk : quietKind P o = true
      · simp only [hk, if_true, Bool.and_eq_true] at h1
        obtain ⟨⟨hr, hf⟩, hp⟩ := h1
        obtain ⟨v, hy, hK⟩ := quiet_wpOp ho hk hw
        have H := canon_sound hs r (listed.setIfInBounds i true) (a.put o.dst v) w hB' hK
        rcases Bool.or_eq_true_iff.1 hp with hp | hp
        · refine wpAny_take ho hs hf hr (fun _ _ _ h => h) ?_ H
          rcases hy with ⟨y1, y2⟩ | y
          · exact .inl ⟨y1, ((indep_pure hp a.eval) _ _ _ y2).2⟩
          · exact .inr y
        · exact wpAny_read ho (Region.noSelect_spec hs) (readFree_spec hp) r.length listed a (fun _ h => h) (fun _ h => .inl h) (Region.free_spec ho hf) (by simpa using hr) hy H
      · simp only [hk] at h1
        refine wpAny_all (rs := [i]) (by simpa using h1) (by simp) fun j hj => ?_
        obtain rfl : j = i := by simpa using hj
        exact wpOp_mono (fun a' w' h' => canon_sound hs r _ a' w' hB' h') hw

/-- A region that draws its order, in an order of one's own. -/
theorem wp_region_canon {id : Nat} {l : List Oper} {a : Act} {w : World} (π : List Nat) (hm : P.follows .mixedOrders = true)
    (hB : (Region.noSelect l.toArray && canonB P l.toArray π (Array.replicate l.toArray.size false) && π.length == l.toArray.size) = true)
    (h : wpList P l.toArray (Only Q) (pickOps l π) a w.drew) : (Code.region id l.toArray true).wp P Q a w := by
  simp only [Bool.and_eq_true, beq_iff_eq] at hB
  refine Code.wp_mono Only.imp (wp_region_any hm ?_)
  have := canon_sound hB.1.1 π _ a _ hB.1.2 (by simpa using h)
  rw [hB.2] at this
  exact this
end

/-! ### Pieces: one after another; a piece in which all only read (calls too) is walked once -/
section
variable {P : Program} {ops : Array Oper} {Q : Exit → Act → World → Prop} {C : World → Prop}
open Region

/-- Of an exit's ways the plain one, and then K. -/
def Next (K : Act → World → Prop) : Exit → Act → World → Prop
  | .normal, a, w => K a w
  | _, _, _ => False

/-- What is listed has all listed that it waits for. -/
def Closed (ops : Array Oper) (listed : Array Bool) : Prop := ∀ k o, ops[k]? = some o → listed.getD k true = true → ∀ e ∈ o.after, Region.binds .any e = true → listed.getD e.on false = true

theorem closed_step {listed : Array Bool} {i : Nat} (h : Closed ops listed) (hr : i ∈ Region.ready .any ops listed) : Closed ops (listed.setIfInBounds i true) := by
  intro k o ho hk e he hb
  by_cases hki : k = i
  · subst hki
    obtain ⟨_, o', ho', hall⟩ := mem_ready.1 hr
    rw [ho] at ho'
    cases ho'
    exact getD_set_true (hall e he hb)
  · rw [getD_set_ne true (Ne.symm hki)] at hk
    exact getD_set_true (h k o ho hk e he hb)

/-- All that is ready only reads, whatever order is picked, for f steps; behind them stands K, at just this listing. -/
def wpAnyK (P : Program) (ops : Array Oper) (C : World → Prop) (K : Act → Prop) (fin : Array Bool) : Nat → Array Bool → Act → Prop
  | 0, listed, a => listed = fin ∧ K a
  | f + 1, listed, a => Region.ready .any ops listed ≠ [] ∧ ∀ i ∈ Region.ready .any ops listed, qOp P ops C i (wpAnyK P ops C K fin f (listed.setIfInBounds i true)) a

theorem wpAny_of_K {K : Act → Prop} {fin : Array Bool} {n : Nat} (hK : ∀ a w, C w → K a → wpAny P .any ops Q n fin a w) : ∀ (f : Nat) (listed : Array Bool) (a : Act) (w : World), C w →
    wpAnyK P ops C K fin f listed a → wpAny P .any ops Q (n + f) listed a w
  | 0, listed, a, w, hw, h => by obtain ⟨rfl, h⟩ := h; exact hK a w hw h
  | f + 1, listed, a, w, hw, h => ⟨fun h0 => absurd h0 h.1, fun i hi => wpOp_of_qOp hw (fun a' w' hw' => wpAny_of_K hK f _ a' w' hw') (h.2 i hi)⟩

/-- One may be taken first. -/
theorem wpAnyK_first {K : Act → Prop} {fin : Array Bool} {i : Nat} {oi : Oper} {v : Value} (hi : ops[i]? = some oi) (hsel : ∀ (j : Nat) (o : Oper) cs b, ops[j]? = some o → o.op ≠ .select cs b)
    (hlast : (∃ k ok, ops[k]? = some ok ∧ k ≠ i ∧ fin.getD k true = true ∧ fin.getD k false = true ∧ ∃ e ∈ ok.after, Region.binds .any e = true ∧ e.on = i) ∨
      ∀ j oj, ops[j]? = some oj → fin.getD j true = false → ∃ e ∈ oj.after, Region.binds .any e = true ∧ (e.on = i ∨ fin.getD e.on false = false)) :
    ∀ (f : Nat) (listed : Array Bool) (a : Act), Closed ops listed →
      (∀ j oj, ops[j]? = some oj → j ≠ i → listed.getD j true = false → (∀ e ∈ oj.after, Region.binds .any e = true → e.on ≠ i) → oi.apart ops oj = true) →
      i ∈ Region.ready .any ops listed → YieldsIn P ops C oi v a →
      wpAnyK P ops C K fin f (listed.setIfInBounds i true) (a.put oi.dst v) → wpAnyK P ops C K fin (f + 1) listed a := by
  intro f
  induction f with
  | zero =>
    intro listed a hcl _ hr hy H
    refine ⟨fun h => (by rw [h] at hr; cases hr), fun j hj => ?_⟩
    by_cases hji : j = i
    · subst hji; exact hy.qOp hi H
    · exfalso
      obtain ⟨hfin, _⟩ := H
      have hiun := (mem_ready.1 hr).1
      have hin : listed.getD i false = false := by
        rcases Nat.lt_or_ge i listed.size with h' | h'
        · simp [h'] at hiun ⊢; exact hiun
        · simp [Array.getElem?_eq_none h']
      obtain ⟨hjun, oj, hoj, hall⟩ := mem_ready.1 hj
      rcases hlast with ⟨k, ok, hok, hki, hk1, _, e, he, hb, heq⟩ | hl
      · have hk2 : listed.getD k true = true := by rw [← hfin, getD_set_ne true (Ne.symm hki)] at hk1; exact hk1
        have := hcl k ok hok hk2 e he hb
        rw [heq, hin] at this
        cases this
      · have hju : fin.getD j true = false := by rw [← hfin, getD_set_ne true (Ne.symm hji)]; exact hjun
        obtain ⟨e, he, hb, hor⟩ := hl j oj hoj hju
        have h1 := hall e he hb
        rcases hor with heq | hf
        · rw [heq, hin] at h1; cases h1
        · have := getD_set_true (i := i) h1
          rw [hfin, hf] at this
          cases this
  | succ f ih =>
    intro listed a hcl hfree hr hy H
    refine ⟨fun h => (by rw [h] at hr; cases hr), fun j hj => ?_⟩
    by_cases hji : j = i
    · subst hji; exact hy.qOp hi H
    · have h1 := H.2 j (ready_mono hj hji)
      obtain ⟨hjun, oj, hoj, hall⟩ := mem_ready.1 hj
      have hnot : ∀ e ∈ oj.after, Region.binds .any e = true → e.on ≠ i := fun e he hb heq => by
        have h1 := hall e he hb
        have h0 := (mem_ready.1 hr).1
        rw [heq] at h1
        rcases Nat.lt_or_ge i listed.size with h' | h'
        · simp [h'] at h0 h1; rw [h0] at h1; cases h1
        · simp [Array.getElem?_eq_none h'] at h1
      have h2 := qOp_put hoj (hfree j oj hoj hji hjun hnot) (fun cs b => hsel i oi cs b hi) (fun cs b => hsel j oj cs b hoj) hy h1
      have hfree' : ∀ k ok, ops[k]? = some ok → k ≠ i → (listed.setIfInBounds j true).getD k true = false →
          (∀ e ∈ ok.after, Region.binds .any e = true → e.on ≠ i) → oi.apart ops ok = true := fun k ok hk hki hun hno => by
        refine hfree k ok hk hki ?_ hno
        by_cases hjk : j = k
        · subst hjk; exact hjun
        · rw [getD_set_ne true hjk] at hun; exact hun
      refine qOp_mono (fun a' h3 => ih (listed.setIfInBounds j true) a' (closed_step hcl hj) hfree' (ready_mono hr (Ne.symm hji)) h3.1 ?_) h2
      rw [Array.setIfInBounds_comm _ _ hji]
      exact h3.2

/-- The checks of a piece that only reads. -/
def lastB (ops : Array Oper) (fin : Array Bool) (i : Nat) : Bool :=
  ((List.range ops.size).any fun k => k != i && fin.getD k false && ((ops[k]?).any fun ok => ok.after.any fun e => Region.binds .any e && e.on == i)) ||
  ((List.range ops.size).all fun j => fin.getD j true || ((ops[j]?).all fun oj => oj.after.any fun e => Region.binds .any e && (e.on == i || !fin.getD e.on false)))
def quietB (ops : Array Oper) (fin : Array Bool) : List Nat → Array Bool → Bool
  | [], listed => listed == fin
  | i :: r, listed => (Region.ready .any ops listed).contains i && Region.free .any ops listed i && lastB ops fin i && quietB ops fin r (listed.setIfInBounds i true)
def setAll : List Nat → Array Bool → Array Bool
  | [], l => l
  | i :: r, l => setAll r (l.setIfInBounds i true)

theorem lastB_spec {fin : Array Bool} {i : Nat} (h : lastB ops fin i = true) :
    (∃ k ok, ops[k]? = some ok ∧ k ≠ i ∧ fin.getD k true = true ∧ fin.getD k false = true ∧ ∃ e ∈ ok.after, Region.binds .any e = true ∧ e.on = i) ∨
      ∀ j oj, ops[j]? = some oj → fin.getD j true = false → ∃ e ∈ oj.after, Region.binds .any e = true ∧ (e.on = i ∨ fin.getD e.on false = false) := by
  unfold lastB at h
  rcases Bool.or_eq_true_iff.1 h with h | h
  · left
    obtain ⟨k, _, hk⟩ := List.any_eq_true.1 h
    simp only [Bool.and_eq_true, bne_iff_ne] at hk
    obtain ⟨⟨hki, hkf⟩, ho⟩ := hk
    cases hok : ops[k]? with
    | none => rw [hok] at ho; cases ho
    | some ok =>
      rw [hok] at ho
      simp only [Option.any_some] at ho
      obtain ⟨e, he, hb⟩ := Array.any_eq_true'.1 ho
      simp only [Bool.and_eq_true, beq_iff_eq] at hb
      refine ⟨k, ok, hok, hki, ?_, hkf, e, he, hb.1, hb.2⟩
      rcases Nat.lt_or_ge k fin.size with h' | h'
      · simp [h'] at hkf ⊢; exact hkf
      · simp [Array.getElem?_eq_none h'] at hkf
  · right
    intro j oj hoj hun
    have hj := List.all_eq_true.1 h j (List.mem_range.2 (Array.getElem?_eq_some_iff.1 hoj).1)
    simp only [hun, hoj, Bool.false_or, Option.all_some] at hj
    obtain ⟨e, he, hb⟩ := Array.any_eq_true'.1 hj
    simp only [Bool.and_eq_true, Bool.or_eq_true, beq_iff_eq, Bool.not_eq_true'] at hb
    exact ⟨e, he, hb.1, hb.2⟩

theorem quiet_sound {K : Act → Prop} {fin : Array Bool} (hs : Region.noSelect ops = true) : ∀ (l : List Nat) (listed : Array Bool) (a : Act), Closed ops listed → quietB ops fin l listed = true →
    wpQuiet P ops C K (pickOps ops.toList l) a → wpAnyK P ops C K fin l.length listed a
  | [], listed, a, _, hB, h => ⟨by simpa [quietB] using hB, h⟩
  | i :: r, listed, a, hcl, hB, h => by
    simp only [quietB, Bool.and_eq_true] at hB
    obtain ⟨⟨⟨hr, hf⟩, hl⟩, hB'⟩ := hB
    have hr : i ∈ Region.ready .any ops listed := by simpa using hr
    obtain ⟨_, o, ho, _⟩ := mem_ready.1 hr
    have hn : nthOp ops.toList i = o := nthOp_get _ _ _ (by simpa using ho)
    have hq : qOp P ops C i (wpQuiet P ops C K (pickOps ops.toList r)) a := by
      unfold qOp
      simp only [ho]
      simpa only [pickOps, wpQuiet, hn] using h
    obtain ⟨v, hy, hK⟩ := yieldsIn_of_qOp ho hq
    exact wpAnyK_first ho (Region.noSelect_spec hs) (lastB_spec hl) r.length listed a hcl (Region.free_spec ho hf) hr hy (quiet_sound hs r _ _ (closed_step hcl hr) hB' hK)

/-- A plain piece, and what is behind it. -/
def canonB' (P : Program) (ops : Array Oper) : List Nat → Array Bool → Bool
  | [], _ => true
  | i :: r, listed =>
    (match ops[i]? with
      | none => false
      | some o => if quietKind P o then (Region.ready .any ops listed).contains i && Region.free .any ops listed i && (pureKind P o || readFree P .any ops listed i)
        else Region.ready .any ops listed == [i]) && canonB' P ops r (listed.setIfInBounds i true)

theorem canon_sound' {K : Act → World → Prop} {n : Nat} (hs : Region.noSelect ops = true) : ∀ (π : List Nat) (listed : Array Bool) (a : Act) (w : World), Closed ops listed → canonB' P ops π listed = true →
    (∀ a w, Closed ops (setAll π listed) → K a w → wpAny P .any ops (Only Q) n (setAll π listed) a w) → wpList P ops (Next K) (pickOps ops.toList π) a w → wpAny P .any ops (Only Q) (n + π.length) listed a w
  | [], listed, a, w, hcl, _, hK, h => hK a w hcl h
  | i :: r, listed, a, w, hcl, hB, hK, h => by
    simp only [canonB', Bool.and_eq_true] at hB
    obtain ⟨h1, hB'⟩ := hB
    cases ho : ops[i]? with
    | none => rw [ho] at h1; cases h1
    | some o =>
      rw [ho] at h1
      have hn : nthOp ops.toList i = o := nthOp_get _ _ _ (by simpa using ho)
      have hw : wpOp P ops (Next K) i (wpList P ops (Next K) (pickOps ops.toList r)) a w := by
        unfold Go.wpOp
        simp only [ho]
        simpa only [pickOps, wpList, hn] using h
      -- a way out but the plain one is none
      have hw : wpOp P ops (Only Q) i (wpList P ops (Next K) (pickOps ops.toList r)) a w := by
        unfold Go.wpOp at hw ⊢
        simp only [ho] at hw ⊢
        split
        · rename_i hwant
          rw [if_pos hwant] at hw
          refine hw.imp (fun h => ?_) (fun h => ?_)
          · unfold Oper.wp at h ⊢
            cases hrun : (execOp a.eval o).run P w with
            | ok nx w' =>
              rw [hrun] at h
              cases nx <;> simp only [Oper.upon] at h ⊢ <;> first
                | exact h
                | (refine Calls.mono h fun e w'' he => ?_
                   cases e <;> first | exact he | (exact (he : False).elim) | (obtain ⟨_, _, he⟩ := he; exact (he : False).elim))
            | halt x w' =>
              rw [hrun] at h
              cases x <;> simp only [Oper.upon] at h ⊢ <;> exact (h : False).elim
          · obtain ⟨_, _, _, h⟩ := h
            exact (h : False).elim
        · rename_i hwant
          rw [if_neg hwant] at hw
          exact hw
      by_cases hk : quietKind P o = true
      · simp only [hk, if_true, Bool.and_eq_true] at h1
        obtain ⟨⟨hr, hf⟩, hp⟩ := h1
        have hr' : i ∈ Region.ready .any ops listed := by simpa using hr
        obtain ⟨v, hy, hL⟩ := quiet_wpOp ho hk hw
        have H := canon_sound' hs r (listed.setIfInBounds i true) (a.put o.dst v) w (closed_step hcl hr') hB' hK hL
        rcases Bool.or_eq_true_iff.1 hp with hp | hp
        · refine wpAny_take ho hs hf hr (fun _ _ _ h => h) ?_ H
          rcases hy with ⟨y1, y2⟩ | y
          · exact .inl ⟨y1, ((indep_pure hp a.eval) _ _ _ y2).2⟩
          · exact .inr y
        · exact wpAny_read ho (Region.noSelect_spec hs) (readFree_spec hp) (n + r.length) listed a (fun _ h => h) (fun _ h => .inl h) (Region.free_spec ho hf) hr' hy H
      · simp only [hk] at h1
        have hrd : Region.ready .any ops listed = [i] := by simpa using h1
        refine wpAny_all (rs := [i]) hrd (by simp) fun j hj => ?_
        obtain rfl : j = i := by simpa using hj
        exact wpOp_mono (fun a' w' h' => canon_sound' hs r _ a' w' (closed_step hcl (by rw [hrd]; simp)) hB' hK h') hw

/-- The pieces: false: a plain one; true: one that only reads. -/
def wpSegs (P : Program) (ops : Array Oper) (l : List Oper) (Q : Exit → Act → World → Prop) : List (Bool × List Nat) → Act → World → Prop
  | [], a, w => Q .normal a w
  | (false, π) :: r, a, w => wpList P ops (Next (wpSegs P ops l Q r)) (pickOps l π) a w
  | (true, π) :: r, a, w => wpQuiet P ops (fun w' => ∃ n, w' = w.drewN n) (fun a' => ∀ n, wpSegs P ops l Q r a' (w.drewN n)) (pickOps l π) a
def segsB (P : Program) (ops : Array Oper) : List (Bool × List Nat) → Array Bool → Bool
  | [], listed => (Region.ready .any ops listed).isEmpty
  | (false, π) :: r, listed => canonB' P ops π listed && segsB P ops r (setAll π listed)
  | (true, π) :: r, listed => quietB ops (setAll π listed) π listed && segsB P ops r (setAll π listed)
def segsLen : List (Bool × List Nat) → Nat
  | [] => 0
  | (_, π) :: r => segsLen r + π.length

theorem quietB_closed {fin : Array Bool} : ∀ (l : List Nat) (listed : Array Bool), Closed ops listed → quietB ops fin l listed = true → Closed ops fin
  | [], listed, h, hB => by have : listed = fin := by simpa [quietB] using hB
                            exact this ▸ h
  | i :: r, listed, h, hB => by
    simp only [quietB, Bool.and_eq_true] at hB
    exact quietB_closed r _ (closed_step h (by simpa using hB.1.1.1)) hB.2

theorem segs_sound (hs : Region.noSelect ops = true) : ∀ (S : List (Bool × List Nat)) (listed : Array Bool) (a : Act) (w : World), Closed ops listed → segsB P ops S listed = true → wpSegs P ops ops.toList Q S a w → wpAny P .any ops (Only Q) (segsLen S) listed a w
  | [], listed, a, w, _, hB, h => ⟨by simpa [segsB] using hB, h⟩
  | (false, π) :: r, listed, a, w, hcl, hB, h => by
    simp only [segsB, Bool.and_eq_true] at hB
    exact canon_sound' hs π listed a w hcl hB.1 (fun a' w' hcl' h' => segs_sound hs r _ a' w' hcl' hB.2 h') h
  | (true, π) :: r, listed, a, w, hcl, hB, h => by
    simp only [segsB, Bool.and_eq_true] at hB
    have hcl' := quietB_closed π listed hcl hB.1
    refine wpAny_of_K (C := fun w' => ∃ n, w' = w.drewN n) (fun a' w' hw' h' => ?_) π.length listed a w ⟨0, rfl⟩ (quiet_sound hs π listed a hcl hB.1 h)
    obtain ⟨n, rfl⟩ := hw'
    exact segs_sound hs r _ a' _ hcl' hB.2 (h' n)

theorem closed_start : Closed ops (Array.replicate ops.size false) := fun k o ho hk => by
  have hlt := (Array.getElem?_eq_some_iff.1 ho).1
  simp [hlt] at hk

/-- A region that draws its order, in pieces. -/
theorem wp_region_segs {id : Nat} {l : List Oper} {a : Act} {w : World} (S : List (Bool × List Nat)) (hm : P.follows .mixedOrders = true)
    (hB : (Region.noSelect l.toArray && segsB P l.toArray S (Array.replicate l.toArray.size false) && segsLen S == l.toArray.size) = true)
    (h : wpSegs P l.toArray l Q S a w.drew) : (Code.region id l.toArray true).wp P Q a w := by
  simp only [Bool.and_eq_true, beq_iff_eq] at hB
  refine Code.wp_mono Only.imp (wp_region_any hm ?_)
  have := segs_sound hB.1.1 S _ a _ closed_start hB.1.2 (by simpa using h)
  rw [hB.2] at this
  exact this
end

end Go.Proofs.YtcjlbimmplejjaaGreatDoor.Reg
