import Derived.Test.YtcjlbimmplejjaaGreatDoorMpR
import Derived.Test.YtcjlbimmplejjaaGreatDoorScM
namespace Go.Proofs.YtcjlbimmplejjaaGreatDoor.ScS
open Go Go.RowKit Go.Proofs Go.Proofs.YtcjlbimmplejjaaGreatDoor.Sep Go.Proofs.YtcjlbimmplejjaaGreatDoor.Reg Go.Proofs.YtcjlbimmplejjaaGreatDoor.Frame Go.Proofs.YtcjlbimmplejjaaGreatDoor.Mp Go.Proofs.YtcjlbimmplejjaaGreatDoor.WdP Go.Proofs.YtcjlbimmplejjaaGreatDoor.WdT Go.Proofs.YtcjlbimmplejjaaGreatDoor.WdN Go.Proofs.YtcjlbimmplejjaaGreatDoor.ScP Go.Proofs.YtcjlbimmplejjaaGreatDoor.ScQ Go.Proofs.YtcjlbimmplejjaaGreatDoor.ScT Go.Proofs.YtcjlbimmplejjaaGreatDoor.ScA Go.Proofs.YtcjlbimmplejjaaGreatDoor.ScM

def kS (t : Tx) : Value := .string ⟨t.toArray⟩
theorem cS : KeyC .string kS := keyC_str
def mI : Option Nat → Int
  | some m => (m : Int)
  | none => -1
def shV (h : Shp) : Value := .agg #[.int .u8 (h.k : Int), .bool h.c, .bool h.s, .int .i64 (mI h.m)]
def shM : List (Tx × Value) := shps.map fun e => (e.1, shV e.2)
/-- An entry of a map that is written out. -/
theorem wpList_insert {κ : Type} [DecidableEq κ] {P : Program} {W w : World} {d : TypeDesc} {enc : κ → Value} {b : Nat} {es : List (κ × Value)} {R : Asn} {t kt et : TypeId} {ops : Array Oper} {rest : List Oper} {o : Oper} {a : Act} {Q : Exit → Act → World → Prop}
    (C : KeyC d enc) (hg : o.guard = none) (m x v : Operand) (hop : o.op = Op.insert t m x v) (ht : P.underlying t = some (.map kt et)) (hk : P.underlying kt = some d)
    (hm : a.eval m = .map (some b)) (h : St W w (star (Mp enc b es) R)) (k : κ) (val : Value) (hx : a.eval x = enc k) (hv : a.eval v = val)
    (hK : ∀ w', St W w' (star (Mp enc b (putM k val es)) R) → wpList P ops Q rest (a.put o.dst undef) w') : wpList P ops Q (o :: rest) a w := by
  refine wpList_plain hg fun K' hK' => ?_
  obtain ⟨w', hrun, h'⟩ := run_mapUpdate C ht hk h k val
  unfold Oper.wp
  simp [execOp, hop, hm, hx, hv, hrun, Result.andThen]
  exact hK' _ _ (hK w' h')
set_option maxRecDepth 100000 in
set_option maxHeartbeats 1600000 in
theorem shapes_any {W w : World} {R : Asn} (h : St W w R) : Calls Tryz.prog 23 #[] w fun e w' => e = .returned (.map (some w.heap.size)) ∧ St W w' (star (Mp kS w.heap.size shM) R) := by
  have h0 := St.newMp kS h
  obtain ⟨b, hb⟩ : ∃ b, w.heap.size = b := ⟨_, rfl⟩
  rw [hb] at h0 ⊢
  have hmm := @run_makeMap Tryz.prog
  clear h
  go_enter Tryz.func23, Tryz.ntmps23
  go_wp2_with (first
    | (refine wpList_insert cS rfl (.tmp 1) _ (.tmp 2) rfl Tryz.underlying49 Tryz.underlying9 rfl h0 ([99, 111, 110, 110, 101, 99, 116]) (.agg #[.int .u8 1, .bool false, .bool false, .int .i64 (-1)]) rfl rfl ?_; intro w1 h1)
    | (refine wpList_insert cS rfl (.tmp 1) _ (.tmp 3) rfl Tryz.underlying49 Tryz.underlying9 rfl h1 ([115, 116, 111, 112]) (.agg #[.int .u8 9, .bool false, .bool false, .int .i64 (-1)]) rfl rfl ?_; intro w2 h2)
    | (refine wpList_insert cS rfl (.tmp 1) _ (.tmp 4) rfl Tryz.underlying49 Tryz.underlying9 rfl h2 ([98, 121, 116, 101, 115]) (.agg #[.int .u8 2, .bool true, .bool true, .int .i64 (-1)]) rfl rfl ?_; intro w3 h3)
    | (refine wpList_insert cS rfl (.tmp 1) _ (.tmp 5) rfl Tryz.underlying49 Tryz.underlying9 rfl h3 ([102, 105, 110, 105, 115, 104]) (.agg #[.int .u8 4, .bool true, .bool false, .int .i64 (-1)]) rfl rfl ?_; intro w4 h4)
    | (refine wpList_insert cS rfl (.tmp 1) _ (.tmp 6) rfl Tryz.underlying49 Tryz.underlying9 rfl h4 ([99, 117, 116]) (.agg #[.int .u8 3, .bool true, .bool false, .int .i64 (65536)]) rfl rfl ?_; intro w5 h5)
    | (refine wpList_insert cS rfl (.tmp 1) _ (.tmp 7) rfl Tryz.underlying49 Tryz.underlying9 rfl h5 ([98, 114, 101, 97, 107]) (.agg #[.int .u8 5, .bool true, .bool false, .int .i64 (65536)]) rfl rfl ?_; intro w6 h6)
    | (refine wpList_insert cS rfl (.tmp 1) _ (.tmp 8) rfl Tryz.underlying49 Tryz.underlying9 rfl h6 ([116, 105, 99, 107]) (.agg #[.int .u8 6, .bool false, .bool false, .int .i64 (2147483647)]) rfl rfl ?_; intro w7 h7)
    | (refine wpList_insert cS rfl (.tmp 1) _ (.tmp 9) rfl Tryz.underlying49 Tryz.underlying9 rfl h7 ([112, 105, 99, 107]) (.agg #[.int .u8 7, .bool false, .bool false, .int .i64 (2147483647)]) rfl rfl ?_; intro w8 h8)
    | (refine wpList_insert cS rfl (.tmp 1) _ (.tmp 10) rfl Tryz.underlying49 Tryz.underlying9 rfl h8 ([114, 111, 117, 110, 100, 115]) (.agg #[.int .u8 8, .bool false, .bool false, .int .i64 (1000)]) rfl rfl ?_; intro w9 h9))
  go_ret
  exact ⟨rfl, h9⟩
end Go.Proofs.YtcjlbimmplejjaaGreatDoor.ScS
