import Derived.BigRegion
import Derived.Test.YtcjlbimmplejjaaGreatDoorHeldG
import Derived.Test.YtcjlbimmplejjaaGreatDoorScL
namespace Go.Proofs.YtcjlbimmplejjaaGreatDoor.ScC
open Go Go.RowKit Go.Proofs Go.Proofs.YtcjlbimmplejjaaGreatDoor.Sep Go.Proofs.YtcjlbimmplejjaaGreatDoor.Reg Go.Proofs.YtcjlbimmplejjaaGreatDoor.Frame Go.Proofs.YtcjlbimmplejjaaGreatDoor.Mp Go.Proofs.YtcjlbimmplejjaaGreatDoor.WdP Go.Proofs.YtcjlbimmplejjaaGreatDoor.WdT Go.Proofs.YtcjlbimmplejjaaGreatDoor.WdN Go.Proofs.YtcjlbimmplejjaaGreatDoor.ScP Go.Proofs.YtcjlbimmplejjaaGreatDoor.ScQ Go.Proofs.YtcjlbimmplejjaaGreatDoor.ScT Go.Proofs.YtcjlbimmplejjaaGreatDoor.ScA Go.Proofs.YtcjlbimmplejjaaGreatDoor.ScE Go.Proofs.YtcjlbimmplejjaaGreatDoor.ScX Go.Proofs.YtcjlbimmplejjaaGreatDoor.ScM Go.Proofs.YtcjlbimmplejjaaGreatDoor.ScS Go.Proofs.YtcjlbimmplejjaaGreatDoor.ScL Go.Proofs.YtcjlbimmplejjaaGreatDoor.Held Go.Proofs.YtcjlbimmplejjaaGreatDoor.HeldG

/-- What was taken after so many steps. -/
def opt1 (h : Shp) (y : Tx) : Option (Nat × Tx × Nat × Tx) := (takeC h y).map fun x => (x.1, [], 0, x.2)
def opt2 (h : Shp) (y : Tx) : Option (Nat × Tx × Nat × Tx) := (opt1 h y).bind fun x => (takeS h x.2.2.2).map fun z => (x.1, z.1, 0, z.2)
def opt3 (h : Shp) (y : Tx) : Option (Nat × Tx × Nat × Tx) := (opt2 h y).bind fun x => (takeN h x.2.2.2).map fun z => (x.1, x.2.1, z.1, z.2)
def opt (h : Shp) (y : Tx) (i : Nat) : Option (Nat × Tx × Nat × Tx) := if i = 0 then some (0, [], 0, y) else if i = 1 then opt1 h y else if i = 2 then opt2 h y else opt3 h y
theorem takeA_opt (h : Shp) (y : Tx) : takeA h y = (opt h y 3).bind fun x => if bl x.2.2.2 = [] then some ⟨h.k, x.1, x.2.2.1, x.2.1⟩ else none := by
  unfold takeA
  show _ = (opt3 h y).bind _
  unfold opt3 opt2 opt1
  cases takeC h y with
  | none => rfl
  | some a =>
    simp only [Option.map_some, Option.bind_some]
    cases takeS h a.2 with
    | none => rfl
    | some b =>
      simp only [Option.map_some, Option.bind_some]
      cases takeN h b.2 with
      | none => rfl
      | some c => rfl
theorem getM_shps (w : Tx) : ∀ l : List (Tx × Shp), getM w (l.map fun e => (e.1, shV e.2)) = ((l.find? fun e => e.1 == w).map (·.2)).map shV
  | [] => rfl
  | e :: l => by
    rw [List.map_cons, getM_cons, List.find?_cons]
    by_cases h : e.1 = w
    · rw [if_pos h]
      have : (e.1 == w) = true := by simpa using h
      rw [this]; rfl
    · have : (e.1 == w) = false := by simpa using h
      rw [if_neg h, this]
      exact getM_shps w l
theorem getM_shM (w : Tx) : getM w shM = (shp w).map shV := getM_shps w shps
theorem shp_most {w : Tx} {h : Shp} (e : shp w = some h) : ∀ n, h.m = some n → n ≤ 2147483647 := by
  unfold shp at e
  cases hf : shps.find? (fun e => e.1 == w) with
  | none => rw [hf] at e; cases e
  | some x =>
    rw [hf] at e
    simp only [Option.map_some, Option.some.injEq] at e
    subst e
    have hm := List.mem_of_find?_eq_some hf
    revert hm
    have : ∀ x ∈ shps, ∀ n, x.2.m = some n → n ≤ 2147483647 := by
      intro x hx n hn
      simp only [shps, List.mem_cons, List.not_mem_nil, or_false] at hx
      rcases hx with rfl | rfl | rfl | rfl | rfl | rfl | rfl | rfl | rfl <;> cases hn <;> decide
    exact fun hm => this x hm
theorem infoS : (Tryz.prog.info? 87).map (fun i => (i.zero, i.size, i.bytes)) = some (some (.agg #[.int .u8 0, .bool false, .bool false, .int .i64 0]), 4, 16) := by kernel_rfl
theorem zShape (w : World) : (zeroValue 87).run Tryz.prog w = .ok (.agg #[.int .u8 0, .bool false, .bool false, .int .i64 0]) w := by
  obtain ⟨i0, hi0, hz0, -, -⟩ := info_parts infoS
  simp [zeroValue, typeInfo, hi0, hz0]
theorem opt1_z {h : Shp} {y : Tx} {x} (e : opt1 h y = some x) : x.2.1 = [] ∧ x.2.2.1 = 0 := by
  unfold opt1 at e
  cases ht : takeC h y with
  | none => rw [ht] at e; cases e
  | some a => rw [ht] at e; cases e; exact ⟨rfl, rfl⟩
theorem opt2_z {h : Shp} {y : Tx} {x} (e : opt2 h y = some x) : x.2.2.1 = 0 := by
  unfold opt2 at e
  cases h1 : opt1 h y with
  | none => rw [h1] at e; cases e
  | some a =>
    rw [h1] at e
    simp only [Option.bind_some] at e
    cases ht : takeS h a.2.2.2 with
    | none => rw [ht] at e; cases e
    | some b => rw [ht] at e; cases e; rfl
/-- What stands after i steps. -/
def OptR (h : Shp) (y : Tx) (i : Nat) (ok : Bool) (xc xn : Int) (xs s : Tx) : Prop :=
  (∃ cc nn : Nat, opt h y i = some (cc, xs, nn, s) ∧ xc = cc ∧ xn = nn ∧ ok = true) ∨ (opt h y i = none ∧ ok = false)
theorem OptR.zero (h : Shp) (y : Tx) : OptR h y 0 true 0 0 [] y := .inl ⟨0, 0, rfl, rfl, rfl, rfl⟩
theorem OptR.fail {h : Shp} {y : Tx} {i : Nat} {xc xn : Int} {xs s : Tx} (hi : i < 3) (hr : OptR h y i false xc xn xs s) (xc' xn' : Int) (xs' s' : Tx) : OptR h y (i + 1) false xc' xn' xs' s' := by
  rcases hr with ⟨_, _, _, _, _, h1⟩ | ⟨h1, -⟩
  · cases h1
  · refine .inr ⟨?_, rfl⟩
    have hc : i = 0 ∨ i = 1 ∨ i = 2 := by omega
    rcases hc with rfl | rfl | rfl
    · cases h1
    · show opt2 h y = none
      have h2 : opt1 h y = none := h1
      unfold opt2; rw [h2]; rfl
    · show opt3 h y = none
      have h2 : opt2 h y = none := h1
      unfold opt3; rw [h2]; rfl
theorem OptR.at0 {h : Shp} {y : Tx} {xc xn : Int} {xs s : Tx} (hr : OptR h y 0 true xc xn xs s) : xc = 0 ∧ xn = 0 ∧ xs = [] ∧ s = y := by
  rcases hr with ⟨cc, nn, h1, h2, h3, -⟩ | ⟨h1, -⟩
  · cases h1; exact ⟨h2, h3, rfl, rfl⟩
  · cases h1
theorem OptR.at1 {h : Shp} {y : Tx} {xc xn : Int} {xs s : Tx} (hr : OptR h y 1 true xc xn xs s) : xn = 0 ∧ xs = [] := by
  rcases hr with ⟨cc, nn, h1, h2, h3, -⟩ | ⟨-, h1⟩
  · have := opt1_z (show opt1 h y = some _ from h1)
    simp only at this
    exact ⟨by rw [h3, this.2]; rfl, this.1⟩
  · cases h1
theorem OptR.at2 {h : Shp} {y : Tx} {xc xn : Int} {xs s : Tx} (hr : OptR h y 2 true xc xn xs s) : xn = 0 := by
  rcases hr with ⟨cc, nn, h1, h2, h3, -⟩ | ⟨-, h1⟩
  · have := opt2_z (show opt2 h y = some _ from h1)
    simp only at this
    rw [h3, this]; rfl
  · cases h1
theorem OptR.s1 {h : Shp} {y : Tx} {ok : Bool} {v : Int} {s' : Tx} (hc : (∃ n : Nat, takeC h y = some (n, s') ∧ v = n ∧ ok = true) ∨ (takeC h y = none ∧ ok = false)) : OptR h y 1 ok v 0 [] s' := by
  rcases hc with ⟨n, h1, h2, h3⟩ | ⟨h1, h2⟩
  · exact .inl ⟨n, 0, by show opt1 h y = _; unfold opt1; rw [h1]; rfl, h2, rfl, h3⟩
  · exact .inr ⟨by show opt1 h y = _; unfold opt1; rw [h1]; rfl, h2⟩
theorem OptR.s2 {h : Shp} {y : Tx} {ok : Bool} {xc : Int} {s t s' : Tx} (hr : OptR h y 1 true xc 0 [] s) (hc : (takeS h s = some (t, s') ∧ ok = true) ∨ (takeS h s = none ∧ ok = false)) : OptR h y 2 ok xc 0 t s' := by
  rcases hr with ⟨cc, nn, h1, h2, h3, -⟩ | ⟨-, h1⟩
  · have h4 : opt1 h y = some (cc, [], nn, s) := h1
    rcases hc with ⟨h5, h6⟩ | ⟨h5, h6⟩
    · exact .inl ⟨cc, 0, by show opt2 h y = _; unfold opt2; rw [h4]; simp only [Option.bind_some, h5]; rfl, h2, rfl, h6⟩
    · exact .inr ⟨by show opt2 h y = _; unfold opt2; rw [h4]; simp only [Option.bind_some, h5]; rfl, h6⟩
  · cases h1
theorem OptR.s3 {h : Shp} {y : Tx} {ok : Bool} {xc v : Int} {xs s s' : Tx} (hr : OptR h y 2 true xc 0 xs s) (hc : (∃ n : Nat, takeN h s = some (n, s') ∧ v = n ∧ ok = true) ∨ (takeN h s = none ∧ ok = false)) : OptR h y 3 ok xc v xs s' := by
  rcases hr with ⟨cc, nn, h1, h2, h3, -⟩ | ⟨-, h1⟩
  · have h4 : opt2 h y = some (cc, xs, nn, s) := h1
    rcases hc with ⟨n, h5, h6, h7⟩ | ⟨h5, h6⟩
    · exact .inl ⟨cc, n, by show opt3 h y = _; unfold opt3; rw [h4]; simp only [Option.bind_some, h5]; rfl, h2, h6, h7⟩
    · exact .inr ⟨by show opt3 h y = _; unfold opt3; rw [h4]; simp only [Option.bind_some, h5]; rfl, h6⟩
  · cases h1
theorem OptR.fin {h : Shp} {y : Tx} {ok : Bool} {xc xn : Int} {xs s : Tx} (hr : OptR h y 3 ok xc xn xs s) :
    ((ok && decide (bl s = [])) = true → takeA h y = some ⟨h.k, xc, xn, xs⟩) ∧ ((ok && decide (bl s = [])) = false → takeA h y = none) := by
  rw [takeA_opt]
  rcases hr with ⟨cc, nn, h1, rfl, rfl, rfl⟩ | ⟨h1, rfl⟩
  · rw [h1]
    simp only [Option.bind_some, Bool.true_and]
    exact ⟨fun hb => by rw [if_pos (of_decide_eq_true hb)], fun hb => by rw [if_neg (of_decide_eq_false hb)]⟩
  · rw [h1]
    exact ⟨(fun h => by cases h), fun _ => rfl⟩
def YC (rb b3 b10 k : Nat) (xc xn : Int) (xs : Tx) (w : World) : Prop := w.cell? ⟨b3, 0, none⟩ = some (.pointer (some ⟨rb, 0, none⟩)) ∧ w.cell? ⟨b10, 0, none⟩ = some (.int .u8 (k : Nat)) ∧ w.cell? ⟨b10, 1, none⟩ = some (.int .i64 xc) ∧ w.cell? ⟨b10, 2, none⟩ = some (.int .i64 xn) ∧ w.cell? ⟨b10, 3, none⟩ = some (.string ⟨xs.toArray⟩)
def tr9 : Tr := .held 0 (.plain 1 (.plain 2 (.held 3 (.one 4 (.plain 5 (.one 6 (.plain 7 .done)))))))
def APst (W : World) (R : Asn) (rb mb : Nat) (wdv y : Tx) (e : Ending) (w' : World) : Prop :=
  ∃ (x : Ac) (b ok : Bool) (s' : Tx), e = .returned (.tuple #[.agg (aE x).toArray, .bool b]) ∧ St W w' (star (pt rb (.cells #[.string ⟨s'.toArray⟩, .bool ok] 91 (0, 0))) (star (Mp kS mb shM) (R))) ∧ s'.length ≤ y.length ∧ ((b = true ∧ actP wdv y = some x) ∨ (b = false ∧ actP wdv y = none))
set_option maxRecDepth 100000 in
set_option maxHeartbeats 8000000 in
theorem act_any {W w : World} {R : Asn} (hG : Gl W) (hE : Er W) (rb mb : Nat) (wdv y : Tx) (hy : y.length ≤ 1000000) (h : St W w (star (pt rb (.cells #[.string ⟨y.toArray⟩, .bool true] 91 (0, 0))) (star (Mp kS mb shM) (R)))) :
    Calls Tryz.prog 50 #[.pointer (some ⟨rb, 0, none⟩), .map (some mb), .string ⟨wdv.toArray⟩] w (APst W R rb mb wdv y) := by
  have h1 := h.alloc (.cells #[.pointer (some ⟨rb, 0, none⟩)] 89 (0, 0))
  have h2 := h1.alloc (.cells #[.int .u8 0, .int .i64 0, .int .i64 0, .string ⟨#[]⟩] 34 (0, 0))
  obtain ⟨b3, hb3⟩ : ∃ b, w.heap.size = b := ⟨_, rfl⟩
  rw [World.size_alloc, hb3] at h2
  clear h h1
  go_enter Tryz.func50, Tryz.ntmps50
  go_upto_region 1 with fail
  clear hb3
  generalize (w.alloc (.cells #[.pointer (some ⟨rb, 0, none⟩)] 89 (0, 0))).alloc (.cells #[.int .u8 0, .int .i64 0, .int .i64 0, .string ⟨#[]⟩] 34 (0, 0)) = w2 at *
  generalize b3 + 1 = b6 at *
  have hmp := h2.eq (B := star (Mp kS mb shM) (star (pt b6 (.cells #[.int .u8 0, .int .i64 0, .int .i64 0, .string ⟨#[]⟩] 34 (0, 0))) (star (pt b3 (.cells #[.pointer (some ⟨rb, 0, none⟩)] 89 (0, 0))) (star (pt rb (.cells #[.string ⟨y.toArray⟩, .bool true] 91 (0, 0))) (R))))) (by ac_rfl)
  have hlk := run_lookup cS Tryz.underlying49 Tryz.underlying9 (zShape w2) hmp wdv true
  rw [getM_shM] at hlk
  have hmf : ∀ (fn : Fn) (first cap : Array Value) (w : World), (Instr.makeFunc fn first cap).run Tryz.prog w = .ok (.func fn first cap) w := fun _ _ _ _ => rfl
  clear h2
  cases hsp : shp wdv with
  | none =>
    rw [hsp] at hlk
    simp only [Option.map_none, Option.getD_none, Option.isSome_none, kS, if_true] at hlk
    have HSP := Lib.hid hsp
    clear hsp hG hE
    have h3 := hmp.alloc (.cells #[.int .u8 0, .bool false, .bool false, .int .i64 0] 87 (0, 0))
    obtain ⟨b8, hb8⟩ : ∃ b, w2.heap.size = b := ⟨_, rfl⟩
    rw [hb8] at h3
    clear hmp
    go_upto_region 2 with fail
    clear hlk hb8
    generalize w2.alloc (.cells #[.int .u8 0, .bool false, .bool false, .int .i64 0] 87 (0, 0)) = w3 at *
    have e0 := h3.cell 0 (v := .int .u8 0) rfl
    have h4 := h3.alloc (.cells #[.int .u8 0, .int .i64 0, .int .i64 0, .string ⟨#[]⟩] 34 (0, 0))
    obtain ⟨b10, hb10⟩ : ∃ b, w3.heap.size = b := ⟨_, rfl⟩
    rw [hb10] at h4
    clear h3
    go_upto_region 3 with fail
    clear e0 hb10
    generalize w3.alloc (.cells #[.int .u8 0, .int .i64 0, .int .i64 0, .string ⟨#[]⟩] 34 (0, 0)) = w4 at *
    have h5 := h4.alloc (.cells #[.func (.func 70) #[] #[.pointer (some ⟨b8, 0, none⟩), .pointer (some ⟨b3, 0, none⟩), .pointer (some ⟨b10, 0, none⟩)], .func (.func 71) #[] #[.pointer (some ⟨b8, 0, none⟩), .pointer (some ⟨b3, 0, none⟩), .pointer (some ⟨b10, 0, none⟩)], .func (.func 73) #[] #[.pointer (some ⟨b8, 0, none⟩), .pointer (some ⟨b3, 0, none⟩), .pointer (some ⟨b10, 0, none⟩)]] 1 (0, 0))
    obtain ⟨b12, hb12⟩ : ∃ b, w4.heap.size = b := ⟨_, rfl⟩
    rw [hb12] at h5
    clear h4
    go_wp2_with fail
    clear hb12
    generalize w4.alloc (.cells #[.func (.func 70) #[] #[.pointer (some ⟨b8, 0, none⟩), .pointer (some ⟨b3, 0, none⟩), .pointer (some ⟨b10, 0, none⟩)], .func (.func 71) #[] #[.pointer (some ⟨b8, 0, none⟩), .pointer (some ⟨b3, 0, none⟩), .pointer (some ⟨b10, 0, none⟩)], .func (.func 73) #[] #[.pointer (some ⟨b8, 0, none⟩), .pointer (some ⟨b3, 0, none⟩), .pointer (some ⟨b10, 0, none⟩)]] 1 (0, 0)) = w5 at *
    have hC : St W w5 (star (pt b12 (.cells #[.func (.func 70) #[] #[.pointer (some ⟨b8, 0, none⟩), .pointer (some ⟨b3, 0, none⟩), .pointer (some ⟨b10, 0, none⟩)], .func (.func 71) #[] #[.pointer (some ⟨b8, 0, none⟩), .pointer (some ⟨b3, 0, none⟩), .pointer (some ⟨b10, 0, none⟩)], .func (.func 73) #[] #[.pointer (some ⟨b8, 0, none⟩), .pointer (some ⟨b3, 0, none⟩), .pointer (some ⟨b10, 0, none⟩)]] 1 (0, 0))) (star (pt b10 (.cells #[.int .u8 0, .int .i64 0, .int .i64 0, .string ⟨#[]⟩] 34 (0, 0))) (star (pt b6 (.cells #[.int .u8 0, .int .i64 0, .int .i64 0, .string ⟨#[]⟩] 34 (0, 0))) (star (pt rb (.cells #[.string ⟨y.toArray⟩, .bool true] 91 (0, 0))) (star (Mp kS mb shM) (R)))))) := (h5.eq (B := star (pt b8 (.cells #[.int .u8 0, .bool false, .bool false, .int .i64 0] 87 (0, 0))) (star (pt b3 (.cells #[.pointer (some ⟨rb, 0, none⟩)] 89 (0, 0))) (star (pt b12 (.cells #[.func (.func 70) #[] #[.pointer (some ⟨b8, 0, none⟩), .pointer (some ⟨b3, 0, none⟩), .pointer (some ⟨b10, 0, none⟩)], .func (.func 71) #[] #[.pointer (some ⟨b8, 0, none⟩), .pointer (some ⟨b3, 0, none⟩), .pointer (some ⟨b10, 0, none⟩)], .func (.func 73) #[] #[.pointer (some ⟨b8, 0, none⟩), .pointer (some ⟨b3, 0, none⟩), .pointer (some ⟨b10, 0, none⟩)]] 1 (0, 0))) (star (pt b10 (.cells #[.int .u8 0, .int .i64 0, .int .i64 0, .string ⟨#[]⟩] 34 (0, 0))) (star (pt b6 (.cells #[.int .u8 0, .int .i64 0, .int .i64 0, .string ⟨#[]⟩] 34 (0, 0))) (star (pt rb (.cells #[.string ⟨y.toArray⟩, .bool true] 91 (0, 0))) (star (Mp kS mb shM) (R)))))))) (by ac_rfl)).right.right
    clear h5 hmf
    go_loopw [27] (fun iv wr => ∃ i : Nat, i ≤ 3 ∧ iv = .int .i64 i ∧ St W wr (star (pt b12 (.cells #[.func (.func 70) #[] #[.pointer (some ⟨b8, 0, none⟩), .pointer (some ⟨b3, 0, none⟩), .pointer (some ⟨b10, 0, none⟩)], .func (.func 71) #[] #[.pointer (some ⟨b8, 0, none⟩), .pointer (some ⟨b3, 0, none⟩), .pointer (some ⟨b10, 0, none⟩)], .func (.func 73) #[] #[.pointer (some ⟨b8, 0, none⟩), .pointer (some ⟨b3, 0, none⟩), .pointer (some ⟨b10, 0, none⟩)]] 1 (0, 0))) (star (pt b10 (.cells #[.int .u8 0, .int .i64 0, .int .i64 0, .string ⟨#[]⟩] 34 (0, 0))) (star (pt b6 (.cells #[.int .u8 0, .int .i64 0, .int .i64 0, .string ⟨#[]⟩] 34 (0, 0))) (star (pt rb (.cells #[.string ⟨y.toArray⟩, .bool true] 91 (0, 0))) (star (Mp kS mb shM) (R))))))) (fun iv _ => 3 - (intOf iv).toNat)
    case atStart => exact ⟨0, by omega, rfl, hC⟩
    case round =>
      obtain ⟨i, hi, rfl, hS⟩ := hrel
      clear hC
      by_cases hi3 : i < 3
      · have hiI : (i : Int) < 3 := by omega
        have d0 : ∃ v, wr.cell? ⟨b12, i, none⟩ = some v := by
          have hc : i = 0 ∨ i = 1 ∨ i = 2 := by omega
          rcases hc with rfl | rfl | rfl
          · exact ⟨_, hS.cell 0 rfl⟩
          · exact ⟨_, hS.cell 1 rfl⟩
          · exact ⟨_, hS.cell 2 rfl⟩
        obtain ⟨fv, d0⟩ := d0
        go_wp2_with fail
        exact ⟨⟨i + 1, hi3, by go_num, hS⟩, by simp [intOf]; omega⟩
      · obtain rfl : i = 3 := by omega
        have q0 := hS.right.cell 0 (v := .int .u8 0) rfl
        have q1 := hS.right.cell 1 (v := .int .i64 0) rfl
        have q2 := hS.right.cell 2 (v := .int .i64 0) rfl
        have q3 := hS.right.cell 3 (v := .string ⟨#[]⟩) rfl
        have k0 := hS.right.right.cell 0 (v := .int .u8 0) rfl
        have k1 := hS.right.right.cell 1 (v := .int .i64 0) rfl
        have k2 := hS.right.right.cell 2 (v := .int .i64 0) rfl
        have k3 := hS.right.right.cell 3 (v := .string ⟨#[]⟩) rfl
        have g0 := hS.right.right.free 0
        have g1 := hS.right.right.free 1
        have g2 := hS.right.right.free 2
        have g3 := hS.right.right.free 3
        have hA := hS.right.right.setCell 0 (.int .u8 0)
        have hB := hA.setCell 1 (.int .i64 0)
        have hC := hB.setCell 2 (.int .i64 0)
        have hD := (hC.setCell 3 (.string ⟨#[]⟩)).drew
        have j0 := hA.cell 0 (v := .int .u8 0) rfl
        have j1 := hB.cell 1 (v := .int .i64 0) rfl
        have j2 := hC.cell 2 (v := .int .i64 0) rfl
        have j3 := hD.cell 3 (v := .string ⟨#[]⟩) rfl
        have HEND := Lib.hid hD.right
        clear hS hA hB hC hD
        go_upto_region 9 with fail
        go_big_region
        go_wp2
        refine bodyPost_ret (v := .tuple #[.agg #[.int .u8 0, .int .i64 0, .int .i64 0, .string ⟨#[]⟩], .bool false]) (by simp [results, Tryz.results50, go_sem, j0, j1, j2, j3]) rfl ⟨⟨0, 0, 0, []⟩, false, true, y, rfl, HEND.out, Nat.le_refl _, .inr ⟨rfl, by unfold actP; rw [HSP.out]; rfl⟩⟩
  | some hh =>
    have hmost := shp_most hsp
    obtain ⟨k, c, ss, m⟩ := hh
    rw [hsp] at hlk
    simp only [Option.map_some, Option.getD_some, Option.isSome_some, kS, if_true, shV] at hlk
    obtain ⟨mi, hmi⟩ : ∃ mi, mI m = mi := ⟨_, rfl⟩
    rw [hmi] at hlk
    have HMI := Lib.hid hmi
    have HMO := Lib.hid hmost
    have HSP := Lib.hid hsp
    clear hmi hmost hsp
    have h3 := hmp.alloc (.cells #[.int .u8 (k : Nat), .bool c, .bool ss, .int .i64 mi] 87 (0, 0))
    obtain ⟨b8, hb8⟩ : ∃ b, w2.heap.size = b := ⟨_, rfl⟩
    rw [hb8] at h3
    clear hmp
    go_upto_region 2 with fail
    clear hlk hb8
    generalize w2.alloc (.cells #[.int .u8 (k : Nat), .bool c, .bool ss, .int .i64 mi] 87 (0, 0)) = w3 at *
    have e0 := h3.cell 0 (v := .int .u8 (k : Nat)) rfl
    have h4 := h3.alloc (.cells #[.int .u8 (k : Nat), .int .i64 0, .int .i64 0, .string ⟨([] : Tx).toArray⟩] 34 (0, 0))
    obtain ⟨b10, hb10⟩ : ∃ b, w3.heap.size = b := ⟨_, rfl⟩
    rw [hb10] at h4
    clear h3
    go_upto_region 3 with fail
    clear e0 hb10
    generalize w3.alloc (.cells #[.int .u8 (k : Nat), .int .i64 0, .int .i64 0, .string ⟨([] : Tx).toArray⟩] 34 (0, 0)) = w4 at *
    have h5 := h4.alloc (.cells #[.func (.func 70) #[] #[.pointer (some ⟨b8, 0, none⟩), .pointer (some ⟨b3, 0, none⟩), .pointer (some ⟨b10, 0, none⟩)], .func (.func 71) #[] #[.pointer (some ⟨b8, 0, none⟩), .pointer (some ⟨b3, 0, none⟩), .pointer (some ⟨b10, 0, none⟩)], .func (.func 73) #[] #[.pointer (some ⟨b8, 0, none⟩), .pointer (some ⟨b3, 0, none⟩), .pointer (some ⟨b10, 0, none⟩)]] 1 (0, 0))
    obtain ⟨b12, hb12⟩ : ∃ b, w4.heap.size = b := ⟨_, rfl⟩
    rw [hb12] at h5
    clear h4
    go_wp2_with fail
    clear hb12
    generalize w4.alloc (.cells #[.func (.func 70) #[] #[.pointer (some ⟨b8, 0, none⟩), .pointer (some ⟨b3, 0, none⟩), .pointer (some ⟨b10, 0, none⟩)], .func (.func 71) #[] #[.pointer (some ⟨b8, 0, none⟩), .pointer (some ⟨b3, 0, none⟩), .pointer (some ⟨b10, 0, none⟩)], .func (.func 73) #[] #[.pointer (some ⟨b8, 0, none⟩), .pointer (some ⟨b3, 0, none⟩), .pointer (some ⟨b10, 0, none⟩)]] 1 (0, 0)) = w5 at *
    have hC : St W w5 (star (pt b8 (.cells #[.int .u8 (k : Nat), .bool c, .bool ss, .int .i64 mi] 87 (0, 0))) (star (pt b3 (.cells #[.pointer (some ⟨rb, 0, none⟩)] 89 (0, 0))) (star (pt b10 (.cells #[.int .u8 (k : Nat), .int .i64 0, .int .i64 0, .string ⟨([] : Tx).toArray⟩] 34 (0, 0))) (star (pt rb (.cells #[.string ⟨y.toArray⟩, .bool true] 91 (0, 0))) (star (pt b6 (.cells #[.int .u8 0, .int .i64 0, .int .i64 0, .string ⟨#[]⟩] 34 (0, 0))) (star (pt b12 (.cells #[.func (.func 70) #[] #[.pointer (some ⟨b8, 0, none⟩), .pointer (some ⟨b3, 0, none⟩), .pointer (some ⟨b10, 0, none⟩)], .func (.func 71) #[] #[.pointer (some ⟨b8, 0, none⟩), .pointer (some ⟨b3, 0, none⟩), .pointer (some ⟨b10, 0, none⟩)], .func (.func 73) #[] #[.pointer (some ⟨b8, 0, none⟩), .pointer (some ⟨b3, 0, none⟩), .pointer (some ⟨b10, 0, none⟩)]] 1 (0, 0))) (star (Mp kS mb shM) (R)))))))) := h5.eq (by ac_rfl)
    clear h5 hmf
    go_loopw [27] (fun iv wr => ∃ (i : Nat) (ok : Bool) (xc xn : Int) (xs s : Tx), i ≤ 3 ∧ iv = .int .i64 i ∧ St W wr (star (pt b8 (.cells #[.int .u8 (k : Nat), .bool c, .bool ss, .int .i64 mi] 87 (0, 0))) (star (pt b3 (.cells #[.pointer (some ⟨rb, 0, none⟩)] 89 (0, 0))) (star (pt b10 (.cells #[.int .u8 (k : Nat), .int .i64 xc, .int .i64 xn, .string ⟨(xs).toArray⟩] 34 (0, 0))) (star (pt rb (.cells #[.string ⟨s.toArray⟩, .bool ok] 91 (0, 0))) (star (pt b6 (.cells #[.int .u8 0, .int .i64 0, .int .i64 0, .string ⟨#[]⟩] 34 (0, 0))) (star (pt b12 (.cells #[.func (.func 70) #[] #[.pointer (some ⟨b8, 0, none⟩), .pointer (some ⟨b3, 0, none⟩), .pointer (some ⟨b10, 0, none⟩)], .func (.func 71) #[] #[.pointer (some ⟨b8, 0, none⟩), .pointer (some ⟨b3, 0, none⟩), .pointer (some ⟨b10, 0, none⟩)], .func (.func 73) #[] #[.pointer (some ⟨b8, 0, none⟩), .pointer (some ⟨b3, 0, none⟩), .pointer (some ⟨b10, 0, none⟩)]] 1 (0, 0))) (star (Mp kS mb shM) (R)))))))) ∧ s.length ≤ y.length ∧ Hid (OptR ⟨k, c, ss, m⟩ y i ok xc xn xs s)) (fun iv _ => 3 - (intOf iv).toNat)
    case atStart => exact ⟨0, true, 0, 0, [], y, by omega, rfl, hC, Nat.le_refl _, Lib.hid (OptR.zero _ _)⟩
    case round =>
      obtain ⟨i, ok, xc, xn, xs, s, hi, rfl, hS, hsl, HO⟩ := hrel
      clear hC
      have q0 := hS.right.cell 0 (v := .pointer (some ⟨rb, 0, none⟩)) rfl
      have q1 := hS.right.right.right.cell 1 (v := .bool ok) rfl
      by_cases hi3 : i < 3
      · have hiI : (i : Int) < 3 := by omega
        cases ok with
        | false =>
          have HO2 := Lib.hid (HO.out.fail hi3 xc xn xs s)
          have d0 : ∃ v, wr.cell? ⟨b12, i, none⟩ = some v := by
            have hc : i = 0 ∨ i = 1 ∨ i = 2 := by omega
            rcases hc with rfl | rfl | rfl
            · exact ⟨_, hS.right.right.right.right.right.cell 0 rfl⟩
            · exact ⟨_, hS.right.right.right.right.right.cell 1 rfl⟩
            · exact ⟨_, hS.right.right.right.right.right.cell 2 rfl⟩
          obtain ⟨fv, d0⟩ := d0
          go_wp2_with fail
          exact ⟨⟨i + 1, false, xc, xn, xs, s, hi3, by go_num, hS, hsl, HO2⟩, by simp [intOf]; omega⟩
        | true =>
          have hc : i = 0 ∨ i = 1 ∨ i = 2 := by omega
          rcases hc with rfl | rfl | rfl
          · obtain ⟨rfl, rfl, rfl, rfl⟩ := HO.out.at0
            have d0 := hS.right.right.right.right.right.cell 0 (v := .func (.func 70) #[] #[.pointer (some ⟨b8, 0, none⟩), .pointer (some ⟨b3, 0, none⟩), .pointer (some ⟨b10, 0, none⟩)]) rfl
            have HC1 := Lib.hid (c1_any rb b8 b3 b10 k c ss m mi hG hE 0 [] s (by omega) hS)
            clear hS HO
            go_wp2_with fail
            refine HC1.out.mono ?_
            rintro e w6 ⟨rfl, ok, v, s', h6, hl6, hc6⟩
            have HO := Lib.hid (OptR.s1 hc6)
            clear HC1 hc6 q0 q1 d0
            go_wp2_with fail
            exact ⟨⟨1, ok, v, 0, [], s', by omega, by go_num, h6, by omega, HO⟩, by simp [intOf]⟩
          · obtain ⟨rfl, rfl⟩ := HO.out.at1
            have d0 := hS.right.right.right.right.right.cell 1 (v := .func (.func 71) #[] #[.pointer (some ⟨b8, 0, none⟩), .pointer (some ⟨b3, 0, none⟩), .pointer (some ⟨b10, 0, none⟩)]) rfl
            have HC2 := Lib.hid (c2_any rb b8 b3 b10 k c ss m mi xc 0 s (by omega) hS)
            clear hS
            go_wp2_with fail
            refine HC2.out.mono ?_
            rintro e w6 ⟨rfl, ok, t, s', h6, hl6, hc6⟩
            have HO2 := Lib.hid (HO.out.s2 hc6)
            clear HC2 hc6 q0 q1 d0 HO
            go_wp2_with fail
            exact ⟨⟨2, ok, xc, 0, t, s', by omega, by go_num, h6, by omega, HO2⟩, by simp [intOf]⟩
          · obtain rfl := HO.out.at2
            have d0 := hS.right.right.right.right.right.cell 2 (v := .func (.func 73) #[] #[.pointer (some ⟨b8, 0, none⟩), .pointer (some ⟨b3, 0, none⟩), .pointer (some ⟨b10, 0, none⟩)]) rfl
            have HC3 := Lib.hid (c3_any rb b8 b3 b10 k c ss m mi hG hE HMI.out HMO.out xc xs s (by omega) hS)
            clear hS
            go_wp2_with fail
            refine HC3.out.mono ?_
            rintro e w6 ⟨rfl, ok, v, s', h6, hl6, hc6⟩
            have HO2 := Lib.hid (HO.out.s3 hc6)
            clear HC3 hc6 q0 q1 d0 HO
            go_wp2_with fail
            exact ⟨⟨3, ok, xc, v, xs, s', by omega, by go_num, h6, by omega, HO2⟩, by simp [intOf]⟩
      · obtain rfl : i = 3 := by omega
        go_upto_region 9 with fail
        have HC2 : Hid (∀ w A, St W w (star (pt b3 (.cells #[.pointer (some ⟨rb, 0, none⟩)] 89 (0, 0))) (star (pt b10 (.cells #[.int .u8 (k : Nat), .int .i64 xc, .int .i64 xn, .string ⟨(xs).toArray⟩] 34 (0, 0))) A)) → YC rb b3 b10 k xc xn xs w) := Lib.hid fun w A h => ⟨h.cell 0 rfl, h.right.cell 0 rfl, h.right.cell 1 rfl, h.right.cell 2 rfl, h.right.cell 3 rfl⟩
        have hd := hS.drew
        clear hS q0 q1
        refine wp_region_heldG (YC rb b3 b10 k xc xn xs) [] tr9 (by kernel_rfl) (by kernel_rfl) (HC2.out _ _ hd.right) ?_
        generalize hw9 : World.drew _ = w9 at *
        clear hw9
        unfold tr9
        refine trG_held (.agg #[.int .u8 (k : Nat), .int .i64 xc, .int .i64 xn, .string ⟨xs.toArray⟩]) rfl ?_ (by simp only [nthOp, Act.put, List.setIfInBounds_toArray, List.set_cons_succ, List.set_cons_zero]; rfl) ?_
        · (rintro w' ⟨hr0, hc0, hc1, hc2, hc3⟩; simp only [nthOp]; go_simp)
        refine trG_plain (.bool true) rfl ?_ (by simp only [nthOp, Act.put, List.setIfInBounds_toArray, List.set_cons_succ, List.set_cons_zero]; rfl) ?_
        · exact fun _ => rfl
        refine trG_plain (.bool true) rfl ?_ (by simp only [nthOp, Act.put, List.setIfInBounds_toArray, List.set_cons_succ, List.set_cons_zero]; rfl) ?_
        · exact fun _ => rfl
        refine trG_held (.pointer (some ⟨rb, 0, none⟩)) rfl ?_ (by simp only [nthOp, Act.put, List.setIfInBounds_toArray, List.set_cons_succ, List.set_cons_zero]; rfl) ?_
        · (rintro w' ⟨hr0, hc0, hc1, hc2, hc3⟩; simp only [nthOp]; go_simp)
        have HEn := Lib.hid (ends_any rb s ok (hd.eq (B := star (pt rb (.cells #[.string ⟨s.toArray⟩, .bool ok] 91 (0, 0))) (star (pt b3 (.cells #[.pointer (some ⟨rb, 0, none⟩)] 89 (0, 0))) (star (pt b10 (.cells #[.int .u8 (k : Nat), .int .i64 xc, .int .i64 xn, .string ⟨(xs).toArray⟩] 34 (0, 0))) (star (pt b8 (.cells #[.int .u8 (k : Nat), .bool c, .bool ss, .int .i64 mi] 87 (0, 0))) (star (pt b6 (.cells #[.int .u8 0, .int .i64 0, .int .i64 0, .string ⟨#[]⟩] 34 (0, 0))) (star (pt b12 (.cells #[.func (.func 70) #[] #[.pointer (some ⟨b8, 0, none⟩), .pointer (some ⟨b3, 0, none⟩), .pointer (some ⟨b10, 0, none⟩)], .func (.func 71) #[] #[.pointer (some ⟨b8, 0, none⟩), .pointer (some ⟨b3, 0, none⟩), .pointer (some ⟨b10, 0, none⟩)], .func (.func 73) #[] #[.pointer (some ⟨b8, 0, none⟩), .pointer (some ⟨b3, 0, none⟩), .pointer (some ⟨b10, 0, none⟩)]] 1 (0, 0))) (star (Mp kS mb shM) (R)))))))) (by ac_rfl)))
        have hF := HO.out.fin
        have hbl := bl_le s
        obtain ⟨b, hb⟩ : ∃ b, (ok && decide (bl s = [])) = b := ⟨_, rfl⟩
        obtain ⟨s', hs'⟩ : ∃ s', bl s = s' := ⟨_, rfl⟩
        rw [hs'] at hbl
        rw [hb] at HEn hF
        rw [hs'] at HEn
        have HF := Lib.hid hF
        clear hb hs' hd hF HO
        refine trG_one ?_
        simp only [nthOp]
        go_wp2_with fail
        refine HEn.out.mono ?_
        rintro e wu ⟨rfl, h9⟩
        clear HEn
        go_wp2_with fail
        simp only [Reg.Next]
        refine ⟨fun _ => HC2.out _ _ h9.right, ?_⟩
        refine trG_plain (.bool b) rfl ?_ (by simp only [nthOp, Act.put, List.setIfInBounds_toArray, List.set_cons_succ, List.set_cons_zero]; rfl) ?_
        · (intro w'; simp only [nthOp]; go_simp)
        have h10 := h9.eq (B := star (pt b6 (.cells #[.int .u8 0, .int .i64 0, .int .i64 0, .string ⟨#[]⟩] 34 (0, 0))) (star (pt b3 (.cells #[.pointer (some ⟨rb, 0, none⟩)] 89 (0, 0))) (star (pt b10 (.cells #[.int .u8 (k : Nat), .int .i64 xc, .int .i64 xn, .string ⟨(xs).toArray⟩] 34 (0, 0))) (star (pt rb (.cells #[.string ⟨s'.toArray⟩, .bool ok] 91 (0, 0))) (star (pt b8 (.cells #[.int .u8 (k : Nat), .bool c, .bool ss, .int .i64 mi] 87 (0, 0))) (star (pt b12 (.cells #[.func (.func 70) #[] #[.pointer (some ⟨b8, 0, none⟩), .pointer (some ⟨b3, 0, none⟩), .pointer (some ⟨b10, 0, none⟩)], .func (.func 71) #[] #[.pointer (some ⟨b8, 0, none⟩), .pointer (some ⟨b3, 0, none⟩), .pointer (some ⟨b10, 0, none⟩)], .func (.func 73) #[] #[.pointer (some ⟨b8, 0, none⟩), .pointer (some ⟨b3, 0, none⟩), .pointer (some ⟨b10, 0, none⟩)]] 1 (0, 0))) (star (Mp kS mb shM) (R)))))))) (by ac_rfl)
        clear h9
        have k0 := h10.cell 0 (v := .int .u8 0) rfl
        have k1 := h10.cell 1 (v := .int .i64 0) rfl
        have k2 := h10.cell 2 (v := .int .i64 0) rfl
        have k3 := h10.cell 3 (v := .string ⟨#[]⟩) rfl
        have g0 := h10.free 0
        have g1 := h10.free 1
        have g2 := h10.free 2
        have g3 := h10.free 3
        have hA := h10.setCell 0 (.int .u8 (k : Nat))
        have hB := hA.setCell 1 (.int .i64 xc)
        have hC := hB.setCell 2 (.int .i64 xn)
        have hD := hC.setCell 3 (.string ⟨xs.toArray⟩)
        clear h10 hA hB hC
        refine trG_one ?_
        simp only [nthOp]
        go_wp2_with fail
        clear k0 k1 k2 k3 g0 g1 g2 g3
        generalize (((wu.setCell ⟨b6, 0, none⟩ (.int .u8 (k : Nat))).setCell ⟨b6, 1, none⟩ (.int .i64 xc)).setCell ⟨b6, 2, none⟩ (.int .i64 xn)).setCell ⟨b6, 3, none⟩ (.string ⟨xs.toArray⟩) = wv at *
        simp only [Reg.Next]
        refine ⟨fun _ => HC2.out _ _ hD.right, ?_⟩
        refine trG_plain (.bool b) rfl ?_ (by simp only [nthOp, Act.put, List.setIfInBounds_toArray, List.set_cons_succ, List.set_cons_zero]; rfl) ?_
        · exact fun _ => rfl
        refine trG_done ?_
        have j0 := hD.cell 0 (v := .int .u8 (k : Nat)) rfl
        have j1 := hD.cell 1 (v := .int .i64 xc) rfl
        have j2 := hD.cell 2 (v := .int .i64 xn) rfl
        have j3 := hD.cell 3 (v := .string ⟨xs.toArray⟩) rfl
        have hend : St W wv (star (pt rb (.cells #[.string ⟨s'.toArray⟩, .bool ok] 91 (0, 0))) (star (Mp kS mb shM) (R))) := ((hD.eq (B := star (star (pt b6 (.cells #[.int .u8 (k : Nat), .int .i64 xc, .int .i64 xn, .string ⟨xs.toArray⟩] 34 (0, 0))) (star (pt b3 (.cells #[.pointer (some ⟨rb, 0, none⟩)] 89 (0, 0))) (star (pt b10 (.cells #[.int .u8 (k : Nat), .int .i64 xc, .int .i64 xn, .string ⟨(xs).toArray⟩] 34 (0, 0))) (star (pt b8 (.cells #[.int .u8 (k : Nat), .bool c, .bool ss, .int .i64 mi] 87 (0, 0))) (pt b12 (.cells #[.func (.func 70) #[] #[.pointer (some ⟨b8, 0, none⟩), .pointer (some ⟨b3, 0, none⟩), .pointer (some ⟨b10, 0, none⟩)], .func (.func 71) #[] #[.pointer (some ⟨b8, 0, none⟩), .pointer (some ⟨b3, 0, none⟩), .pointer (some ⟨b10, 0, none⟩)], .func (.func 73) #[] #[.pointer (some ⟨b8, 0, none⟩), .pointer (some ⟨b3, 0, none⟩), .pointer (some ⟨b10, 0, none⟩)]] 1 (0, 0))))))) (star (pt rb (.cells #[.string ⟨s'.toArray⟩, .bool ok] 91 (0, 0))) (star (Mp kS mb shM) (R)))) (by
          show star (pt b6 (.cells #[.int .u8 (k : Nat), .int .i64 xc, .int .i64 xn, .string ⟨xs.toArray⟩] 34 (0, 0))) _ = _
          ac_rfl))).right
        have HEND := Lib.hid hend
        clear hD hend
        go_wp2
        refine bodyPost_ret (v := .tuple #[.agg #[.int .u8 (k : Nat), .int .i64 xc, .int .i64 xn, .string ⟨xs.toArray⟩], .bool b]) (by simp [results, Tryz.results50, go_sem, j0, j1, j2, j3]) rfl ⟨⟨k, xc, xn, xs⟩, b, ok, s', rfl, HEND.out, by omega, ?_⟩
        cases b with
        | true => exact .inl ⟨rfl, by unfold actP; rw [HSP.out]; exact HF.out.1 rfl⟩
        | false => exact .inr ⟨rfl, by unfold actP; rw [HSP.out]; exact HF.out.2 rfl⟩
end Go.Proofs.YtcjlbimmplejjaaGreatDoor.ScC
