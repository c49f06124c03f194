import Derived.Test.YtcjlbimmplejjaaGreatDoorScNu
import Derived.MapKept
namespace Go.Proofs.YtcjlbimmplejjaaGreatDoor.ScPa
open Go Go.RowKit Go.Proofs Go.Proofs.YtcjlbimmplejjaaGreatDoor.Sep Go.Proofs.YtcjlbimmplejjaaGreatDoor.Reg Go.Proofs.YtcjlbimmplejjaaGreatDoor.Fork Go.Proofs.YtcjlbimmplejjaaGreatDoor.Held Go.Proofs.YtcjlbimmplejjaaGreatDoor.Frame Go.Proofs.YtcjlbimmplejjaaGreatDoor.WdP Go.Proofs.YtcjlbimmplejjaaGreatDoor.WdT Go.Proofs.YtcjlbimmplejjaaGreatDoor.ScP Go.Proofs.YtcjlbimmplejjaaGreatDoor.ScB Go.Proofs.YtcjlbimmplejjaaGreatDoor.ScM Go.Proofs.YtcjlbimmplejjaaGreatDoor.ScW Go.Proofs.YtcjlbimmplejjaaGreatDoor.ScNu

/-- What a kind of acts has, as the document tells it. -/
def shW (k : Nat) : Tx := match kin k with | some e => e.1 | none => []
def shC (k : Nat) : Bool := match kin k with | some e => e.2.c | none => false
def shS (k : Nat) : Bool := match kin k with | some e => e.2.s | none => false
def shN (k : Nat) : Int := match kin k with | some e => (match e.2.m with | some m => (m : Int) | none => -1) | none => -1
theorem kin_none {k : Nat} (h : ∀ j, 1 ≤ j → j ≤ 9 → k ≠ j) : kin k = none := by
  unfold kin
  refine List.find?_eq_none.2 fun e he => ?_
  have : ∀ e ∈ shps, 1 ≤ e.2.k ∧ e.2.k ≤ 9 := by decide
  obtain ⟨h1, h2⟩ := this e he
  have := h e.2.k h1 h2
  simp only [beq_iff_eq]
  exact fun h => this h.symm
theorem results_tmp4 {fn : Func} {t u v x : Tmp} (h : fn.results = #[.tmp t, .tmp u, .tmp v, .tmp x]) (tmps : Array Value) (P : Program) (w : World) :
    (results fn tmps).run P w = .ok (.tuple #[tmps.getD t undef, tmps.getD u undef, tmps.getD v undef, tmps.getD x undef]) w := by
  simp [results, h]
def shT (k : Nat) : Value := .tuple #[.string ⟨(shW k).toArray⟩, .bool (shC k), .bool (shS k), .int .i64 (shN k)]
set_option maxRecDepth 100000 in
set_option maxHeartbeats 4000000 in
theorem Shape_any (k : Nat) (w : World) : Calls Tryz.prog 30 #[.int .u8 k] w fun e w' => e = .returned (shT k) ∧ w' = w := by
  by_cases hk : 1 ≤ k ∧ k ≤ 9
  · have hk9 : k = 1 ∨ k = 2 ∨ k = 3 ∨ k = 4 ∨ k = 5 ∨ k = 6 ∨ k = 7 ∨ k = 8 ∨ k = 9 := by omega
    rcases hk9 with rfl | rfl | rfl | rfl | rfl | rfl | rfl | rfl | rfl
    · go_enter Tryz.func30, Tryz.ntmps30
      go_wp2
      (try simp only [Exit.inBlock, Exit.then])
      refine bodyPost_ret (results_tmp4 rfl _ _ _) rfl ?_
      exact ⟨rfl, rfl⟩
    · go_enter Tryz.func30, Tryz.ntmps30
      go_wp2
      (try simp only [Exit.inBlock, Exit.then])
      refine bodyPost_ret (results_tmp4 rfl _ _ _) rfl ?_
      exact ⟨rfl, rfl⟩
    · go_enter Tryz.func30, Tryz.ntmps30
      go_wp2
      (try simp only [Exit.inBlock, Exit.then])
      refine bodyPost_ret (results_tmp4 rfl _ _ _) rfl ?_
      exact ⟨rfl, rfl⟩
    · go_enter Tryz.func30, Tryz.ntmps30
      go_wp2
      (try simp only [Exit.inBlock, Exit.then])
      refine bodyPost_ret (results_tmp4 rfl _ _ _) rfl ?_
      exact ⟨rfl, rfl⟩
    · go_enter Tryz.func30, Tryz.ntmps30
      go_wp2
      (try simp only [Exit.inBlock, Exit.then])
      refine bodyPost_ret (results_tmp4 rfl _ _ _) rfl ?_
      exact ⟨rfl, rfl⟩
    · go_enter Tryz.func30, Tryz.ntmps30
      go_wp2
      (try simp only [Exit.inBlock, Exit.then])
      refine bodyPost_ret (results_tmp4 rfl _ _ _) rfl ?_
      exact ⟨rfl, rfl⟩
    · go_enter Tryz.func30, Tryz.ntmps30
      go_wp2
      (try simp only [Exit.inBlock, Exit.then])
      refine bodyPost_ret (results_tmp4 rfl _ _ _) rfl ?_
      exact ⟨rfl, rfl⟩
    · go_enter Tryz.func30, Tryz.ntmps30
      go_wp2
      (try simp only [Exit.inBlock, Exit.then])
      refine bodyPost_ret (results_tmp4 rfl _ _ _) rfl ?_
      exact ⟨rfl, rfl⟩
    · go_enter Tryz.func30, Tryz.ntmps30
      go_wp2
      (try simp only [Exit.inBlock, Exit.then])
      refine bodyPost_ret (results_tmp4 rfl _ _ _) rfl ?_
      exact ⟨rfl, rfl⟩
  · have hn := kin_none (k := k) fun j h1 h9 => by omega
    have hT : shT k = .tuple #[.string ⟨#[]⟩, .bool false, .bool false, .int .i64 (-1)] := by unfold shT shW shC shS shN; rw [hn]
    have n1 : ((k : Int) == 1) = false := by rw [beq_eq_false_iff_ne]; omega
    have n2 : ((k : Int) == 2) = false := by rw [beq_eq_false_iff_ne]; omega
    have n3 : ((k : Int) == 3) = false := by rw [beq_eq_false_iff_ne]; omega
    have n4 : ((k : Int) == 4) = false := by rw [beq_eq_false_iff_ne]; omega
    have n5 : ((k : Int) == 5) = false := by rw [beq_eq_false_iff_ne]; omega
    have n6 : ((k : Int) == 6) = false := by rw [beq_eq_false_iff_ne]; omega
    have n7 : ((k : Int) == 7) = false := by rw [beq_eq_false_iff_ne]; omega
    have n8 : ((k : Int) == 8) = false := by rw [beq_eq_false_iff_ne]; omega
    have n9 : ((k : Int) == 9) = false := by rw [beq_eq_false_iff_ne]; omega
    have HT := Lib.hid hT
    clear hn hT hk
    go_enter Tryz.func30, Tryz.ntmps30
    go_wp2
    (try simp only [Exit.inBlock, Exit.then])
    refine bodyPost_ret (results_tmp4 rfl _ _ _) rfl ?_
    exact ⟨by rw [HT.out]; rfl, rfl⟩
set_option maxRecDepth 100000 in
set_option maxHeartbeats 4000000 in
theorem digits_any : ∀ n : Nat, n ≤ 4000000000 → ∀ (W w : World) (R : Asn), St W w R → Calls Tryz.prog 40 #[.int .i64 n] w fun e w' => e = .returned (.string ⟨(Lib.decDigits n).toArray⟩) ∧ St W w' R := by
  intro n
  induction n using Nat.strongRecOn with
  | _ n ih =>
  intro hn W w R h
  have IH := Lib.hid ih
  clear ih
  by_cases h10 : n < 10
  · have h10I : (n : Int) < 10 := by omega
    have hdd := Lib.decDigits_one h10
    have hby : ((UInt8.ofNat (48 + n)).toNat : Int) = (48 + n : Nat) := by
      have : (UInt8.ofNat (48 + n)).toNat = 48 + n := by simp; omega
      rw [this]
    obtain ⟨c, hc⟩ : ∃ c, UInt8.ofNat (48 + n) = c := ⟨_, rfl⟩
    rw [hc] at hdd hby
    have hcI : (48 : Int) + n = (c.toNat : Int) := by omega
    have hlt := c.toNat_lt
    have hcv := run_string_one (P := Tryz.prog) 67 9 5 Tryz.underlying67 Tryz.underlying5 Tryz.underlying9 w w.heap.size rfl (c.toNat : Int) c.toNat rfl hlt (0, 0)
    rw [show UInt8.ofNat c.toNat = c from by simp] at hcv
    have HD := Lib.hid hdd
    have hA := h.alloc (.cells #[.int .u8 c.toNat] 5 (0, 0))
    have H2 := Lib.hid hA.right
    clear hA h IH hdd hby hc
    go_enter Tryz.func40, Tryz.ntmps40
    go_wp2
    go_ret
    exact ⟨by rw [HD.out]; rfl, H2.out⟩
  · have h10I : ¬ (n : Int) < 10 := by omega
    obtain ⟨q, hq⟩ : ∃ q, n / 10 = q := ⟨_, rfl⟩
    obtain ⟨r, hr⟩ : ∃ r, n % 10 = r := ⟨_, rfl⟩
    have hdm := dec_more (n := n) (by omega)
    rw [hq, hr] at hdm
    have hr10 : r < 10 := by omega
    rw [← Lib.decDigits_one hr10] at hdm
    have hqI : (n : Int).tdiv 10 = (q : Int) := by rw [Int.tdiv_eq_ediv_of_nonneg (by omega)]; omega
    have hrI : (n : Int).tmod 10 = (r : Int) := by rw [Int.tmod_eq_emod_of_nonneg (by omega)]; omega
    have hIQ : ∀ (w : World) (A : Asn), St W w A → Calls Tryz.prog 40 #[.int .i64 q] w fun e w' => e = .returned (.string ⟨(Lib.decDigits q).toArray⟩) ∧ St W w' A := fun w A hS => IH.out q (by omega) (by omega) W w A hS
    have hIR : ∀ (w : World) (A : Asn), St W w A → Calls Tryz.prog 40 #[.int .i64 r] w fun e w' => e = .returned (.string ⟨(Lib.decDigits r).toArray⟩) ∧ St W w' A := fun w A hS => IH.out r (by omega) (by omega) W w A hS
    have hbl := ScNu.dec_len q
    have hbr := ScNu.dec_len r
    have hq6 : q ≤ 4000000000 := by omega
    have hadd := run_str_add (P := Tryz.prog) (Lib.decDigits q) (Lib.decDigits r) (by omega)
    rw [← hdm] at hadd
    obtain ⟨D, hD⟩ : ∃ D, Lib.decDigits n = D := ⟨_, rfl⟩
    obtain ⟨E, hE⟩ : ∃ E, Lib.decDigits q = E := ⟨_, rfl⟩
    obtain ⟨E', hE'⟩ : ∃ E, Lib.decDigits r = E := ⟨_, rfl⟩
    rw [hE] at hadd hIQ
    rw [hE'] at hadd hIR
    rw [hD] at hadd ⊢
    have HIQ := Lib.hid hIQ
    have HIR := Lib.hid hIR
    have HADD := Lib.hid hadd
    clear hadd hdm hD hE hE' hq hr hbl hbr hIQ hIR IH
    go_enter Tryz.func40, Tryz.ntmps40
    have HI1 := Lib.hid (HIQ.out _ _ h)
    clear h
    go_wp2_with fail
    refine HI1.out.mono ?_
    rintro e w5 ⟨rfl, h5⟩
    have HI2 := Lib.hid (HIR.out _ _ h5)
    clear h5 HI1
    go_wp2_with fail
    refine HI2.out.mono ?_
    rintro e w6 ⟨rfl, h6⟩
    have HF := Lib.hid h6
    have hadd := HADD.out
    clear h6 HI2
    go_wp2
    go_ret
    exact ⟨rfl, HF.out⟩
/-- Right, by its parts. -/
def rightT (c s : Bool) (m : Int) (x : Ac) : Bool := (if c then decide (0 ≤ x.c ∧ x.c < 8) else x.c == 0) && (if s then decide (x.s.length ≤ 4096) else x.s == []) && (if 0 ≤ m then decide (0 ≤ x.n ∧ x.n ≤ m) else x.n == 0)
theorem right_parts (x : Ac) : rightA x = (match kin x.k with | none => false | some _ => rightT (shC x.k) (shS x.k) (shN x.k) x) := by
  unfold rightA rightT shC shS shN
  cases kin x.k with
  | none => rfl
  | some e =>
    obtain ⟨w, k, c, s, m⟩ := e
    cases m with
    | none => rfl
    | some m => simp only [Int.natCast_nonneg, if_true]
theorem sh_ne {k : Nat} {e : Tx × Shp} (h : kin k = some e) : shW k ≠ [] := by
  unfold shW; rw [h]
  exact (shps_all e (kin_mem h).1).2.1
theorem sh_cases {k : Nat} {e : Tx × Shp} (h : kin k = some e) : (shC k = false ∧ shS k = false ∧ shN k = -1) ∨ (shC k = true ∧ shS k = true ∧ shN k = -1) ∨ (shC k = true ∧ shS k = false ∧ shN k = -1) ∨ (shC k = true ∧ shS k = false ∧ 0 ≤ shN k ∧ shN k ≤ 2147483647) ∨ (shC k = false ∧ shS k = false ∧ 0 ≤ shN k ∧ shN k ≤ 2147483647) := by
  have hm := kin_mem h
  have : 1 ≤ k ∧ k ≤ 9 := by
    rw [← hm.2]
    have : ∀ e ∈ shps, 1 ≤ e.2.k ∧ e.2.k ≤ 9 := by decide
    exact this e hm.1
  clear hm h
  have hk9 : k = 1 ∨ k = 2 ∨ k = 3 ∨ k = 4 ∨ k = 5 ∨ k = 6 ∨ k = 7 ∨ k = 8 ∨ k = 9 := by omega
  rcases hk9 with rfl | rfl | rfl | rfl | rfl | rfl | rfl | rfl | rfl <;> decide
set_option maxRecDepth 100000 in
set_option maxHeartbeats 16000000 in
theorem rRight_any (x : Ac) {W w : World} {R : Asn} (h : St W w R) : Calls Tryz.prog 14 #[.agg #[.int .u8 (x.k : Nat), .int .i64 x.c, .int .i64 x.n, .string ⟨x.s.toArray⟩]] w fun e w' => e = .returned (.bool (rightA x)) ∧ St W w' R := by
  obtain ⟨xk, xc, xn, xs⟩ := x
  have hrp := right_parts ⟨xk, xc, xn, xs⟩
  simp only at hrp
  have h1 := h.alloc (.cells #[.int .u8 (xk : Nat), .int .i64 xc, .int .i64 xn, .string ⟨xs.toArray⟩] 34 (0, 0))
  obtain ⟨xb, hxb⟩ : ∃ z, w.heap.size = z := ⟨_, rfl⟩
  rw [hxb] at h1
  have c0 := h1.cell 0 (v := .int .u8 (xk : Nat)) rfl
  have c1 := h1.cell 1 (v := .int .i64 xc) rfl
  have c2 := h1.cell 2 (v := .int .i64 xn) rfl
  have c3 := h1.cell 3 (v := .string ⟨xs.toArray⟩) rfl
  have H1 := Lib.hid h1.right
  have HSp := Lib.hid (Shape_any xk (w.alloc (.cells #[.int .u8 (xk : Nat), .int .i64 xc, .int .i64 xn, .string ⟨xs.toArray⟩] 34 (0, 0))))
  clear h h1
  cases hk : kin xk with
  | none =>
    rw [hk] at hrp
    have hsT : shT xk = .tuple #[.string ⟨#[]⟩, .bool false, .bool false, .int .i64 (-1)] := by unfold shT shW shC shS shN; rw [hk]
    rw [hsT] at HSp
    rw [hrp]
    clear hk hrp hsT
    go_enter Tryz.func14, Tryz.ntmps14
    go_wp2_with fail
    refine HSp.out.mono ?_
    rintro e w2 ⟨rfl, rfl⟩
    clear HSp
    go_wp2
    go_ret
    exact ⟨rfl, H1.out⟩
  | some e =>
    rw [hk] at hrp
    simp only at hrp
    have hne := sh_ne hk
    have hsc := sh_cases hk
    unfold shT at HSp
    generalize shW xk = sw at *
    obtain ⟨sa, sw, rfl⟩ := List.exists_cons_of_ne_nil hne
    generalize shC xk = sc at *
    generalize shS xk = ss at *
    generalize shN xk = sn at *
    rw [hrp]
    clear hk hrp
    clear hne
    go_enter Tryz.func14, Tryz.ntmps14
    go_wp2_with fail
    refine HSp.out.mono ?_
    rintro e w2 ⟨rfl, rfl⟩
    clear HSp
    rcases hsc with ⟨rfl, rfl, rfl⟩ | ⟨rfl, rfl, rfl⟩ | ⟨rfl, rfl, rfl⟩ | ⟨rfl, rfl, hn1, hn2⟩ | ⟨rfl, rfl, hn1, hn2⟩
    · skip
      by_cases hc0 : xc = 0
      · subst hc0
        by_cases hs0 : xs = []
        · subst hs0
          by_cases hn0 : xn = 0
          · subst hn0
            have HR : Hid (rightT false false (-1) ⟨xk, 0, 0, []⟩ = true) := Lib.hid (by unfold rightT; simp; try omega)
            go_wp2
            go_ret
            exact ⟨by rw [HR.out]; rfl, H1.out⟩
          · have n0I : (xn != 0) = true := by rw [bne_iff_ne]; exact hn0
            have HR : Hid (rightT false false (-1) ⟨xk, 0, xn, []⟩ = false) := Lib.hid (by unfold rightT; simp; try omega)
            go_wp2
            go_ret
            exact ⟨by rw [HR.out]; rfl, H1.out⟩
        · obtain ⟨b, bs, rfl⟩ := List.exists_cons_of_ne_nil hs0
          have HR : Hid (rightT false false (-1) ⟨xk, 0, xn, (b :: bs)⟩ = false) := Lib.hid (by unfold rightT; simp; try omega)
          go_wp2
          go_ret
          exact ⟨by rw [HR.out]; rfl, H1.out⟩
      · have c0I : (xc != 0) = true := by rw [bne_iff_ne]; exact hc0
        have HR : Hid (rightT false false (-1) ⟨xk, xc, xn, xs⟩ = false) := Lib.hid (by unfold rightT; simp; try omega)
        go_wp2
        go_ret
        exact ⟨by rw [HR.out]; rfl, H1.out⟩
    · skip
      by_cases hn0 : xn = 0
      · subst hn0
        by_cases hcl : 0 ≤ xc
        · skip
          by_cases hch : xc < 8
          · skip
            by_cases hsl : (xs.length : Int) ≤ 4096
            · skip
              have hsd : decide ((xs.length : Int) ≤ 4096) = true := decide_eq_true hsl
              have HR : Hid (rightT true true (-1) ⟨xk, xc, 0, xs⟩ = true) := Lib.hid (by unfold rightT; simp; try omega)
              go_wp2
              go_ret
              exact ⟨by rw [HR.out, ← hsd]; rfl, H1.out⟩
            · skip
              have hsd : decide ((xs.length : Int) ≤ 4096) = false := decide_eq_false hsl
              have HR : Hid (rightT true true (-1) ⟨xk, xc, 0, xs⟩ = false) := Lib.hid (by unfold rightT; simp; try omega)
              go_wp2
              go_ret
              exact ⟨by rw [HR.out, ← hsd]; rfl, H1.out⟩
          · skip
            have HR : Hid (rightT true true (-1) ⟨xk, xc, 0, xs⟩ = false) := Lib.hid (by unfold rightT; simp; try omega)
            go_wp2
            go_ret
            exact ⟨by rw [HR.out]; rfl, H1.out⟩
        · skip
          have HR : Hid (rightT true true (-1) ⟨xk, xc, 0, xs⟩ = false) := Lib.hid (by unfold rightT; simp; try omega)
          go_wp2
          go_ret
          exact ⟨by rw [HR.out]; rfl, H1.out⟩
      · have n0I : (xn != 0) = true := by rw [bne_iff_ne]; exact hn0
        have HR : Hid (rightT true true (-1) ⟨xk, xc, xn, xs⟩ = false) := Lib.hid (by unfold rightT; simp; try omega)
        go_wp2
        go_ret
        exact ⟨by rw [HR.out]; rfl, H1.out⟩
    · skip
      by_cases hs0 : xs = []
      · subst hs0
        by_cases hn0 : xn = 0
        · subst hn0
          by_cases hcl : 0 ≤ xc
          · skip
            by_cases hch : xc < 8
            · skip
              have HR : Hid (rightT true false (-1) ⟨xk, xc, 0, []⟩ = true) := Lib.hid (by unfold rightT; simp; try omega)
              go_wp2
              go_ret
              exact ⟨by rw [HR.out]; rfl, H1.out⟩
            · skip
              have HR : Hid (rightT true false (-1) ⟨xk, xc, 0, []⟩ = false) := Lib.hid (by unfold rightT; simp; try omega)
              go_wp2
              go_ret
              exact ⟨by rw [HR.out]; rfl, H1.out⟩
          · skip
            have HR : Hid (rightT true false (-1) ⟨xk, xc, 0, []⟩ = false) := Lib.hid (by unfold rightT; simp; try omega)
            go_wp2
            go_ret
            exact ⟨by rw [HR.out]; rfl, H1.out⟩
        · have n0I : (xn != 0) = true := by rw [bne_iff_ne]; exact hn0
          have HR : Hid (rightT true false (-1) ⟨xk, xc, xn, []⟩ = false) := Lib.hid (by unfold rightT; simp; try omega)
          go_wp2
          go_ret
          exact ⟨by rw [HR.out]; rfl, H1.out⟩
      · obtain ⟨b, bs, rfl⟩ := List.exists_cons_of_ne_nil hs0
        have HR : Hid (rightT true false (-1) ⟨xk, xc, xn, (b :: bs)⟩ = false) := Lib.hid (by unfold rightT; simp; try omega)
        go_wp2
        go_ret
        exact ⟨by rw [HR.out]; rfl, H1.out⟩
    · skip
      have hnn : ¬ sn < 0 := by omega
      have hmx : max sn 0 = sn := by omega
      by_cases hs0 : xs = []
      · subst hs0
        by_cases hcl : 0 ≤ xc
        · skip
          by_cases hch : xc < 8
          · skip
            by_cases hnl : 0 ≤ xn
            · skip
              by_cases hnh : xn ≤ sn
              · skip
                have HR : Hid (rightT true false sn ⟨xk, xc, xn, []⟩ = true) := Lib.hid (by unfold rightT; rw [if_pos hn1]; simp; try omega)
                go_wp2
                go_ret
                exact ⟨by rw [HR.out]; rfl, H1.out⟩
              · skip
                have HR : Hid (rightT true false sn ⟨xk, xc, xn, []⟩ = false) := Lib.hid (by unfold rightT; rw [if_pos hn1]; simp; try omega)
                go_wp2
                go_ret
                exact ⟨by rw [HR.out]; rfl, H1.out⟩
            · skip
              have HR : Hid (rightT true false sn ⟨xk, xc, xn, []⟩ = false) := Lib.hid (by unfold rightT; rw [if_pos hn1]; simp; try omega)
              go_wp2
              go_ret
              exact ⟨by rw [HR.out]; rfl, H1.out⟩
          · skip
            have HR : Hid (rightT true false sn ⟨xk, xc, xn, []⟩ = false) := Lib.hid (by unfold rightT; rw [if_pos hn1]; simp; try omega)
            go_wp2
            go_ret
            exact ⟨by rw [HR.out]; rfl, H1.out⟩
        · skip
          have HR : Hid (rightT true false sn ⟨xk, xc, xn, []⟩ = false) := Lib.hid (by unfold rightT; rw [if_pos hn1]; simp; try omega)
          go_wp2
          go_ret
          exact ⟨by rw [HR.out]; rfl, H1.out⟩
      · obtain ⟨b, bs, rfl⟩ := List.exists_cons_of_ne_nil hs0
        have HR : Hid (rightT true false sn ⟨xk, xc, xn, (b :: bs)⟩ = false) := Lib.hid (by unfold rightT; rw [if_pos hn1]; simp; try omega)
        go_wp2
        go_ret
        exact ⟨by rw [HR.out]; rfl, H1.out⟩
    · skip
      have hnn : ¬ sn < 0 := by omega
      have hmx : max sn 0 = sn := by omega
      by_cases hc0 : xc = 0
      · subst hc0
        by_cases hs0 : xs = []
        · subst hs0
          by_cases hnl : 0 ≤ xn
          · skip
            by_cases hnh : xn ≤ sn
            · skip
              have HR : Hid (rightT false false sn ⟨xk, 0, xn, []⟩ = true) := Lib.hid (by unfold rightT; rw [if_pos hn1]; simp; try omega)
              go_wp2
              go_ret
              exact ⟨by rw [HR.out]; rfl, H1.out⟩
            · skip
              have HR : Hid (rightT false false sn ⟨xk, 0, xn, []⟩ = false) := Lib.hid (by unfold rightT; rw [if_pos hn1]; simp; try omega)
              go_wp2
              go_ret
              exact ⟨by rw [HR.out]; rfl, H1.out⟩
          · skip
            have HR : Hid (rightT false false sn ⟨xk, 0, xn, []⟩ = false) := Lib.hid (by unfold rightT; rw [if_pos hn1]; simp; try omega)
            go_wp2
            go_ret
            exact ⟨by rw [HR.out]; rfl, H1.out⟩
        · obtain ⟨b, bs, rfl⟩ := List.exists_cons_of_ne_nil hs0
          have HR : Hid (rightT false false sn ⟨xk, 0, xn, (b :: bs)⟩ = false) := Lib.hid (by unfold rightT; rw [if_pos hn1]; simp; try omega)
          go_wp2
          go_ret
          exact ⟨by rw [HR.out]; rfl, H1.out⟩
      · have c0I : (xc != 0) = true := by rw [bne_iff_ne]; exact hc0
        have HR : Hid (rightT false false sn ⟨xk, xc, xn, xs⟩ = false) := Lib.hid (by unfold rightT; rw [if_pos hn1]; simp; try omega)
        go_wp2
        go_ret
        exact ⟨by rw [HR.out]; rfl, H1.out⟩
end Go.Proofs.YtcjlbimmplejjaaGreatDoor.ScPa
