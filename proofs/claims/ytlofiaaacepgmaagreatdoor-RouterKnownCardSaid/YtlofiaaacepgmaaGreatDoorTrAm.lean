import Derived.Test.YtlofiaaacepgmaaGreatDoorTrM
import Derived.Test.YtlofiaaacepgmaaGreatDoorReg
import Derived.Test.YtlofiaaacepgmaaGreatDoorProg
import Derived.Deep.Cut
import Derived.Carry
import Derived.WalkSpells
import Derived.BigQuiet
import Derived.Deep.Draws
namespace Go.Proofs.YtlofiaaacepgmaaGreatDoor.TrAm
open Go Go.RowKit Go.Proofs Go.Proofs.YtlofiaaacepgmaaGreatDoor.Sep Go.Proofs.YtlofiaaacepgmaaGreatDoor.Reg Go.Proofs.YtlofiaaacepgmaaGreatDoor.Frame Go.Proofs.YtlofiaaacepgmaaGreatDoor.Strs Go.Proofs.YtlofiaaacepgmaaGreatDoor.Mp Go.Proofs.YtlofiaaacepgmaaGreatDoor.TrP Go.Proofs.YtlofiaaacepgmaaGreatDoor.TrM

abbrev nt : TypeId := 80
theorem pV_case (o : Option Nat) : pV o = .pointer none ∨ ∃ b, pV o = .pointer (some ⟨b, 0, none⟩) := by
  cases o with
  | none => exact .inl rfl
  | some b => exact .inr ⟨b, rfl⟩
theorem byte_no {x c : UInt8} (h : x ≠ c) : ((x.toNat : Int) == (c.toNat : Int)) = false := by
  simp only [beq_eq_false_iff_ne, ne_eq]
  intro e
  exact h (UInt8.toNat_inj.1 (by omega))
theorem head_get (s : Tx) (hsz : 0 < (ByteArray.mk s.toArray).size) : s.head? = some ((ByteArray.mk s.toArray)[0]'hsz) := by
  cases s with
  | nil => simp [ByteArray.size] at hsz
  | cons c t => rfl
section
variable {W w : World} {R : Asn} {F : Bag} {p : Nat} {nd : Nd}
theorem takeN (h : St W w (star (Nds nt F) R)) (hd : (F.map (·.1)).Nodup) (hn : getM p F = some nd) : St W w (star (pt p (.cells (ndC nd) nt (0, 0))) (star (litA nd.lb nd.lit) (star (Nds nt (delM p F)) R))) :=
  h.eq (by rw [Nds_take hd hn]; unfold NdA; simp only [star_assoc])
theorem backN {nd' : Nd} (hd : (F.map (·.1)).Nodup) (hn : getM p F = some nd) (h : St W w (star (pt p (.cells (ndC nd') nt (0, 0))) (star (litA nd'.lb nd'.lit) (star (Nds nt (delM p F)) R)))) : St W w (star (Nds nt (putM p nd' F)) R) :=
  h.eq (by rw [Nds_put hd hn]; unfold NdA; simp only [star_assoc])
theorem ltN (h : St W w (star (Nds nt F) R)) (hd : (F.map (·.1)).Nodup) : ∀ q ∈ F.map (·.1), q < w.heap.size := by
  intro q hq
  cases e : getM q F with
  | none => exact absurd hq (getM_none.1 e)
  | some n => exact (takeN h hd e).lt
/-- Below a node, by a text. -/
theorem lit_look {lb : Option Nat} {lit : List (Tx × Nat)} (h : St W w (star (litA lb lit) R)) (s : Tx) : (Instr.lookup 78 (.map lb) (.string ⟨s.toArray⟩) false).run Tryz.prog w = .ok (pV (getM s lit)) w := by
  cases lb with
  | none =>
    unfold litA at h
    obtain ⟨rfl, _⟩ := St.pu_iff.1 h
    have hk := Tryz.underlying9
    have h1 := MapKept.run_findKey (P := Tryz.prog) hk (k := .string ⟨s.toArray⟩) (l := []) (a := none) (w := w) rfl
    simp [Instr.lookup, run_underlying Tryz.underlying78, MapKept.run_checkKey hk (show MapKept.IsKey .string (Value.string ⟨s.toArray⟩) from trivial), Result.andThen, h1, Tryz.zeroValue74, getM_nil, pV]
  | some b =>
    unfold litA at h
    have := run_lookup (P := Tryz.prog) (t := 78) cS Tryz.underlying78 Tryz.underlying9 (Tryz.zeroValue74 w) h s false
    simp only [litV_get] at this
    exact this
end
set_option maxRecDepth 100000 in
set_option maxHeartbeats 4000000 in
theorem under_any {W w : World} {R : Asn} {F : Bag} {p : Nat} {nd : Nd} (h : St W w (star (Nds nt F) R)) (hd : (F.map (·.1)).Nodup) (hn : getM p F = some nd) (s : Tx) (hs : s ≠ []) :
    Calls Tryz.prog 83 #[.pointer (some ⟨p, 0, none⟩), .string ⟨s.toArray⟩] w fun e w' => e = .returned (pV (child nd (TrP.keyOf s))) ∧ w = w' := by
  have h1 := takeN h hd hn
  have hlk := lit_look (h1.right) s
  have c0 := h1.cell 0 (v := .map nd.lb) rfl
  have c1 := h1.cell 1 (v := pV nd.par) rfl
  have c2 := h1.cell 2 (v := pV nd.rst) rfl
  have hsz : 0 < (ByteArray.mk s.toArray).size := by
    cases s with
    | nil => exact absurd rfl hs
    | cons => simp [ByteArray.size]
  have hh := head_get s hsz
  have hz : 0 < s.length := by simpa [ByteArray.size] using hsz
  generalize hch : (ByteArray.mk s.toArray)[0]'hsz = c at *
  clear hs h h1 hn hd
  have HH := Lib.hid hh
  clear hh
  by_cases h58 : c = 58
  · have hb : ((c.toNat : Int) == 58) = true := by rw [h58]; rfl
    rw [keyOf_sp (by rw [HH.out, h58])]
    clear h58
    go_enter Tryz.func83, Tryz.ntmps83
    go_wp2
    go_ret
    exact ⟨rfl, rfl⟩
  · have hb : ((c.toNat : Int) == 58) = false := byte_no h58
    by_cases h42 : c = 42
    · have hb2 : ((c.toNat : Int) == 42) = true := by rw [h42]; rfl
      rw [keyOf_star (by rw [HH.out, h42])]
      clear h58 h42
      go_enter Tryz.func83, Tryz.ntmps83
      go_wp2
      go_ret
      exact ⟨rfl, rfl⟩
    · have hb2 : ((c.toNat : Int) == 42) = false := byte_no h42
      rw [keyOf_lit (by simp [isSp, HH.out, h58, h42])]
      clear h58 h42
      go_enter Tryz.func83, Tryz.ntmps83
      go_wp2
      go_ret
      exact ⟨rfl, rfl⟩

def Clo (F : Bag) (root : Nat) : Prop := ∀ ks q, reach F root ks = some q → ∃ nd, getM q F = some nd
theorem keys_snoc (l : List Tx) (i : Nat) (x : Tx) (h : l[i]? = some x) : keysOf (l.take (i + 1)) = keysOf (l.take i) ++ [TrP.keyOf x] := by
  rw [take_snoc l i x h]; simp [keysOf]
theorem keys_split (l : List Tx) (i : Nat) : keysOf l = keysOf (l.take i) ++ keysOf (l.drop i) := by
  conv => lhs; rw [← List.take_append_drop i l]
  simp [keysOf]
set_option maxRecDepth 100000 in
set_option maxHeartbeats 4000000 in
theorem at_any {W w : World} {R : Asn} {F : Bag} {root : Nat} (h : St W w (star (Nds nt F) R)) (hd : (F.map (·.1)).Nodup) (hcl : Clo F root) (tp : Nat) (hc : w.cell? ⟨tp, 1, none⟩ = some (.pointer (some ⟨root, 0, none⟩)))
    (a : Option Addr) (n c : Nat) (l : List Tx) (hsl : Sl w 1 (.slice a n c) n (strsV l)) (hln : l.length = n) (hne : ∀ s ∈ l, s ≠ []) (hn : n ≤ 1000000) :
    Calls Tryz.prog 61 #[.pointer (some ⟨tp, 0, none⟩), .slice a n c] w fun e w' => e = .returned (pV (reach F root (keysOf l))) ∧ w = w' := by
  have HU : Hid (∀ (q : Nat) (nd : Nd) (s : Tx), getM q F = some nd → s ≠ [] → _) := Lib.hid fun q nd s h1 h2 => under_any h hd h1 s h2
  have HC := Lib.hid hcl
  have HN := Lib.hid hne
  have HL := Lib.hid hln
  have HS := Lib.hid hsl
  have HR : Hid (reach F root (keysOf (l.take 0)) = some root) := Lib.hid rfl
  clear hcl hne hln h hd
  go_enter Tryz.func61, Tryz.ntmps61
  go_wp2_with fail
  clear hc
  go_loop [5, 6] (fun nv iv => ∃ i : Nat, i ≤ n ∧ iv = .int .i64 i ∧ nv = pV (reach F root (keysOf (l.take i)))) (fun _ iv => n - (intOf iv).toNat)
  case atStart => exact ⟨0, Nat.zero_le _, rfl, by rw [HR.out]; rfl⟩
  case round =>
    obtain ⟨i, hi, rfl, rfl⟩ := hrel
    by_cases hin : i < n
    · cases hr : reach F root (keysOf (l.take i)) with
      | none =>
        have HE : Hid (reach F root (keysOf l) = none) := Lib.hid (by rw [keys_split l i]; exact reach_pre hr _)
        clear hr
        rw [pV_none]
        go_wp2
        go_ret
        exact ⟨by rw [HE.out]; rfl, rfl⟩
      | some q =>
        obtain ⟨x, hx⟩ : ∃ x, l[i]? = some x := ⟨_, List.getElem?_eq_getElem (by rw [HL.out]; exact hin)⟩
        obtain ⟨nd, hnd⟩ := HC.out _ _ hr
        have hxne := HN.out x (List.mem_of_getElem? hx)
        have HK : Hid (reach F root (keysOf (l.take (i + 1))) = child nd (TrP.keyOf x)) := Lib.hid (by
          rw [keys_snoc l i x hx, reach_snoc, hr]; simp [TrM.step, hnd])
        obtain ⟨ab, ao, rfl, hel⟩ := strs_at HS.out hx
        have he := hel _ _ (St.start w)
        have HUx := Lib.hid (HU.out q nd x hnd hxne)
        clear hr hx hnd hxne hel
        rw [pV_some]
        go_wp2_with fail
        refine HUx.out.mono ?_
        rintro e w' ⟨rfl, rfl⟩
        go_wp2_with fail
        exact ⟨⟨i + 1, hin, by go_num, by rw [HK.out]⟩, by simp [intOf]; omega⟩
    · obtain rfl : i = n := by omega
      rw [List.take_of_length_le (by rw [HL.out]; exact Nat.le_refl _)]
      go_wp2
      go_ret
      exact ⟨rfl, rfl⟩

/-- A call that only reads. -/
def Dr (w w' : World) : Prop := ∃ k, w' = w.drewN k
theorem Dr.refl (w : World) : Dr w w := ⟨0, (World.drewN_zero w).symm⟩
theorem Dr.drew (w : World) : Dr w w.drew := ⟨1, rfl⟩
theorem Dr.trans {w w1 w2 : World} (h : Dr w w1) (h2 : Dr w1 w2) : Dr w w2 := by
  obtain ⟨a, rfl⟩ := h
  obtain ⟨b, rfl⟩ := h2
  exact ⟨a + b, by simp [World.drewN, Nat.add_assoc]⟩
theorem Dr.st {W w w' : World} {A : Asn} (h : Dr w w') (hS : St W w A) : St W w' A := by
  obtain ⟨k, rfl⟩ := h; exact hS.drewN k
theorem Dr.sl {w w' : World} {size : Nat} {v : Value} {n : Nat} {xs : List Value} (h : Dr w w') (hS : Sl w size v n xs) : Sl w' size v n xs := by
  obtain ⟨k, rfl⟩ := h; exact hS
/-- The pointer leads into the bag. -/
def In (F : Bag) (root : Nat) (o : Option Nat) : Prop := ∀ q, o = some q → ∃ ks, reach F root ks = some q
theorem In.child {F : Bag} {root q : Nat} {nd : Nd} (h : In F root (some q)) (hn : getM q F = some nd) (k : Key) : In F root (child nd k) := by
  intro r hr
  obtain ⟨ks, hks⟩ := h q rfl
  exact ⟨ks ++ [k], by rw [reach_snoc, hks]; simp [TrM.step, hn, hr]⟩
def BPost (w : World) (o : Option Nat) (e : Ending) (w' : World) : Prop := e = .returned (pV o) ∧ Dr w w'
theorem BPost.mk {w w' : World} {o u : Option Nat} {e : Ending} (h : o = u) (hd : Dr w w') (he : e = .returned (pV u)) : BPost w o e w' := ⟨by rw [he, h], hd⟩
set_option maxRecDepth 100000 in
set_option maxHeartbeats 8000000 in
theorem best_any {F : Bag} {root : Nat} (hd : (F.map (·.1)).Nodup) (hcl : Clo F root) : ∀ (path : List Tx) (o : Option Nat) {W w : World} {R : Asn} (_ : St W w (star (Nds nt F) R)) (_ : In F root o)
    (a : Option Addr) (n c : Nat) (_ : Sl w 1 (.slice a n c) n (strsV path)) (_ : path.length = n) (_ : n ≤ 1000000),
    Calls Tryz.prog 32 #[pV o, .slice a n c] w (BPost w (bestF F o path))
  | path, none, W, w, R, h, hin, a, n, c, hsl, hln, hn => by
    rw [pV_none, bestF_none]
    go_enter Tryz.func32, Tryz.ntmps32
    go_wp2
    go_ret
    exact ⟨rfl, Dr.refl _⟩
  | [], some p, W, w, R, h, hin, a, n, c, hsl, hln, hn => by
    obtain rfl : n = 0 := by simpa using hln.symm
    obtain ⟨ks, hks⟩ := hin p rfl
    obtain ⟨nd, hnd⟩ := hcl _ _ hks
    have c3 := (takeN h hd hnd).cell 3 (v := .string ⟨nd.pat.toArray⟩) rfl
    rw [pV_some, bestF_nil hnd]
    have HND := Lib.hid hnd
    clear h hin hsl hln hks hnd hcl hd
    by_cases hp : nd.pat = []
    · rw [if_pos hp]
      rw [hp] at c3
      go_enter Tryz.func32, Tryz.ntmps32
      go_wp2
      go_ret
      exact ⟨rfl, Dr.refl _⟩
    · rw [if_neg hp]
      have hp2 : (nd.pat == []) = false := by simpa using hp
      go_enter Tryz.func32, Tryz.ntmps32
      go_wp2
      go_ret
      exact ⟨rfl, Dr.refl _⟩
  | x :: r, some p, W, w, R, h, hin, a, n, c, hsl, hln, hn => by
    obtain ⟨ks, hks⟩ := hin p rfl
    obtain ⟨nd, hnd⟩ := hcl _ _ hks
    have h1 := takeN h hd hnd
    have hlk := lit_look (h1.drew.right) x
    have c0 := h1.drew.cell 0 (v := .map nd.lb) rfl
    obtain ⟨res, hres⟩ : ∃ res, bestF F (some p) (x :: r) = res := ⟨_, rfl⟩
    rw [pV_some, hres]
    rw [bestF_cons hnd] at hres
    obtain ⟨ab, ao, rfl, hel⟩ := strs_at hsl (k := 0) (x := x) rfl
    have he := hel _ _ (St.start w)
    have he1 := hel _ _ (St.start w).drew
    rw [Nat.add_zero] at he he1
    have hcap : n ≤ c ∧ c ≤ 9223372036854775807 := by obtain ⟨_, _, _, hv, h1, h2, _⟩ := hsl; cases hv; exact ⟨h1, by simpa [maxLen] using h2⟩
    have hn1 : r.length = n - 1 := by simp at hln; omega
    have hpos : 1 ≤ n := by simp at hln; omega
    have hcut := fun w => run_cut_l' (P := Tryz.prog) 55 9 1 Tryz.underlying55 (by kernel_rfl) (some ⟨ab, ao, none⟩) n c (1 : Int) 1 rfl hpos w
    have hslr : Sl w 1 (cutV (some ⟨ab, ao, none⟩) c 1 n 1) (n - 1) (strsV r) := by
      have := hsl.cut 1 n hpos (Nat.le_refl _)
      rw [Nat.one_mul, Nat.mul_one] at this
      have e : ((strsV (x :: r)).drop 1).take (n - 1) = strsV r := by
        show (strsV r).take (n - 1) = _
        exact List.take_of_length_le (by rw [strsV_length]; omega)
      rwa [e] at this
    obtain ⟨a2, c2, hcv⟩ : ∃ a2 c2, cutV (some ⟨ab, ao, none⟩) c 1 n 1 = .slice a2 (n - 1) c2 := ⟨_, _, rfl⟩
    rw [hcv] at hslr
    simp only [hcv] at hcut
    have HB1 := Lib.hid (best_any hd hcl r (getM x nd.lit) h.drew (by exact hin.child hnd (.lit x)) a2 (n - 1) c2 hslr.drew hn1 (by omega))
    have hHS := Lib.hid hsl
    have hCV := Lib.hid hslr
    have HEL := Lib.hid hel
    have HH := Lib.hid h
    have HND := Lib.hid hnd
    have HIN := Lib.hid hin
    have HD := Lib.hid hd
    have HCL := Lib.hid hcl
    have hn1' := Lib.hid hn1
    clear hsl hslr hcv hel h1 h hin hd hcl hks hnd hln hn1
    have HRES := Lib.hid hres
    clear hres
    generalize bestF F (getM x nd.lit) r = o1 at *
    go_enter Tryz.func32, Tryz.ntmps32
    have hd0 : ((n : Int) == 0) = false := by simp; omega
    go_wp2_with fail
    refine wp_region_canon [0, 1, 2, 3, 4, 5, 6, 8, 9, 7, 10, 11] (by kernel_rfl) (by kernel_rfl) ?_
    simp only [pickOps, nthOp]
    go_wp2_with fail
    refine HB1.out.mono ?_
    rintro e w2 ⟨rfl, hdr⟩
    clear c0 he he1 hlk
    have hdr2 := (Dr.drew w).trans hdr
    have h2 := hdr2.st HH.out
    have h2n := takeN h2 HD.out HND.out
    have q1 := h2n.cell 1 (v := pV nd.par) rfl
    have q1d := h2n.drew.cell 1 (v := pV nd.par) rfl
    have q2 := h2n.cell 2 (v := pV nd.rst) rfl
    have q3 := HEL.out _ _ (hdr2.st (St.start w))
    rw [Nat.add_zero] at q3
    clear h2n
    have HB2 := Lib.hid (best_any HD.out HCL.out r nd.par h2.drew (by exact HIN.out.child HND.out .par) a2 (n - 1) c2 (hdr2.sl hCV.out).drew hn1'.out (by omega))
    have HDR := Lib.hid hdr2
    clear hdr hdr2 h2
    cases o1 with
    | some q =>
      rw [pV_some]
      go_wp2_with fail
      simp only [Only]
      go_wp2_with fail
      go_ret
      exact BPost.mk (by rw [← HRES.out] <;> rfl) HDR.out rfl
    | none =>
      rw [pV_none]
      go_wp2_with fail
      simp only [Only]
      by_cases hx : x = []
      · have HR2 : Hid (res = nd.rst) := Lib.hid (by rw [← HRES.out, if_pos hx] <;> rfl)
        subst hx
        go_wp2_with fail
        go_ret
        exact BPost.mk HR2.out HDR.out rfl
      · have HR2 : Hid (res = (bestF F nd.par r).or nd.rst) := Lib.hid (by rw [← HRES.out, if_neg hx] <;> rfl)
        have hx2 : (x == []) = false := by simpa using hx
        clear hx HRES
        go_wp2_with fail
        refine wp_region_canon [0, 1, 2, 3, 4, 5, 6, 7] (by kernel_rfl) (by kernel_rfl) ?_
        simp only [pickOps, nthOp]
        go_wp2_with fail
        refine HB2.out.mono ?_
        rintro e w3 ⟨rfl, hdr⟩
        have hdr3 := (HDR.out.trans (Dr.drew _)).trans hdr
        have h3 := hdr3.st HH.out
        have h3n := takeN h3 HD.out HND.out
        clear q1 q2 q3 q1d
        have q2 := h3n.cell 2 (v := pV nd.rst) rfl
        have HDR3 := Lib.hid hdr3
        clear hdr hdr3 h3 h3n
        generalize bestF F nd.par r = o2 at *
        cases o2 with
        | some q =>
          rw [pV_some]
          go_wp2_with fail
          simp only [Only]
          go_wp2_with fail
          go_ret
          exact BPost.mk (by rw [HR2.out] <;> rfl) HDR3.out rfl
        | none =>
          rw [pV_none]
          go_wp2_with fail
          simp only [Only]
          go_wp2_with fail
          go_ret
          exact BPost.mk (by rw [HR2.out] <;> rfl) HDR3.out rfl
end Go.Proofs.YtlofiaaacepgmaaGreatDoor.TrAm
