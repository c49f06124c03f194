import Derived.Test.YtcjlbimmplejjaaGreatDoorScS
namespace Go.Proofs.YtcjlbimmplejjaaGreatDoor.ScL
open Go Go.RowKit Go.Proofs Go.Proofs.YtcjlbimmplejjaaGreatDoor.Sep Go.Proofs.YtcjlbimmplejjaaGreatDoor.Reg Go.Proofs.YtcjlbimmplejjaaGreatDoor.Frame Go.Proofs.YtcjlbimmplejjaaGreatDoor.Mp Go.Proofs.YtcjlbimmplejjaaGreatDoor.WdP Go.Proofs.YtcjlbimmplejjaaGreatDoor.WdT Go.Proofs.YtcjlbimmplejjaaGreatDoor.WdN Go.Proofs.YtcjlbimmplejjaaGreatDoor.ScP Go.Proofs.YtcjlbimmplejjaaGreatDoor.ScQ Go.Proofs.YtcjlbimmplejjaaGreatDoor.ScT Go.Proofs.YtcjlbimmplejjaaGreatDoor.ScA Go.Proofs.YtcjlbimmplejjaaGreatDoor.ScE Go.Proofs.YtcjlbimmplejjaaGreatDoor.ScX Go.Proofs.YtcjlbimmplejjaaGreatDoor.ScM Go.Proofs.YtcjlbimmplejjaaGreatDoor.ScS

def P1 (W : World) (R : Asn) (rb b8 b3 b10 k : Nat) (c ss : Bool) (m : Option Nat) (mi xn : Int) (xs s : Tx) (e : Ending) (w' : World) : Prop :=
  e = .returned (.tuple #[]) ∧ ∃ (ok : Bool) (v : Int) (s' : Tx), St W w' (star (pt b8 (.cells #[.int .u8 (k : Nat), .bool c, .bool ss, .int .i64 mi] 87 (0, 0))) (star (pt b3 (.cells #[.pointer (some ⟨rb, 0, none⟩)] 89 (0, 0))) (star (pt b10 (.cells #[.int .u8 (k : Nat), .int .i64 v, .int .i64 xn, .string ⟨(xs).toArray⟩] 34 (0, 0))) (star (pt rb (.cells #[.string ⟨s'.toArray⟩, .bool ok] 91 (0, 0))) (R))))) ∧ s'.length ≤ s.length ∧ ((∃ n : Nat, takeC ⟨k, c, ss, m⟩ s = some (n, s') ∧ v = n ∧ ok = true) ∨ (takeC ⟨k, c, ss, m⟩ s = none ∧ ok = false))
def P2 (W : World) (R : Asn) (rb b8 b3 b10 k : Nat) (c ss : Bool) (m : Option Nat) (mi xc xn : Int) (s : Tx) (e : Ending) (w' : World) : Prop :=
  e = .returned (.tuple #[]) ∧ ∃ (ok : Bool) (t s' : Tx), St W w' (star (pt b8 (.cells #[.int .u8 (k : Nat), .bool c, .bool ss, .int .i64 mi] 87 (0, 0))) (star (pt b3 (.cells #[.pointer (some ⟨rb, 0, none⟩)] 89 (0, 0))) (star (pt b10 (.cells #[.int .u8 (k : Nat), .int .i64 xc, .int .i64 xn, .string ⟨(t).toArray⟩] 34 (0, 0))) (star (pt rb (.cells #[.string ⟨s'.toArray⟩, .bool ok] 91 (0, 0))) (R))))) ∧ s'.length ≤ s.length ∧ ((takeS ⟨k, c, ss, m⟩ s = some (t, s') ∧ ok = true) ∨ (takeS ⟨k, c, ss, m⟩ s = none ∧ ok = false))
def P3 (W : World) (R : Asn) (rb b8 b3 b10 k : Nat) (c ss : Bool) (m : Option Nat) (mi xc : Int) (xs s : Tx) (e : Ending) (w' : World) : Prop :=
  e = .returned (.tuple #[]) ∧ ∃ (ok : Bool) (v : Int) (s' : Tx), St W w' (star (pt b8 (.cells #[.int .u8 (k : Nat), .bool c, .bool ss, .int .i64 mi] 87 (0, 0))) (star (pt b3 (.cells #[.pointer (some ⟨rb, 0, none⟩)] 89 (0, 0))) (star (pt b10 (.cells #[.int .u8 (k : Nat), .int .i64 xc, .int .i64 v, .string ⟨(xs).toArray⟩] 34 (0, 0))) (star (pt rb (.cells #[.string ⟨s'.toArray⟩, .bool ok] 91 (0, 0))) (R))))) ∧ s'.length ≤ s.length ∧ ((∃ n : Nat, takeN ⟨k, c, ss, m⟩ s = some (n, s') ∧ v = n ∧ ok = true) ∨ (takeN ⟨k, c, ss, m⟩ s = none ∧ ok = false))

set_option maxRecDepth 100000 in
theorem c1_any {W w : World} {R : Asn} (rb b8 b3 b10 k : Nat) (c ss : Bool) (m : Option Nat) (mi : Int) (hG : Gl W) (hE : Er W) (xn : Int) (xs s : Tx) (hs : s.length ≤ 1000000) (h : St W w (star (pt b8 (.cells #[.int .u8 (k : Nat), .bool c, .bool ss, .int .i64 mi] 87 (0, 0))) (star (pt b3 (.cells #[.pointer (some ⟨rb, 0, none⟩)] 89 (0, 0))) (star (pt b10 (.cells #[.int .u8 (k : Nat), .int .i64 0, .int .i64 xn, .string ⟨(xs).toArray⟩] 34 (0, 0))) (star (pt rb (.cells #[.string ⟨s.toArray⟩, .bool true] 91 (0, 0))) (R)))))) :
    Calls Tryz.prog 70 #[.pointer (some ⟨b8, 0, none⟩), .pointer (some ⟨b3, 0, none⟩), .pointer (some ⟨b10, 0, none⟩)] w (P1 W R rb b8 b3 b10 k c ss m mi xn xs s) := by
  have e1 := h.cell 1 (v := .bool c) rfl
  have hrs := rs_le s
  cases c with
  | false =>
    have HH := Lib.hid h
    clear h
    go_enter Tryz.func70, Tryz.ntmps70
    go_wp2
    go_end0
    exact ⟨rfl, true, 0, s, HH.out, Nat.le_refl _, .inl ⟨0, rfl, rfl, rfl⟩⟩
  | true =>
    have q0 := h.right.cell 0 (v := .pointer (some ⟨rb, 0, none⟩)) rfl
    have HN := Lib.hid (number_any hG hE rb s true 7 (by omega) hs (h.eq (B := star (pt rb (.cells #[.string ⟨s.toArray⟩, .bool true] 91 (0, 0))) (star (pt b8 (.cells #[.int .u8 (k : Nat), .bool true, .bool ss, .int .i64 mi] 87 (0, 0))) (star (pt b3 (.cells #[.pointer (some ⟨rb, 0, none⟩)] 89 (0, 0))) (star (pt b10 (.cells #[.int .u8 (k : Nat), .int .i64 0, .int .i64 xn, .string ⟨(xs).toArray⟩] 34 (0, 0))) (R))))) (by ac_rfl)))
    clear h hG hE
    go_enter Tryz.func70, Tryz.ntmps70
    go_wp2_with fail
    refine HN.out.mono ?_
    rintro e w1 ⟨v, b, rfl, h1, hc⟩
    have h2 := h1.eq (B := star (pt b10 (.cells #[.int .u8 (k : Nat), .int .i64 0, .int .i64 xn, .string ⟨(xs).toArray⟩] 34 (0, 0))) (star (pt b8 (.cells #[.int .u8 (k : Nat), .bool true, .bool ss, .int .i64 mi] 87 (0, 0))) (star (pt b3 (.cells #[.pointer (some ⟨rb, 0, none⟩)] 89 (0, 0))) (star (pt rb (.cells #[.string ⟨(rs s).toArray⟩, .bool b] 91 (0, 0))) (R))))) (by ac_rfl)
    have d1 := h2.cell 1 (v := .int .i64 0) rfl
    have f1 := h2.free 1
    have H3 := Lib.hid (h2.setCell 1 (.int .i64 v))
    have HC := Lib.hid hc
    clear h1 h2 hc HN
    go_wp2
    go_end0
    refine ⟨rfl, b, v, rs s, H3.out.eq (by show star (pt b10 (.cells #[.int .u8 (k : Nat), .int .i64 v, .int .i64 xn, .string ⟨xs.toArray⟩] 34 (0, 0))) _ = _; ac_rfl), hrs, ?_⟩
    rcases HC.out with ⟨n, h1, h2, h3⟩ | ⟨h1, h2⟩
    · exact .inl ⟨n, by unfold takeC; rw [if_pos rfl, h1]; rfl, h2, h3⟩
    · exact .inr ⟨by unfold takeC; rw [if_pos rfl, h1]; rfl, h2⟩
set_option maxRecDepth 100000 in
theorem c2_any {W w : World} {R : Asn} (rb b8 b3 b10 k : Nat) (c ss : Bool) (m : Option Nat) (mi : Int) (xc xn : Int) (s : Tx) (hs : s.length ≤ 1000000) (h : St W w (star (pt b8 (.cells #[.int .u8 (k : Nat), .bool c, .bool ss, .int .i64 mi] 87 (0, 0))) (star (pt b3 (.cells #[.pointer (some ⟨rb, 0, none⟩)] 89 (0, 0))) (star (pt b10 (.cells #[.int .u8 (k : Nat), .int .i64 xc, .int .i64 xn, .string ⟨([] : Tx).toArray⟩] 34 (0, 0))) (star (pt rb (.cells #[.string ⟨s.toArray⟩, .bool true] 91 (0, 0))) (R)))))) :
    Calls Tryz.prog 71 #[.pointer (some ⟨b8, 0, none⟩), .pointer (some ⟨b3, 0, none⟩), .pointer (some ⟨b10, 0, none⟩)] w (P2 W R rb b8 b3 b10 k c ss m mi xc xn s) := by
  have e1 := h.cell 2 (v := .bool ss) rfl
  cases ss with
  | false =>
    have HH := Lib.hid h
    clear h
    go_enter Tryz.func71, Tryz.ntmps71
    go_wp2
    go_end0
    exact ⟨rfl, true, [], s, HH.out, Nat.le_refl _, .inl ⟨rfl, rfl⟩⟩
  | true =>
    have q0 := h.right.cell 0 (v := .pointer (some ⟨rb, 0, none⟩)) rfl
    have HN := Lib.hid (text_any rb s hs (h.eq (B := star (pt rb (.cells #[.string ⟨s.toArray⟩, .bool true] 91 (0, 0))) (star (pt b8 (.cells #[.int .u8 (k : Nat), .bool c, .bool true, .int .i64 mi] 87 (0, 0))) (star (pt b3 (.cells #[.pointer (some ⟨rb, 0, none⟩)] 89 (0, 0))) (star (pt b10 (.cells #[.int .u8 (k : Nat), .int .i64 xc, .int .i64 xn, .string ⟨([] : Tx).toArray⟩] 34 (0, 0))) (R))))) (by ac_rfl)))
    clear h
    go_enter Tryz.func71, Tryz.ntmps71
    go_wp2_with fail
    refine HN.out.mono ?_
    have key : ∀ (b : Bool) (t q : Tx) (w1 : World), St W w1 (star (pt rb (.cells #[.string ⟨q.toArray⟩, .bool b] 91 (0, 0))) (star (pt b8 (.cells #[.int .u8 (k : Nat), .bool c, .bool true, .int .i64 mi] 87 (0, 0))) (star (pt b3 (.cells #[.pointer (some ⟨rb, 0, none⟩)] 89 (0, 0))) (star (pt b10 (.cells #[.int .u8 (k : Nat), .int .i64 xc, .int .i64 xn, .string ⟨([] : Tx).toArray⟩] 34 (0, 0))) (R))))) → w1.cell? ⟨b10, 3, none⟩ = some (.string ⟨([] : Tx).toArray⟩) ∧ w1.frozen? ⟨b10, 3, none⟩ = false ∧
        Hid (St W (w1.setCell ⟨b10, 3, none⟩ (.string ⟨t.toArray⟩)) (star (pt b8 (.cells #[.int .u8 (k : Nat), .bool c, .bool true, .int .i64 mi] 87 (0, 0))) (star (pt b3 (.cells #[.pointer (some ⟨rb, 0, none⟩)] 89 (0, 0))) (star (pt b10 (.cells #[.int .u8 (k : Nat), .int .i64 xc, .int .i64 xn, .string ⟨(t).toArray⟩] 34 (0, 0))) (star (pt rb (.cells #[.string ⟨q.toArray⟩, .bool b] 91 (0, 0))) (R)))))) := by
      intro b t q w1 h1
      have h2 := h1.eq (B := star (pt b10 (.cells #[.int .u8 (k : Nat), .int .i64 xc, .int .i64 xn, .string ⟨([] : Tx).toArray⟩] 34 (0, 0))) (star (pt b8 (.cells #[.int .u8 (k : Nat), .bool c, .bool true, .int .i64 mi] 87 (0, 0))) (star (pt b3 (.cells #[.pointer (some ⟨rb, 0, none⟩)] 89 (0, 0))) (star (pt rb (.cells #[.string ⟨q.toArray⟩, .bool b] 91 (0, 0))) (R))))) (by ac_rfl)
      exact ⟨h2.cell 3 rfl, h2.free 3, Lib.hid ((h2.setCell 3 (.string ⟨t.toArray⟩)).eq (by show star (pt b10 (.cells #[.int .u8 (k : Nat), .int .i64 xc, .int .i64 xn, .string ⟨t.toArray⟩] 34 (0, 0))) _ = _; ac_rfl))⟩
    have HK := Lib.hid key
    clear key
    rintro e w1 (⟨t, q, ht, rfl, hq, h1⟩ | ⟨ht, t, q, rfl, hq, h1⟩)
    · obtain ⟨d1, f1, H3⟩ := HK.out _ t _ _ h1
      have HT := Lib.hid ht
      clear h1 ht HN HK
      go_wp2
      go_end0
      exact ⟨rfl, true, t, q, H3.out, hq, .inl ⟨HT.out, rfl⟩⟩
    · obtain ⟨d1, f1, H3⟩ := HK.out _ t _ _ h1
      have HT := Lib.hid ht
      clear h1 ht HN HK
      go_wp2
      go_end0
      exact ⟨rfl, false, t, q, H3.out, hq, .inr ⟨HT.out, rfl⟩⟩
set_option maxRecDepth 100000 in
theorem c3_any {W w : World} {R : Asn} (rb b8 b3 b10 k : Nat) (c ss : Bool) (m : Option Nat) (mi : Int) (hG : Gl W) (hE : Er W) (hmi : mI m = mi) (hm : ∀ n, m = some n → n ≤ 2147483647) (xc : Int) (xs s : Tx) (hs : s.length ≤ 1000000) (h : St W w (star (pt b8 (.cells #[.int .u8 (k : Nat), .bool c, .bool ss, .int .i64 mi] 87 (0, 0))) (star (pt b3 (.cells #[.pointer (some ⟨rb, 0, none⟩)] 89 (0, 0))) (star (pt b10 (.cells #[.int .u8 (k : Nat), .int .i64 xc, .int .i64 0, .string ⟨(xs).toArray⟩] 34 (0, 0))) (star (pt rb (.cells #[.string ⟨s.toArray⟩, .bool true] 91 (0, 0))) (R)))))) :
    Calls Tryz.prog 73 #[.pointer (some ⟨b8, 0, none⟩), .pointer (some ⟨b3, 0, none⟩), .pointer (some ⟨b10, 0, none⟩)] w (P3 W R rb b8 b3 b10 k c ss m mi xc xs s) := by
  have e1 := h.cell 3 (v := .int .i64 mi) rfl
  have hrs := rs_le s
  cases m with
  | none =>
    have hmi2 : mi = -1 := hmi.symm
    subst hmi2
    have HH := Lib.hid h
    clear h hmi
    go_enter Tryz.func73, Tryz.ntmps73
    go_wp2
    go_end0
    exact ⟨rfl, true, 0, s, HH.out, Nat.le_refl _, .inl ⟨0, rfl, rfl, rfl⟩⟩
  | some m =>
    have hmi2 : mi = (m : Int) := hmi.symm
    subst hmi2
    have q0 := h.right.cell 0 (v := .pointer (some ⟨rb, 0, none⟩)) rfl
    have hm2 := hm m rfl
    have HN := Lib.hid (number_any hG hE rb s true m hm2 hs (h.eq (B := star (pt rb (.cells #[.string ⟨s.toArray⟩, .bool true] 91 (0, 0))) (star (pt b8 (.cells #[.int .u8 (k : Nat), .bool c, .bool ss, .int .i64 (m : Nat)] 87 (0, 0))) (star (pt b3 (.cells #[.pointer (some ⟨rb, 0, none⟩)] 89 (0, 0))) (star (pt b10 (.cells #[.int .u8 (k : Nat), .int .i64 xc, .int .i64 0, .string ⟨(xs).toArray⟩] 34 (0, 0))) (R))))) (by ac_rfl)))
    clear h hG hE hmi hm
    go_enter Tryz.func73, Tryz.ntmps73
    go_wp2_with fail
    refine HN.out.mono ?_
    rintro e w1 ⟨v, b, rfl, h1, hc⟩
    have h2 := h1.eq (B := star (pt b10 (.cells #[.int .u8 (k : Nat), .int .i64 xc, .int .i64 0, .string ⟨(xs).toArray⟩] 34 (0, 0))) (star (pt b8 (.cells #[.int .u8 (k : Nat), .bool c, .bool ss, .int .i64 (m : Nat)] 87 (0, 0))) (star (pt b3 (.cells #[.pointer (some ⟨rb, 0, none⟩)] 89 (0, 0))) (star (pt rb (.cells #[.string ⟨(rs s).toArray⟩, .bool b] 91 (0, 0))) (R))))) (by ac_rfl)
    have d1 := h2.cell 2 (v := .int .i64 0) rfl
    have f1 := h2.free 2
    have H3 := Lib.hid (h2.setCell 2 (.int .i64 v))
    have HC := Lib.hid hc
    clear h1 h2 hc HN
    go_wp2
    go_end0
    refine ⟨rfl, b, v, rs s, H3.out.eq (by show star (pt b10 (.cells #[.int .u8 (k : Nat), .int .i64 xc, .int .i64 v, .string ⟨xs.toArray⟩] 34 (0, 0))) _ = _; ac_rfl), hrs, ?_⟩
    rcases HC.out with ⟨n, h1, h2, h3⟩ | ⟨h1, h2⟩
    · exact .inl ⟨n, by simp only [takeN]; rw [h1]; rfl, h2, h3⟩
    · exact .inr ⟨by simp only [takeN]; rw [h1]; rfl, h2⟩
end Go.Proofs.YtcjlbimmplejjaaGreatDoor.ScL
