import Derived.Test.YtjnkgblcfoblcaaDoorWdB
namespace Go.Proofs.YtjnkgblcfoblcaaDoor.WdO
open Go Go.RowKit Go.Proofs Go.Proofs.YtjnkgblcfoblcaaDoor.Sep Go.Proofs.YtjnkgblcfoblcaaDoor.Reg Go.Proofs.YtjnkgblcfoblcaaDoor.Frame Go.Proofs.YtjnkgblcfoblcaaDoor.Strs Go.Proofs.YtjnkgblcfoblcaaDoor.WdP Go.Proofs.YtjnkgblcfoblcaaDoor.WdT Go.Proofs.YtjnkgblcfoblcaaDoor.WdN Go.Proofs.YtjnkgblcfoblcaaDoor.WdC Go.Proofs.YtjnkgblcfoblcaaDoor.WdD Go.Proofs.YtjnkgblcfoblcaaDoor.WdE Go.Proofs.YtjnkgblcfoblcaaDoor.WdF Go.Proofs.YtjnkgblcfoblcaaDoor.WdH Go.Proofs.YtjnkgblcfoblcaaDoor.WdL Go.Proofs.YtjnkgblcfoblcaaDoor.WdM

theorem parse_len {s : List UInt8} {k : Nat} {t d : List UInt8} (h : parseW s = some (k, t, d)) : t.length ≤ s.length ∧ d.length ≤ s.length := by
  have hb := (bytes_parse h).1
  unfold bytesW at hb
  split at hb
  · cases hb
  · split at hb
    · split at hb
      · rename_i hd; cases hb; rw [hd]; simp; omega
      · cases hb
    · split at hb
      · split at hb
        · rename_i hd; cases hb; rw [hd]; simp; omega
        · cases hb
      · split at hb
        · cases hb; simp; omega
        · cases hb
theorem hear_len {s t d : List UInt8} {a b : Nat} (h : hearW s = some (t, a, b, d)) : t.length ≤ s.length ∧ d.length ≤ s.length := by
  have hb := told_hear h
  unfold toldW at hb
  split at hb
  · cases hb; simp; omega
  · cases hb
theorem none_cmd : bytesW 0 [] [] = none := by decide
theorem none_del : toldW [] 0 0 [] = none := rfl
set_option maxRecDepth 100000 in
set_option maxHeartbeats 16000000 in
theorem one_law (s : List UInt8) (W : World) (hG : Gl W) : Calls Tryd.prog 7 #[.string ⟨s.toArray⟩] W (Makes W (.bool true)) := by
  have h0 := St.start W
  have gC := guardC
  have gD := guardD
  have nC := neq_cmd 0 [] []
  have nD := neq_del [] 0 0 []
  go_enter Tryd.func7, Tryd.ntmps7
  go_wp2_with fail
  refine (awake_any _ (hG.st h0)).mono ?_
  rintro e w1 hq
  have h1 := h0.makes hq
  obtain ⟨rfl, -⟩ := hq
  by_cases hs : 5000 < s.length
  · go_wp2
    go_ret
    exact ⟨rfl, h1.below⟩
  obtain ⟨p, hp⟩ : ∃ p, parseW s = p := ⟨_, rfl⟩
  obtain ⟨h, hh⟩ : ∃ h, hearW s = h := ⟨_, rfl⟩
  obtain ⟨f, hf⟩ : ∃ f, faultedW s = f := ⟨_, rfl⟩
  have P1 := Lib.hid fun w hG => Parse_any s _ rfl w hG (by omega)
  have P2 := Lib.hid fun w hG => Hear_any s _ rfl w hG (by omega)
  have P3 := Lib.hid fun w hG => Faulted_any s _ rfl w hG (by omega)
  rw [hp] at P1
  rw [hh] at P2
  rw [hf] at P3
  cases p with
  | some c =>
    obtain ⟨k, t, d⟩ := c
    have hw := first_parse hp
    cases h with
    | some e =>
      have hw2 := first_hear hh
      rw [hw2] at hw
      exact absurd hw (by decide)
    | none =>
    cases f with
    | some e =>
      have hw2 := first_faulted hf
      rw [hw2] at hw
      exact absurd hw (by decide)
    | none =>
    have hb := (bytes_parse hp).1
    have hlen : t.length ≤ 5000 ∧ d.length ≤ 5000 := by
      have := parse_len hp
      omega
    have B1 := Lib.hid fun w => Bytes_any k t d (.tuple #[.string ⟨s.toArray⟩, .bool true]) (by rw [hb]; rfl) w (by omega) (by omega)
    simp only [cmdV, delV, numV] at P1 P2 P3
    clear hp hh hf hb hw
    have T1 := Lib.hid fun w h => Told_any [] 0 0 [] (.tuple #[.string ⟨#[]⟩, .bool false]) (by rw [none_del]; rfl) w h (by decide) (by decide)
    go_wp2_with fail
    refine (P1.out _ (hG.st h1)).mono ?_
    rintro e w_h2 hq
    have h2 := h1.makes hq
    obtain ⟨rfl, -⟩ := hq
    have h3 := h2.alloc (.cells #[.int .i64 k, .string ⟨(t : List UInt8).toArray⟩, .string ⟨(d : List UInt8).toArray⟩] 23 (0, 0))
    go_wp2_with fail
    refine (P2.out _ (hG.st h3)).mono ?_
    rintro e w_h4 hq
    have h4 := h3.makes hq
    obtain ⟨rfl, -⟩ := hq
    have h5 := h4.alloc (.cells #[.string ⟨([] : List UInt8).toArray⟩, .int .i64 0, .int .i64 0, .string ⟨([] : List UInt8).toArray⟩] 25 (0, 0))
    go_wp2_with fail
    refine (P3.out _ (hG.st h5)).mono ?_
    rintro e w_h6 hq
    have h6 := h5.makes hq
    obtain ⟨rfl, -⟩ := hq
    have da0 := h6.cell 0 rfl
    have da1 := h6.cell 1 rfl
    have da2 := h6.cell 2 rfl
    have da3 := h6.cell 3 rfl
    have ca0 := h6.right.cell 0 rfl
    have ca1 := h6.right.cell 1 rfl
    have ca2 := h6.right.cell 2 rfl
    go_wp2_with fail
    refine (B1.out _).mono ?_
    rintro e w_h7 hq
    have h7 := h6.makes hq
    obtain ⟨rfl, -⟩ := hq
    clear da0 da1 da2 da3 ca0 ca1 ca2
    have da0 := h7.cell 0 rfl
    have da1 := h7.cell 1 rfl
    have da2 := h7.cell 2 rfl
    have da3 := h7.cell 3 rfl
    have ca0 := h7.right.cell 0 rfl
    have ca1 := h7.right.cell 1 rfl
    have ca2 := h7.right.cell 2 rfl
    go_wp2_with fail
    refine (T1.out _ (hG.st h7)).mono ?_
    rintro e w_h8 hq
    have h8 := h7.makes hq
    obtain ⟨rfl, -⟩ := hq
    go_wp2
    go_ret
    exact ⟨rfl, h8.below⟩
  | none =>
    cases h with
    | some e =>
      obtain ⟨t, a, b, d⟩ := e
      have hw := first_hear hh
      cases f with
      | some e =>
        have hw2 := first_faulted hf
        rw [hw2] at hw
        exact absurd hw (by decide)
      | none =>
      have hb := told_hear hh
      have hlen : t.length ≤ 5000 ∧ d.length ≤ 5000 := by
        have := hear_len hh
        omega
      have T1 := Lib.hid fun w hG => Told_any t a b d (.tuple #[.string ⟨s.toArray⟩, .bool true]) (by rw [hb]; rfl) w hG (by omega) (by omega)
      simp only [cmdV, delV, numV] at P1 P2 P3
      clear hp hh hf hb hw
      have B1 := Lib.hid fun w => Bytes_any 0 [] [] (.tuple #[.string ⟨#[]⟩, .bool false]) (by rw [none_cmd]; rfl) w (by decide) (by decide)
      go_wp2_with fail
      refine (P1.out _ (hG.st h1)).mono ?_
      rintro e w_h2 hq
      have h2 := h1.makes hq
      obtain ⟨rfl, -⟩ := hq
      have h3 := h2.alloc (.cells #[.int .i64 0, .string ⟨([] : List UInt8).toArray⟩, .string ⟨([] : List UInt8).toArray⟩] 23 (0, 0))
      go_wp2_with fail
      refine (P2.out _ (hG.st h3)).mono ?_
      rintro e w_h4 hq
      have h4 := h3.makes hq
      obtain ⟨rfl, -⟩ := hq
      have h5 := h4.alloc (.cells #[.string ⟨(t : List UInt8).toArray⟩, .int .i64 a, .int .i64 b, .string ⟨(d : List UInt8).toArray⟩] 25 (0, 0))
      go_wp2_with fail
      refine (P3.out _ (hG.st h5)).mono ?_
      rintro e w_h6 hq
      have h6 := h5.makes hq
      obtain ⟨rfl, -⟩ := hq
      have da0 := h6.cell 0 rfl
      have da1 := h6.cell 1 rfl
      have da2 := h6.cell 2 rfl
      have da3 := h6.cell 3 rfl
      have ca0 := h6.right.cell 0 rfl
      have ca1 := h6.right.cell 1 rfl
      have ca2 := h6.right.cell 2 rfl
      go_wp2_with fail
      refine (B1.out _).mono ?_
      rintro e w_h7 hq
      have h7 := h6.makes hq
      obtain ⟨rfl, -⟩ := hq
      clear da0 da1 da2 da3 ca0 ca1 ca2
      have da0 := h7.cell 0 rfl
      have da1 := h7.cell 1 rfl
      have da2 := h7.cell 2 rfl
      have da3 := h7.cell 3 rfl
      have ca0 := h7.right.cell 0 rfl
      have ca1 := h7.right.cell 1 rfl
      have ca2 := h7.right.cell 2 rfl
      go_wp2_with fail
      refine (T1.out _ (hG.st h7)).mono ?_
      rintro e w_h8 hq
      have h8 := h7.makes hq
      obtain ⟨rfl, -⟩ := hq
      go_wp2
      go_ret
      exact ⟨rfl, h8.below⟩
    | none =>
      cases f with
      | some n =>
        have hb := fault_faulted hf
        have F1 := Lib.hid fun w hG => Fault_any n (.string ⟨s.toArray⟩) (by rw [hb]; rfl) w hG
        simp only [cmdV, delV, numV] at P1 P2 P3
        clear hp hh hf hb
        have B1 := Lib.hid fun w => Bytes_any 0 [] [] (.tuple #[.string ⟨#[]⟩, .bool false]) (by rw [none_cmd]; rfl) w (by decide) (by decide)
        have T1 := Lib.hid fun w h => Told_any [] 0 0 [] (.tuple #[.string ⟨#[]⟩, .bool false]) (by rw [none_del]; rfl) w h (by decide) (by decide)
        go_wp2_with fail
        refine (P1.out _ (hG.st h1)).mono ?_
        rintro e w_h2 hq
        have h2 := h1.makes hq
        obtain ⟨rfl, -⟩ := hq
        have h3 := h2.alloc (.cells #[.int .i64 0, .string ⟨([] : List UInt8).toArray⟩, .string ⟨([] : List UInt8).toArray⟩] 23 (0, 0))
        go_wp2_with fail
        refine (P2.out _ (hG.st h3)).mono ?_
        rintro e w_h4 hq
        have h4 := h3.makes hq
        obtain ⟨rfl, -⟩ := hq
        have h5 := h4.alloc (.cells #[.string ⟨([] : List UInt8).toArray⟩, .int .i64 0, .int .i64 0, .string ⟨([] : List UInt8).toArray⟩] 25 (0, 0))
        go_wp2_with fail
        refine (P3.out _ (hG.st h5)).mono ?_
        rintro e w_h6 hq
        have h6 := h5.makes hq
        obtain ⟨rfl, -⟩ := hq
        have da0 := h6.cell 0 rfl
        have da1 := h6.cell 1 rfl
        have da2 := h6.cell 2 rfl
        have da3 := h6.cell 3 rfl
        have ca0 := h6.right.cell 0 rfl
        have ca1 := h6.right.cell 1 rfl
        have ca2 := h6.right.cell 2 rfl
        go_wp2_with fail
        refine (B1.out _).mono ?_
        rintro e w_h7 hq
        have h7 := h6.makes hq
        obtain ⟨rfl, -⟩ := hq
        clear da0 da1 da2 da3 ca0 ca1 ca2
        have da0 := h7.cell 0 rfl
        have da1 := h7.cell 1 rfl
        have da2 := h7.cell 2 rfl
        have da3 := h7.cell 3 rfl
        have ca0 := h7.right.cell 0 rfl
        have ca1 := h7.right.cell 1 rfl
        have ca2 := h7.right.cell 2 rfl
        go_wp2_with fail
        refine (T1.out _ (hG.st h7)).mono ?_
        rintro e w_h8 hq
        have h8 := h7.makes hq
        obtain ⟨rfl, -⟩ := hq
        go_wp2_with fail
        refine (F1.out _ (hG.st h8)).mono ?_
        rintro e w_h9 hq
        have h9 := h8.makes hq
        obtain ⟨rfl, -⟩ := hq
        go_wp2
        go_ret
        exact ⟨rfl, h9.below⟩
      | none =>
        simp only [cmdV, delV, numV] at P1 P2 P3
        clear hp hh hf
        have B1 := Lib.hid fun w => Bytes_any 0 [] [] (.tuple #[.string ⟨#[]⟩, .bool false]) (by rw [none_cmd]; rfl) w (by decide) (by decide)
        have T1 := Lib.hid fun w h => Told_any [] 0 0 [] (.tuple #[.string ⟨#[]⟩, .bool false]) (by rw [none_del]; rfl) w h (by decide) (by decide)
        go_wp2_with fail
        refine (P1.out _ (hG.st h1)).mono ?_
        rintro e w_h2 hq
        have h2 := h1.makes hq
        obtain ⟨rfl, -⟩ := hq
        have h3 := h2.alloc (.cells #[.int .i64 0, .string ⟨([] : List UInt8).toArray⟩, .string ⟨([] : List UInt8).toArray⟩] 23 (0, 0))
        go_wp2_with fail
        refine (P2.out _ (hG.st h3)).mono ?_
        rintro e w_h4 hq
        have h4 := h3.makes hq
        obtain ⟨rfl, -⟩ := hq
        have h5 := h4.alloc (.cells #[.string ⟨([] : List UInt8).toArray⟩, .int .i64 0, .int .i64 0, .string ⟨([] : List UInt8).toArray⟩] 25 (0, 0))
        go_wp2_with fail
        refine (P3.out _ (hG.st h5)).mono ?_
        rintro e w_h6 hq
        have h6 := h5.makes hq
        obtain ⟨rfl, -⟩ := hq
        have da0 := h6.cell 0 rfl
        have da1 := h6.cell 1 rfl
        have da2 := h6.cell 2 rfl
        have da3 := h6.cell 3 rfl
        have ca0 := h6.right.cell 0 rfl
        have ca1 := h6.right.cell 1 rfl
        have ca2 := h6.right.cell 2 rfl
        go_wp2_with fail
        refine (B1.out _).mono ?_
        rintro e w_h7 hq
        have h7 := h6.makes hq
        obtain ⟨rfl, -⟩ := hq
        clear da0 da1 da2 da3 ca0 ca1 ca2
        have da0 := h7.cell 0 rfl
        have da1 := h7.cell 1 rfl
        have da2 := h7.cell 2 rfl
        have da3 := h7.cell 3 rfl
        have ca0 := h7.right.cell 0 rfl
        have ca1 := h7.right.cell 1 rfl
        have ca2 := h7.right.cell 2 rfl
        go_wp2_with fail
        refine (T1.out _ (hG.st h7)).mono ?_
        rintro e w_h8 hq
        have h8 := h7.makes hq
        obtain ⟨rfl, -⟩ := hq
        go_wp2
        go_ret
        exact ⟨rfl, h8.below⟩

set_option maxRecDepth 100000 in
set_option maxHeartbeats 16000000 in
theorem data_law (a b : List UInt8) (m n : Nat) (hm : m < 4294967296) (hn : n < 4294967296) (W : World) (hG : Gl W) : Calls Tryd.prog 8 #[.string ⟨a.toArray⟩, .string ⟨b.toArray⟩, .int .u32 m, .int .u32 n] W (Makes W (.bool true)) := by
  have h0 := St.start W
  have gC := guardC
  have gD := guardD
  have nC := eql_cmd 3 [116] (a ++ b)
  have nD := eql_del [116] m n (a ++ b)
  go_enter Tryd.func8, Tryd.ntmps8
  go_wp2_with fail
  refine (awake_any _ (hG.st h0)).mono ?_
  rintro e w1 hq
  have h1 := h0.makes hq
  obtain ⟨rfl, -⟩ := hq
  by_cases ha : 2000 < a.length
  · go_wp2
    go_ret
    exact ⟨rfl, h1.below⟩
  by_cases hb : 2000 < b.length
  · go_wp2
    go_ret
    exact ⟨rfl, h1.below⟩
  have ht : topic [116] = true := by decide
  have e1 : bytesW 3 [116] a = some (wPUB ++ 32 :: ([116] ++ 32 :: a)) := rfl
  have e2 : parseW (wPUB ++ 32 :: ([116] ++ 32 :: (a ++ b))) = some (3, [116], a ++ b) := by
    obtain ⟨k, hk, hp, -⟩ := parse_bytes (show bytesW 3 [116] (a ++ b) = some (wPUB ++ 32 :: ([116] ++ 32 :: (a ++ b))) from rfl)
    rw [hp, show k = 3 from by omega]
  have hmm : may m = true := by simp [may]; omega
  have hmn : may n = true := by simp [may]; omega
  have e3 := told_some (d := a) ht hmm hmn
  have e4 : hearW (wMSG ++ 32 :: ([116] ++ 32 :: (Lib.decDigits m ++ 32 :: (Lib.decDigits n ++ 32 :: (a ++ b))))) = some ([116], m, n, a ++ b) := by
    obtain ⟨k1, k2, hk1, hk2, hp⟩ := hear_told (told_some (d := a ++ b) ht hmm hmn)
    rw [hp, show k1 = m from by omega, show k2 = n from by omega]
  have hl1 := dec_len 19 m (by omega) (by omega)
  have hl2 := dec_len 19 n (by omega) (by omega)
  have B1 := Lib.hid fun w => Bytes_any 3 [116] a _ (congrArg txtV e1) w (by decide) (by omega)
  have P1 := Lib.hid fun w hG => Parse_any _ _ (congrArg cmdV e2) w hG (by simp [wPUB]; omega)
  have T1 := Lib.hid fun w hG => Told_any [116] m n a _ (congrArg txtV e3) w hG (by decide) (by omega)
  have H1 := Lib.hid fun w hG => Hear_any _ _ (congrArg delV e4) w hG (by simp [wMSG]; omega)
  simp only [txtV, cmdV, delV] at B1 P1 T1 H1
  clear e1 e2 e3 e4 hmm hmn ht
  generalize Lib.decDigits m = x at *
  generalize Lib.decDigits n = y at *
  have hab := run_str_add (P := Tryd.prog) a b (by omega)
  have ha1 := run_str_add (P := Tryd.prog) (wPUB ++ 32 :: ([116] ++ 32 :: a)) b (by simp [wPUB]; omega)
  have ha2 := run_str_add (P := Tryd.prog) (wMSG ++ 32 :: ([116] ++ 32 :: (x ++ 32 :: (y ++ 32 :: a)))) b (by simp [wMSG]; omega)
  simp only [List.append_assoc, List.cons_append, List.nil_append] at ha1 ha2 B1 P1 T1 H1
  have hl3 : (wPUB ++ 32 :: 116 :: 32 :: a).length ≤ 3000 := by simp [wPUB]; omega
  generalize wPUB ++ 32 :: 116 :: 32 :: a = p at *
  generalize wPUB ++ 32 :: 116 :: 32 :: (a ++ b) = p2 at *
  generalize wMSG ++ 32 :: 116 :: 32 :: (x ++ 32 :: (y ++ 32 :: a)) = q at *
  generalize wMSG ++ 32 :: 116 :: 32 :: (x ++ 32 :: (y ++ 32 :: (a ++ b))) = q2 at *
  generalize a ++ b = ab at *
  clear hl1 hl2 hl3
  go_wp2_with fail
  refine (B1.out _).mono ?_
  rintro e w_h2 hq
  have h2 := h1.makes hq
  obtain ⟨rfl, -⟩ := hq
  go_wp2_with fail
  refine (P1.out _ (hG.st h2)).mono ?_
  rintro e w_h3 hq
  have h3 := h2.makes hq
  obtain ⟨rfl, -⟩ := hq
  have h4 := h3.alloc (.cells #[.int .i64 3, .string ⟨#[116]⟩, .string ⟨ab.toArray⟩] 23 (0, 0))
  go_wp2_with fail
  refine (T1.out _ (hG.st h4)).mono ?_
  rintro e w_h5 hq
  have h5 := h4.makes hq
  obtain ⟨rfl, -⟩ := hq
  go_wp2_with fail
  refine (H1.out _ (hG.st h5)).mono ?_
  rintro e w_h6 hq
  have h6 := h5.makes hq
  obtain ⟨rfl, -⟩ := hq
  have h7 := h6.alloc (.cells #[.string ⟨#[116]⟩, .int .i64 m, .int .i64 n, .string ⟨ab.toArray⟩] 25 (0, 0))
  have da0 := h7.cell 0 rfl
  have da1 := h7.cell 1 rfl
  have da2 := h7.cell 2 rfl
  have da3 := h7.cell 3 rfl
  have ca0 := h7.right.cell 0 rfl
  have ca1 := h7.right.cell 1 rfl
  have ca2 := h7.right.cell 2 rfl
  go_wp2
  go_ret
  exact ⟨rfl, h7.below⟩

end Go.Proofs.YtjnkgblcfoblcaaDoor.WdO
