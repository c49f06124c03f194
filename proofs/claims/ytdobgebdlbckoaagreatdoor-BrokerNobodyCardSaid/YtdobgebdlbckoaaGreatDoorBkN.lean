import Derived.Test.YtdobgebdlbckoaaGreatDoorBkW
namespace Go.Proofs.YtdobgebdlbckoaaGreatDoor.BkN
open Go Go.RowKit Go.Proofs Go.Proofs.YtdobgebdlbckoaaGreatDoor.Sep Go.Proofs.YtdobgebdlbckoaaGreatDoor.Reg Go.Proofs.YtdobgebdlbckoaaGreatDoor.Frame Go.Proofs.YtdobgebdlbckoaaGreatDoor.Mp Go.Proofs.YtdobgebdlbckoaaGreatDoor.WdP Go.Proofs.YtdobgebdlbckoaaGreatDoor.WdN Go.Proofs.YtdobgebdlbckoaaGreatDoor.TpP Go.Proofs.YtdobgebdlbckoaaGreatDoor.TpA Go.Proofs.YtdobgebdlbckoaaGreatDoor.BkP Go.Proofs.YtdobgebdlbckoaaGreatDoor.BkA Go.Proofs.YtdobgebdlbckoaaGreatDoor.BkB Go.Proofs.YtdobgebdlbckoaaGreatDoor.BkC Go.Proofs.YtdobgebdlbckoaaGreatDoor.BkD Go.Proofs.YtdobgebdlbckoaaGreatDoor.BkW
attribute [local go_sem] Oper.semAt_some
set_option maxRecDepth 100000 in
set_option maxHeartbeats 4000000 in
theorem Of_nil (t : Tx) (w : World) : Calls Tryz.prog 25 #[.pointer none, kS t] w fun e w' => e = .returned (.slice none 0 0) ∧ w = w' := by
  have HN := Lib.hid (BkA.none_nil w)
  refine (callsIn_wide (n := 3)).1 (callsIn_of_wp_marks Tryz.func25 rfl trivial ?_ rfl)
  simp only [Tryz.ntmps25, List.size_toArray, List.length_cons, List.length_nil, Nat.reduceAdd, Nat.reduceSub, Array.replicate_succ, Array.replicate_zero, List.push_toArray, List.append_toArray, List.nil_append, List.cons_append]
  gi_wp2_with fail
  refine ⟨trivial, callsIn_wide.2 (HN.out.mono ?_)⟩
  rintro e w1 ⟨rfl, rfl⟩
  gi_wp2_with fail
  exact ⟨.slice none 0 0, by simp [results, Tryz.results25, go_sem], rfl, rfl⟩
set_option maxRecDepth 100000 in
set_option maxHeartbeats 8000000 in
theorem nobody_any {W : World} (hG : Gl W) (id op : Int) (s : Tx) (hs : s.length ≤ 9223372036854775807) : Calls Tryz.prog 5 #[.int .i64 id, .int .i64 op, kS s] W (Law W emp) := by
  have HW := Lib.hid (wakes_any hG (St.start W))
  have H1 := Lib.hid (Join_nil id W)
  have H2 := Lib.hid (Leave_nil id W)
  have H3 : Hid (∀ s, _) := Lib.hid fun s => Do_nil id op s W
  have H4 := Lib.hid (Members_nil W)
  have H5 := Lib.hid (Hears_nil id W)
  have H6 : Hid (∀ s, _) := Lib.hid fun s => Of_nil s W
  have H7 := Lib.hid (Published_nil id W)
  by_cases hl : 1000 < s.length
  · have hcut := run_str_h (P := Tryz.prog) 9 Tryz.underlying9 s 1000 1000 rfl (by omega)
    have hd : decide (1000 < (s.length : Int)) = true := decide_eq_true (by omega)
    clear hl hG
    go_enter Tryz.func5, Tryz.ntmps5
    go_wp2_with fail
    refine H1.out.mono ?_
    rintro e w1 ⟨rfl, rfl⟩
    go_wp2_with fail
    refine H2.out.mono ?_
    rintro e w1 ⟨rfl, rfl⟩
    go_wp2_with fail
    refine (H3.out _).mono ?_
    rintro e w1 ⟨rfl, rfl⟩
    go_wp2_with fail
    refine H4.out.mono ?_
    rintro e w1 ⟨rfl, rfl⟩
    go_wp2_with fail
    refine H5.out.mono ?_
    rintro e w1 ⟨rfl, rfl⟩
    go_wp2_with fail
    refine (H6.out _).mono ?_
    rintro e w1 ⟨rfl, rfl⟩
    go_wp2_with fail
    refine H7.out.mono ?_
    rintro e w1 ⟨rfl, rfl⟩
    go_wp2_with fail
    refine HW.out.mono ?_
    rintro e w2 ⟨rfl, h2⟩
    go_wp2
    go_ret
    exact ⟨rfl, h2⟩
  · have hd : decide (1000 < (s.length : Int)) = false := decide_eq_false (by omega)
    clear hl hG
    go_enter Tryz.func5, Tryz.ntmps5
    go_wp2_with fail
    refine H1.out.mono ?_
    rintro e w1 ⟨rfl, rfl⟩
    go_wp2_with fail
    refine H2.out.mono ?_
    rintro e w1 ⟨rfl, rfl⟩
    go_wp2_with fail
    refine (H3.out _).mono ?_
    rintro e w1 ⟨rfl, rfl⟩
    go_wp2_with fail
    refine H4.out.mono ?_
    rintro e w1 ⟨rfl, rfl⟩
    go_wp2_with fail
    refine H5.out.mono ?_
    rintro e w1 ⟨rfl, rfl⟩
    go_wp2_with fail
    refine (H6.out _).mono ?_
    rintro e w1 ⟨rfl, rfl⟩
    go_wp2_with fail
    refine H7.out.mono ?_
    rintro e w1 ⟨rfl, rfl⟩
    go_wp2_with fail
    refine HW.out.mono ?_
    rintro e w2 ⟨rfl, h2⟩
    go_wp2
    go_ret
    exact ⟨rfl, h2⟩
theorem nobody_walk (id : Int) (_ : (Lit.int .i64 id).wf = true) (op : Int) (_ : (Lit.int .i64 op).wf = true) (s : Tx) (hs : (⟨s.toArray⟩ : ByteArray).size ≤ maxLen) {W : World} (hG : Gl W) : Calls Tryz.prog 5 #[.int .i64 id, .int .i64 op, .string ⟨s.toArray⟩] W (Law W emp) :=
  nobody_any hG id op s (by simpa [maxLen, ByteArray.size] using hs)
end Go.Proofs.YtdobgebdlbckoaaGreatDoor.BkN
