import Derived.Test.YtcjlbimmplejjaaGreatDoorScTr
import Derived.Test.YtcjlbimmplejjaaGreatDoorScNt
import Derived.Test.YtcjlbimmplejjaaGreatDoorScPc
namespace Go.Proofs.YtcjlbimmplejjaaGreatDoor.ScPr
open Go Go.RowKit Go.Proofs Go.Proofs.YtcjlbimmplejjaaGreatDoor.Sep Go.Proofs.YtcjlbimmplejjaaGreatDoor.Reg Go.Proofs.YtcjlbimmplejjaaGreatDoor.Frame Go.Proofs.YtcjlbimmplejjaaGreatDoor.Strs Go.Proofs.YtcjlbimmplejjaaGreatDoor.WdP Go.Proofs.YtcjlbimmplejjaaGreatDoor.WdT Go.Proofs.YtcjlbimmplejjaaGreatDoor.WdN Go.Proofs.YtcjlbimmplejjaaGreatDoor.ScP Go.Proofs.YtcjlbimmplejjaaGreatDoor.ScQ Go.Proofs.YtcjlbimmplejjaaGreatDoor.ScT Go.Proofs.YtcjlbimmplejjaaGreatDoor.ScB Go.Proofs.YtcjlbimmplejjaaGreatDoor.ScA Go.Proofs.YtcjlbimmplejjaaGreatDoor.ScM Go.Proofs.YtcjlbimmplejjaaGreatDoor.ScH Go.Proofs.YtcjlbimmplejjaaGreatDoor.ScR Go.Proofs.YtcjlbimmplejjaaGreatDoor.ScK Go.Proofs.YtcjlbimmplejjaaGreatDoor.ScRp Go.Proofs.YtcjlbimmplejjaaGreatDoor.ScRt Go.Proofs.YtcjlbimmplejjaaGreatDoor.ScTr

def GlE (W : World) : Prop := Gl W ∧ Er W
theorem lineR_ne {st : List Opn} {s : Tx} {n : Nat} {st' : List Opn} (h : lineR st s n = some st') (hne : st ≠ []) : st' ≠ [] := by
  unfold lineR at h
  split at h
  · cases h; exact hne
  · split at h
    · split at h
      · split at h
        · cases h; simp
        · cases h
      · cases h
    · split at h
      · split at h
        · cases h; simp
        · cases h
      · split at h
        · cases h
        · split at h
          · cases h; simp
          · cases h
theorem goR_ne : ∀ (l : List Tx) (i : Nat) (st st' : List Opn), goR l i st = .ok st' → st ≠ [] → st' ≠ []
  | [], _, _, _, h, hne => by simp [goR] at h; rw [← h]; exact hne
  | x :: l, i, st, st', h, hne => by
    simp only [goR] at h
    split at h
    · cases h
    · rename_i s1 h1
      exact goR_ne l _ _ _ h (lineR_ne h1 hne)
/-- What the document's Parse tells. -/
def RPPst (W : World) (t : Tx) (R : Asn) (e : Ending) (w' : World) : Prop := ∃ a c, e = .returned (.tuple #[.slice a (parseP t).1.length c, .int .i64 ((parseP t).2.1 : Nat), .int .i64 ((parseP t).2.2 : Nat)]) ∧ St W w' (star (Row 34 4 (.slice a (parseP t).1.length c) (parseP t).1.length (actsV (parseP t).1)) R)
theorem RPPst.mk0 {W w' : World} {t : Tx} {R : Asn} {i k : Nat} {e : Ending} (hp : parseP t = ([], i, k)) (he : e = .returned (.tuple #[.slice none 0 0, .int .i64 (i : Nat), .int .i64 (k : Nat)])) (hS : St W w' R) : RPPst W t R e w' := by
  unfold RPPst; rw [hp]
  exact ⟨none, 0, he, hS.nilRow⟩
set_option maxRecDepth 100000 in
set_option maxHeartbeats 4000000 in
theorem rParse_any {W w : World} {R : Asn} (t : Tx) (ht : t.length ≤ 65536) (h : St W w R) : Calls Tryz.prog 10 #[.string ⟨t.toArray⟩] w (RPPst W t R) := by
  have hlI : ¬ (65536 : Int) < t.length := by omega
  have HT := Lib.hid (Tree_any t (by omega) h)
  have HPL := Lib.hid (parse_law t ht)
  have HNE := Lib.hid (fun st => goR_ne (lns t) 0 stR st)
  clear h ht
  cases hg : goR (lns t) 0 stR with
  | error n =>
    have HP : Hid (parseP t = ([], n, 8)) := Lib.hid (by rw [HPL.out, hg])
    have HT2 : Hid (Calls Tryz.prog 26 #[.string ⟨t.toArray⟩] w fun e w' => e = .returned (.tuple #[.slice none 0 0, .int .i64 (n : Nat), .int .i64 8]) ∧ St W w' R) := Lib.hid (HT.out.mono fun e w h => by unfold QPst at h; rw [hg] at h; exact h)
    clear hg HT
    go_enter Tryz.func10, Tryz.ntmps10
    go_wp2_with fail
    refine HT2.out.mono ?_
    rintro e w2 ⟨rfl, hS⟩
    have HS := Lib.hid hS
    clear hS HT2
    go_wp2
    go_ret3
    exact RPPst.mk0 HP.out rfl HS.out
  | ok st =>
    match st, hg with
    | [], hg => exact absurd rfl (HNE.out [] hg (by simp [stR]))
    | x :: y :: q, hg =>
      have HP : Hid (parseP t = ([], x.line, 11)) := Lib.hid (by rw [HPL.out, hg])
      have HT2 : Hid (Calls Tryz.prog 26 #[.string ⟨t.toArray⟩] w fun e w' => e = .returned (.tuple #[.slice none 0 0, .int .i64 (x.line : Nat), .int .i64 11]) ∧ St W w' R) := Lib.hid (HT.out.mono fun e w h => by unfold QPst at h; rw [hg] at h; exact h)
      obtain ⟨ln, hln⟩ : ∃ z, x.line = z := ⟨_, rfl⟩
      rw [hln] at HP HT2
      clear hg HT hln
      go_enter Tryz.func10, Tryz.ntmps10
      go_wp2_with fail
      refine HT2.out.mono ?_
      rintro e w2 ⟨rfl, hS⟩
      have HS := Lib.hid hS
      clear hS HT2
      go_wp2
      go_ret3
      exact RPPst.mk0 HP.out rfl HS.out
    | [x], hg =>
      have HT2 : Hid (Calls Tryz.prog 26 #[.string ⟨t.toArray⟩] w fun e w' => ∃ v pl, e = .returned (.tuple #[v, .int .i64 0, .int .i64 0]) ∧ sms pl = x.l ∧ RT w' v pl ∧ St W w' R) := Lib.hid (HT.out.mono fun e w h => by unfold QPst at h; rw [hg] at h; exact h)
      have HP : Hid (parseP t = if 4096 < manyS x.l then ([], 0, 3) else (actsS x.l, 0, 0)) := Lib.hid (by rw [HPL.out, hg])
      clear hg HT
      go_enter Tryz.func10, Tryz.ntmps10
      go_wp2_with fail
      refine HT2.out.mono ?_
      rintro e w2 ⟨v, pl, rfl, hpl, hrt, hS⟩
      have HM := Lib.hid (Many_any hrt w2 emp (St.start w2))
      have HA := Lib.hid (Acts_any hrt)
      rw [← hpl] at HP
      have HS := Lib.hid hS
      obtain ⟨m, hm⟩ : ∃ z, manyS (sms pl) = z := ⟨_, rfl⟩
      rw [hm] at HM HP HA
      clear hS HT2 hpl hrt hm
      go_wp2_with fail
      refine HM.out.mono ?_
      rintro e w3 ⟨rfl, h3⟩
      clear HM
      by_cases hmm : 4096 < m
      · have hmI : (4096 : Int) < m := by omega
        have HP2 : Hid (parseP t = ([], 0, 3)) := Lib.hid (by rw [HP.out, if_pos hmm])
        have HS3 := Lib.hid (HS.out.past h3.below)
        clear h3 HS
        go_wp2
        go_ret3
        exact RPPst.mk0 HP2.out rfl HS3.out
      · have hmI : ¬ (4096 : Int) < m := by omega
        have HP2 : Hid (parseP t = (actsS (sms pl), 0, 0)) := Lib.hid (by rw [HP.out, if_neg hmm])
        have HA2 := Lib.hid (HA.out (by omega) w3 emp h3)
        clear h3 HA
        go_wp2_with fail
        refine HA2.out.mono ?_
        rintro e w4 ⟨a, c, rfl, h4⟩
        have HS4 := Lib.hid (St.compR HS.out h4)
        clear h4 HA2 HS
        go_wp2
        go_ret3
        unfold RPPst
        rw [HP2.out]
        exact ⟨a, c, rfl, HS4.out⟩
set_option maxRecDepth 100000 in
set_option maxHeartbeats 4000000 in
theorem law_parses {W w : World} {R : Asn} (hG : Gl W) (hE : Er W) (t : Tx) (h : St W w R) : Calls Tryz.prog 3 #[.string ⟨t.toArray⟩] w (Law W R) := by
  have HAw := Lib.hid (awake_any hG hE h)
  have HG := Lib.hid hG
  have HE := Lib.hid hE
  clear hG hE h
  by_cases h6 : 6000 < t.length
  · have h6I : (6000 : Int) < t.length := by omega
    go_enter Tryz.func3, Tryz.ntmps3
    go_wp2_with fail
    refine HAw.out.mono ?_
    rintro e w1 ⟨rfl, hS⟩
    have HS := Lib.hid hS
    clear hS HAw
    go_wp2
    go_ret
    exact ⟨rfl, HS.out⟩
  · have h6I : ¬ (6000 : Int) < t.length := by omega
    obtain ⟨l, i, k, hp⟩ : ∃ l i k, parseP t = (l, i, k) := ⟨_, _, _, rfl⟩
    have HP := Lib.hid hp
    clear hp
    go_enter Tryz.func3, Tryz.ntmps3
    go_wp2_with fail
    refine HAw.out.mono ?_
    rintro e w1 ⟨rfl, hS⟩
    have HPa := Lib.hid ((Parse_any HG.out HE.out t (by omega) hS).mono fun e w h => by unfold PPst at h; rw [HP.out] at h; exact h)
    clear hS HAw
    go_wp2_with fail
    refine HPa.out.mono ?_
    rintro e w2 ⟨v, rfl, hS⟩
    obtain ⟨a1, c1, rfl⟩ : ∃ a c, v = .slice a l.length c := by obtain ⟨_, a, c, hv, _⟩ := hS.rowSl; exact ⟨a, c, hv⟩
    have HPb := Lib.hid ((rParse_any t (by omega) hS).mono fun e w h => by unfold RPPst at h; rw [HP.out] at h; exact h)
    clear hS HPa
    go_wp2_with fail
    refine HPb.out.mono ?_
    rintro e w3 ⟨a2, c2, rfl, hS⟩
    obtain ⟨n, hn⟩ : ∃ n, l.length = n := ⟨_, rfl⟩
    rw [hn] at hS
    have HLk := Lib.hid (like_any a1 n c1 l hn (hS.right.rowSl) a2 n c2 l hn hS.rowSl)
    rw [show decide (l = l) = true from decide_eq_true rfl] at HLk
    have HS := Lib.hid hS
    clear hS HPb
    simp only [hn]
    clear hn
    go_wp2_with fail
    refine HLk.out.mono ?_
    rintro e w4 ⟨rfl, hb⟩
    have HS4 := Lib.hid (HS.out.past hb).right.right
    clear HS HLk hb
    go_wp2
    go_ret
    exact ⟨rfl, HS4.out⟩
theorem parses_any (t : Tx) (_ : (⟨t.toArray⟩ : ByteArray).size ≤ maxLen) {W : World} (hG : GlE W) : Calls Tryz.prog 3 #[.string ⟨t.toArray⟩] W (Law W emp) := law_parses hG.1 hG.2 t (St.start W)
end Go.Proofs.YtcjlbimmplejjaaGreatDoor.ScPr
