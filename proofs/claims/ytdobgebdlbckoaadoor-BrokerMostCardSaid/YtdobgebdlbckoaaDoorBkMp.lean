/-
  The plain law of BrokerMost: one member, who hears the topics of a list. No program is named here.
-/
import Derived.Test.YtdobgebdlbckoaaDoorBkP
namespace Go.Proofs.YtdobgebdlbckoaaDoor.BkMp
open Go Go.Proofs.YtdobgebdlbckoaaDoor.WdP Go.Proofs.YtdobgebdlbckoaaDoor.TpP Go.Proofs.YtdobgebdlbckoaaDoor.Mp Go.Proofs.YtdobgebdlbckoaaDoor.BkP

def hp (H : List Tx) : List Pr := H.map fun t => (t, 5)
def hb (H : List Tx) : BS := ([(5, 0)], hp H)
def addT (H : List Tx) (t : Tx) : List Tx := if t ∈ H then H else H ++ [t]
theorem hp_len (H : List Tx) : (hp H).length = H.length := by simp [hp]
theorem hp_mem {H : List Tx} {t : Tx} : (t, (5 : Int)) ∈ hp H ↔ t ∈ H := by simp [hp]
theorem hp_by (H : List Tx) : byP (hp H) 5 = H := by
  unfold byP hp
  rw [List.filter_eq_self.2 (by intro x hx; obtain ⟨t, _, rfl⟩ := List.mem_map.1 hx; simp), List.map_map]
  simp [Function.comp_def]
theorem hp_drop (H : List Tx) (t : Tx) : dropP (hp H) t 5 = hp (H.filter fun x => decide (x ≠ t)) := by
  unfold dropP hp
  rw [List.filter_map]
  congr 1
  refine List.filter_congr fun x _ => ?_
  simp
theorem hp_add (H : List Tx) (t : Tx) : addQ (hp H) t 5 = hp (addT H t) := by
  unfold addQ addT
  by_cases h : t ∈ H
  · rw [if_pos h, if_pos (hp_mem.2 h)]
  · rw [if_neg h, if_neg (fun h' => h (hp_mem.1 h'))]; simp [hp]
theorem isM5 (H : List Tx) : isM (hb H) 5 = true := by kernel_rfl
theorem join5 : joinB ([], []) 5 = (0, hb []) := by kernel_rfl
theorem parse_sub {t : Tx} (h : topic t = true) : parseW (wSUB ++ 32 :: t) = some (1, t, []) := by
  obtain ⟨n, hn, hp, _⟩ := parse_bytes (k := 1) (t := t) (d := []) (s := wSUB ++ 32 :: t) (by simp [bytesW, h])
  obtain rfl : n = 1 := by omega
  exact hp
theorem parse_unsub {t : Tx} (h : topic t = true) : parseW (wUNSUB ++ 32 :: t) = some (2, t, []) := by
  obtain ⟨n, hn, hp, _⟩ := parse_bytes (k := 2) (t := t) (d := []) (s := wUNSUB ++ 32 :: t) (by simp [bytesW, h])
  obtain rfl : n = 2 := by omega
  exact hp
theorem do_full {H : List Tx} {t : Tx} (h : topic t = true) (h1 : t ∉ H) (h2 : 8 ≤ H.length) : doB (hb H) 5 1 (wSUB ++ 32 :: t) = ([(5, 1, [69, 82, 82, 32, 50])], hb H) := by
  unfold doB
  rw [if_pos (isM5 H), parse_sub h]
  simp only [if_true]
  unfold subB
  rw [if_pos ⟨fun h' => h1 (hp_mem.1 h'), by show 8 ≤ (byP (hp H) 5).length; rw [hp_by]; exact h2⟩]
  rw [show errT 2 = [69, 82, 82, 32, 50] from by kernel_rfl]
theorem do_sub {H : List Tx} {t : Tx} (h : topic t = true) (h1 : t ∈ H ∨ H.length < 8) : doB (hb H) 5 1 (wSUB ++ 32 :: t) = ([], hb (addT H t)) := by
  unfold doB
  rw [if_pos (isM5 H), parse_sub h]
  simp only [if_true]
  unfold subB
  rw [if_neg (by
    rintro ⟨h2, h3⟩
    have h3 : 8 ≤ (byP (hp H) 5).length := h3
    rw [hp_by] at h3
    rcases h1 with h1 | h1
    · exact h2 (hp_mem.2 h1)
    · omega)]
  show ([], ([((5 : Int), 0)], addQ (hp H) t 5)) = _
  rw [hp_add]; rfl
theorem do_unsub {H : List Tx} {t : Tx} (h : topic t = true) (h1 : t ∈ H) : doB (hb H) 5 1 (wUNSUB ++ 32 :: t) = ([], hb (H.filter fun x => decide (x ≠ t))) := by
  unfold doB
  rw [if_pos (isM5 H), parse_unsub h]
  simp only [if_true]
  rw [if_neg (by decide)]
  unfold unsubB
  rw [if_pos (show (t, 5) ∈ (hb H).2 from hp_mem.2 h1)]
  show ([], ([((5 : Int), 0)], dropP (hp H) t 5)) = _
  rw [hp_drop]; rfl
theorem filter_len : ∀ {H : List Tx} {t : Tx}, H.Nodup → t ∈ H → (H.filter fun x => decide (x ≠ t)).length + 1 = H.length
  | y :: H, t, hn, h => by
    obtain ⟨h1, h2⟩ := List.nodup_cons.1 hn
    by_cases e : y = t
    · subst e
      rw [List.filter_cons_of_neg (by simp), List.filter_eq_self.2 (fun x hx => by simp; rintro rfl; exact h1 hx)]; rfl
    · rw [List.filter_cons_of_pos (by simpa using e)]
      have := filter_len h2 (by rcases List.mem_cons.1 h with h | h; exact absurd h.symm e; exact h)
      simp only [List.length_cons]; omega
theorem addT_nodup {H : List Tx} (h : H.Nodup) (t : Tx) : (addT H t).Nodup := by
  unfold addT
  split
  · exact h
  · rename_i h1
    exact List.nodup_append.2 ⟨h, by simp, by intro a ha b hb; simp at hb; subst hb; rintro rfl; exact h1 ha⟩
end Go.Proofs.YtdobgebdlbckoaaDoor.BkMp
