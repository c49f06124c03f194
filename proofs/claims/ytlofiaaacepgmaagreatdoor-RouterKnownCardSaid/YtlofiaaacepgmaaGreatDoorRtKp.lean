import Derived.Test.YtlofiaaacepgmaaGreatDoorRtZ
namespace Go.Proofs.YtlofiaaacepgmaaGreatDoor.RtKp
open Go Go.Proofs.YtlofiaaacepgmaaGreatDoor.PathP Go.Proofs.YtlofiaaacepgmaaGreatDoor.Mp Go.Proofs.YtlofiaaacepgmaaGreatDoor.TrP Go.Proofs.YtlofiaaacepgmaaGreatDoor.TrU Go.Proofs.YtlofiaaacepgmaaGreatDoor.WdP Go.Proofs.YtlofiaaacepgmaaGreatDoor.RtP Go.Proofs.YtlofiaaacepgmaaGreatDoor.RtQ Go.Proofs.YtlofiaaacepgmaaGreatDoor.RtC Go.Proofs.YtlofiaaacepgmaaGreatDoor.RtV
/-- A row of what is asked. -/
structure Qr where
  m : Tx
  p : Tx
  b : Tx
  c : Int
  f : List (Tx × Tx)
  t : Tx
  k : Int
def asks : List Qr := [
⟨[71, 69, 84], [47], [], 200, [], [104, 111, 109, 101], 1⟩,
  ⟨[72, 69, 65, 68], [47], [], 200, [], [104, 111, 109, 101], 1⟩,
  ⟨[71, 69, 84], [47, 97, 47, 98], [], 200, [], [98], 1⟩,
  ⟨[71, 69, 84], [47, 97, 47, 122], [], 200, [], [120, 61, 122, 10], 3⟩,
  ⟨[71, 69, 84], [47, 97, 47, 37, 55, 97], [], 200, [], [120, 61, 122, 10], 3⟩,
  ⟨[80, 79, 83, 84], [47, 97, 47, 122], [104, 105], 200, [], [104, 105], 2⟩,
  ⟨[80, 79, 83, 84], [47, 97, 47, 98], [], 405, [(tAllow, [71, 69, 84, 44, 32, 72, 69, 65, 68])], [110, 111, 32, 115, 117, 99, 104, 32, 109, 101, 116, 104, 111, 100], 0⟩,
  ⟨[71, 69, 84], [47, 113], [], 404, [], [110, 111, 116, 32, 102, 111, 117, 110, 100], 0⟩,
  ⟨[80, 85, 84], [47, 97, 47, 122], [], 405, [(tAllow, [71, 69, 84, 44, 32, 72, 69, 65, 68, 44, 32, 80, 79, 83, 84])], [110, 111, 32, 115, 117, 99, 104, 32, 109, 101, 116, 104, 111, 100], 0⟩,
  ⟨[71, 69, 84], [47, 119, 115], [], 101, [], [], 4⟩,
  ⟨[71, 69, 84], [47, 37, 122, 122], [], 400, [], [98, 97, 100, 32, 112, 97, 116, 104], 0⟩]
theorem ask0 : serveR ces ⟨[71, 69, 84], [47], []⟩ = ((200, [], [104, 111, 109, 101]), 1) := by rw [serveI_eq]; decide +kernel
theorem ask1 : serveR ces ⟨[72, 69, 65, 68], [47], []⟩ = ((200, [], [104, 111, 109, 101]), 1) := by rw [serveI_eq]; decide +kernel
theorem ask2 : serveR ces ⟨[71, 69, 84], [47, 97, 47, 98], []⟩ = ((200, [], [98]), 1) := by rw [serveI_eq]; decide +kernel
theorem ask3 : serveR ces ⟨[71, 69, 84], [47, 97, 47, 122], []⟩ = ((200, [], [120, 61, 122, 10]), 3) := by rw [serveI_eq]; decide +kernel
theorem ask4 : serveR ces ⟨[71, 69, 84], [47, 97, 47, 37, 55, 97], []⟩ = ((200, [], [120, 61, 122, 10]), 3) := by rw [serveI_eq]; decide +kernel
theorem ask5 : serveR ces ⟨[80, 79, 83, 84], [47, 97, 47, 122], [104, 105]⟩ = ((200, [], [104, 105]), 2) := by rw [serveI_eq]; decide +kernel
theorem ask6 : serveR ces ⟨[80, 79, 83, 84], [47, 97, 47, 98], []⟩ = ((405, [(tAllow, [71, 69, 84, 44, 32, 72, 69, 65, 68])], [110, 111, 32, 115, 117, 99, 104, 32, 109, 101, 116, 104, 111, 100]), 0) := by rw [serveI_eq]; decide +kernel
theorem ask7 : serveR ces ⟨[71, 69, 84], [47, 113], []⟩ = ((404, [], [110, 111, 116, 32, 102, 111, 117, 110, 100]), 0) := by rw [serveI_eq]; decide +kernel
theorem ask8 : serveR ces ⟨[80, 85, 84], [47, 97, 47, 122], []⟩ = ((405, [(tAllow, [71, 69, 84, 44, 32, 72, 69, 65, 68, 44, 32, 80, 79, 83, 84])], [110, 111, 32, 115, 117, 99, 104, 32, 109, 101, 116, 104, 111, 100]), 0) := by rw [serveI_eq]; decide +kernel
theorem ask9 : serveR ces ⟨[71, 69, 84], [47, 119, 115], []⟩ = ((101, [], []), 4) := by rw [serveI_eq]; decide +kernel
theorem ask10 : serveR ces ⟨[71, 69, 84], [47, 37, 122, 122], []⟩ = ((400, [], [98, 97, 100, 32, 112, 97, 116, 104]), 0) := by rw [serveI_eq]; decide +kernel
theorem asks_ok : ∀ (i : Nat) (y : Qr), asks[i]? = some y → serveR ces ⟨y.m, y.p, y.b⟩ = ((y.c, y.f, y.t), y.k) ∧ y.p.length ≤ 300 := by
  intro i y hy
  rcases i with _ | i
  · cases hy; exact ⟨ask0, by decide⟩
  rcases i with _ | i
  · cases hy; exact ⟨ask1, by decide⟩
  rcases i with _ | i
  · cases hy; exact ⟨ask2, by decide⟩
  rcases i with _ | i
  · cases hy; exact ⟨ask3, by decide⟩
  rcases i with _ | i
  · cases hy; exact ⟨ask4, by decide⟩
  rcases i with _ | i
  · cases hy; exact ⟨ask5, by decide⟩
  rcases i with _ | i
  · cases hy; exact ⟨ask6, by decide⟩
  rcases i with _ | i
  · cases hy; exact ⟨ask7, by decide⟩
  rcases i with _ | i
  · cases hy; exact ⟨ask8, by decide⟩
  rcases i with _ | i
  · cases hy; exact ⟨ask9, by decide⟩
  rcases i with _ | i
  · cases hy; exact ⟨ask10, by decide⟩
  cases hy
/-- The routes that are added, and what New says. -/
def moreR : List (Rt × Int) := [
(⟨[71, 69, 84], [47], 2, []⟩, 5),
  (⟨[80, 85, 84], [47, 97, 47, 58, 121], 2, []⟩, 5),
  (⟨[80, 85, 84], [47], 2, []⟩, 0),
  (⟨[80, 79, 83, 84], [47, 120], 4, []⟩, 1),
  (⟨[71, 32, 84], [47, 120], 2, []⟩, 1),
  (⟨[71, 69, 84], [120], 2, []⟩, 1),
  (⟨[71, 69, 84], [47, 120], 5, []⟩, 1),
  (⟨[71, 69, 84], [47, 120], 0, []⟩, 1),
  (⟨[71, 69, 84], [47, 120], 2, [116]⟩, 1),
  (⟨[71, 69, 84], [47, 120], 1, List.replicate 4096 0⟩, 0),
  (⟨[71, 69, 84], [47, 120], 1, List.replicate 4097 0⟩, 1)]
theorem more0 : newN (chap ++ [⟨[71, 69, 84], [47], 2, []⟩]) = 5 := by decide +kernel
theorem more1 : newN (chap ++ [⟨[80, 85, 84], [47, 97, 47, 58, 121], 2, []⟩]) = 5 := by decide +kernel
theorem more2 : newN (chap ++ [⟨[80, 85, 84], [47], 2, []⟩]) = 0 := by decide +kernel
theorem more3 : newN (chap ++ [⟨[80, 79, 83, 84], [47, 120], 4, []⟩]) = 1 := by decide +kernel
theorem more4 : newN (chap ++ [⟨[71, 32, 84], [47, 120], 2, []⟩]) = 1 := by decide +kernel
theorem more5 : newN (chap ++ [⟨[71, 69, 84], [120], 2, []⟩]) = 1 := by decide +kernel
theorem more6 : newN (chap ++ [⟨[71, 69, 84], [47, 120], 5, []⟩]) = 1 := by decide +kernel
theorem more7 : newN (chap ++ [⟨[71, 69, 84], [47, 120], 0, []⟩]) = 1 := by decide +kernel
theorem more8 : newN (chap ++ [⟨[71, 69, 84], [47, 120], 2, [116]⟩]) = 1 := by decide +kernel
theorem more9 : newN (chap ++ [⟨[71, 69, 84], [47, 120], 1, List.replicate 4096 0⟩]) = 0 := by decide +kernel
theorem more10 : newN (chap ++ [⟨[71, 69, 84], [47, 120], 1, List.replicate 4097 0⟩]) = 1 := by decide +kernel
theorem more_ok : ∀ (i : Nat) (y : Rt × Int), moreR[i]? = some y → newN (chap ++ [y.1]) = y.2 ∧ y.1.m.length ≤ 1000 ∧ y.1.p.length ≤ 1000 := by
  intro i y hy
  rcases i with _ | i
  · cases hy; exact ⟨more0, by decide, by decide⟩
  rcases i with _ | i
  · cases hy; exact ⟨more1, by decide, by decide⟩
  rcases i with _ | i
  · cases hy; exact ⟨more2, by decide, by decide⟩
  rcases i with _ | i
  · cases hy; exact ⟨more3, by decide, by decide⟩
  rcases i with _ | i
  · cases hy; exact ⟨more4, by decide, by decide⟩
  rcases i with _ | i
  · cases hy; exact ⟨more5, by decide, by decide⟩
  rcases i with _ | i
  · cases hy; exact ⟨more6, by decide, by decide⟩
  rcases i with _ | i
  · cases hy; exact ⟨more7, by decide, by decide⟩
  rcases i with _ | i
  · cases hy; exact ⟨more8, by decide, by decide⟩
  rcases i with _ | i
  · cases hy; exact ⟨more9, by decide, by decide⟩
  rcases i with _ | i
  · cases hy; exact ⟨more10, by decide, by decide⟩
  cases hy
theorem full33 (l : List Rt) (h : l.length = 33) : newN l = 6 := by unfold newN; rw [if_pos (by omega)]
end Go.Proofs.YtlofiaaacepgmaaGreatDoor.RtKp
