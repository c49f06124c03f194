import Derived.Test.YtedkkcbdhbbegaaTmK2
namespace Go.Proofs.Ytedkkcbdhbbegaa.TmK3
open Go Go.RowKit Go.Proofs Go.Proofs.Ytedkkcbdhbbegaa.Sep Go.Proofs.Ytedkkcbdhbbegaa.Reg Go.Proofs.Ytedkkcbdhbbegaa.Frame Go.Proofs.Ytedkkcbdhbbegaa.Slc Go.Proofs.Ytedkkcbdhbbegaa.TmP Go.Proofs.Ytedkkcbdhbbegaa.TmQ Go.Proofs.Ytedkkcbdhbbegaa.Rng Go.Proofs.Ytedkkcbdhbbegaa.RngA Go.Proofs.Ytedkkcbdhbbegaa.RngB Go.Proofs.Ytedkkcbdhbbegaa.TmI Go.Proofs.Ytedkkcbdhbbegaa.TmI2 Go.Proofs.Ytedkkcbdhbbegaa.TmI3 Go.Proofs.Ytedkkcbdhbbegaa.TmI4 Go.Proofs.Ytedkkcbdhbbegaa.TmI5 Go.Proofs.Ytedkkcbdhbbegaa.TmI6 Go.Proofs.Ytedkkcbdhbbegaa.TmI7 Go.Proofs.Ytedkkcbdhbbegaa.TmI8 Go.Proofs.Ytedkkcbdhbbegaa.TmK Go.Proofs.Ytedkkcbdhbbegaa.TmK2

theorem srt_of {l : List (κ × Int)} (h : (decide (l.Pairwise fun x y => bef ltK x y = true)) = true) : Srt ltK l := by simpa [Srt] using h
/-- Pop, at a list that is known. -/
theorem Pop_at (p : Nat) (v : Value) (l : List (κ × Int)) (hs : Srt ltK l) (hl : l.length ≤ 1000000) (now : Int) (o : List Int) (r : List (κ × Int)) (ho : outP now l = o) (hr : restP now l = r) {W w : World} {R : Asn} (h : St W w (star (IsT p v l) R)) :
    Calls Try.prog 17 #[.pointer (some ⟨p, 0, none⟩), .int .i64 now] w fun e w' => ∃ a c v', e = .returned (.slice a o.length c) ∧ St W w' (star (Row 3 1 (.slice a o.length c) o.length (intV o)) (star (IsT p v' r) R)) := by
  refine (Pop_any p v l hs hl now h).mono ?_
  rintro e w' ⟨x, v', rfl, h'⟩
  unfold outV at h'
  rw [ho, hr] at h'
  obtain ⟨_, a, c, rfl, _⟩ := id h'.rowSl
  exact ⟨a, c, v', rfl, h'⟩
theorem keys_at (p : Nat) (v : Value) (l : List (κ × Int)) (hnd : (keysOf l).Nodup) (hl : l.length ≤ 1000000) (most : Nat) (hm : 1 ≤ most) (hm2 : most ≤ 1000000) (o : List Int) (ho : keysOf (l.take most) = o) (mi : Int) (hmi : mi = most) {W w : World} {R : Asn} (h : St W w (star (IsT p v l) R)) :
    Calls Try.prog 19 #[.pointer (some ⟨p, 0, none⟩), .int .i64 mi] w fun e w' => ∃ a c, e = .returned (.slice a o.length c) ∧ St W w' (star (Row 3 1 (.slice a o.length c) o.length (intV o)) (star (IsT p v l) R)) := by
  subst hmi
  refine (keys_any p v l hnd hl most hm hm2 h).mono ?_
  rintro e w' ⟨x, rfl, h'⟩
  rw [ho] at h'
  obtain ⟨_, a, c, rfl, _⟩ := id h'.rowSl
  exact ⟨a, c, rfl, h'⟩
theorem lit_sl {W w : World} {g n : Nat} {l : List Int} {R : Asn} (hn : l.length = n) (hm : n ≤ 1000000) (h : St W w (star (pt g (.cells (intV l).toArray 3 (0, 0))) R)) : Sl w 1 (.slice (some ⟨g, 0, none⟩) n n) n (intV l) := by
  have := St.mkRow (size := 1) (n := n) (cap := n) (xs := intV l) h (Nat.le_refl _) (by unfold maxLen; omega) (by simp [intV, hn]) (by
    show (intV l).take (n * 1) = intV l
    exact List.take_of_length_le (by simp [intV, hn]))
  exact this.rowSl
theorem Set_at (p : Nat) (v : Value) (l : List (κ × Int)) (hs : Srt ltK l) (hn1 : l.length < 1000000) (k : κ) (d : Int) (hd0 : 0 ≤ d) (hd1 : d ≤ 4611686018427387904) (r : List (κ × Int)) (hr : setP ltK k d l = r) {W w : World} {R : Asn} (h : St W w (star (IsT p v l) R)) :
    Calls Try.prog 13 #[.pointer (some ⟨p, 0, none⟩), .int .i64 k, .int .i64 d] w (SPost W p 0 r R) := hr ▸ Set_any p v l hs hn1 k d hd0 hd1 h

set_option maxRecDepth 100000 in
set_option maxHeartbeats 8000000 in
theorem wakes_any (w : World) : Calls Try.prog 8 #[] w (Makes w (.bool true)) := by
  have HN := Lib.hid (New_any (St.start w))
  go_enter Try.func8, Try.ntmps8
  go_wp2_with fail
  refine HN.out.mono ?_
  rintro e w1 ⟨p, v, rfl, h1⟩
  have H := Lib.hid (Set_at p v [] (srt_of (by decide)) (by decide) 7 5 (by decide) (by decide) [(7, 5)] (by decide) h1)
  go_wp2_with fail
  refine H.out.mono ?_
  rintro e w2 ⟨rfl, v2, h2⟩
  have H := Lib.hid (Set_at p v2 [(7, 5)] (srt_of (by decide)) (by decide) 3 5 (by decide) (by decide) [(3, 5), (7, 5)] (by decide) h2)
  go_wp2_with fail
  refine H.out.mono ?_
  rintro e w3 ⟨rfl, v3, h3⟩
  have H := Lib.hid (Set_at p v3 [(3, 5), (7, 5)] (srt_of (by decide)) (by decide) 9 2 (by decide) (by decide) [(9, 2), (3, 5), (7, 5)] (by decide) h3)
  go_wp2_with fail
  refine H.out.mono ?_
  rintro e w4 ⟨rfl, v4, h4⟩
  have H := Lib.hid (Due_any p v4 [(9, 2), (3, 5), (7, 5)] 7 (.tuple #[.int .i64 5, .bool true]) (by rfl) h4)
  go_wp2_with fail
  refine H.out.mono ?_
  rintro e w5 hq
  have h5 := h4.makes hq
  obtain ⟨rfl, -⟩ := hq
  have H := Lib.hid (Pop_at p v4 [(9, 2), (3, 5), (7, 5)] (srt_of (by decide)) (by decide) 4 [9] [(3, 5), (7, 5)] (by decide) (by decide) h5)
  go_wp2_with fail
  refine H.out.mono ?_
  rintro e w6 ⟨a6, c6, v6, rfl, h6⟩
  have h7 := h6.alloc (.cells #[.int .i64 9] 3)
  have H := Lib.hid (sameI_any [9] [9] _ a6 1 c6 _ 1 1 rfl rfl (by decide) h7.right.rowSl (lit_sl rfl (by decide) h7))
  go_wp2_with fail
  refine H.out.mono ?_
  rintro e w7 hq
  have h8 := (h7.makes hq).right.right
  obtain ⟨rfl, -⟩ := hq
  have H := Lib.hid (keys_at p v6 [(3, 5), (7, 5)] (by decide) (by decide) 9 (by decide) (by decide) [3, 7] (by decide) 9 rfl h8)
  go_wp2_with fail
  refine H.out.mono ?_
  rintro e w8 ⟨a8, c8, rfl, h9⟩
  have h10 := h9.alloc (.cells #[.int .i64 3, .int .i64 7] 3)
  have H := Lib.hid (sameI_any [3, 7] [3, 7] _ a8 2 c8 _ 2 2 rfl rfl (by decide) h10.right.rowSl (lit_sl rfl (by decide) h10))
  go_wp2_with fail
  refine H.out.mono ?_
  rintro e w9 hq
  have h11 := (h10.makes hq).right.right
  obtain ⟨rfl, -⟩ := hq
  have H := Lib.hid (Len_any p v6 [(3, 5), (7, 5)] h11)
  go_wp2_with fail
  refine H.out.mono ?_
  rintro e w10 hq
  have h12 := h11.makes hq
  obtain ⟨rfl, -⟩ := hq
  go_wp2
  go_ret
  exact ⟨rfl, h12.below⟩
end Go.Proofs.Ytedkkcbdhbbegaa.TmK3
