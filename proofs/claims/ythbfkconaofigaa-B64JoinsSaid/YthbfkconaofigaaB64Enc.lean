import Derived.Test.YthbfkconaofigaaBld
import Derived.Test.YthbfkconaofigaaFrame
import Derived.Test.YthbfkconaofigaaB64Law
import Derived.Test.YthbfkconaofigaaGen
namespace Go.Proofs.Ythbfkconaofigaa.B64Enc
open Go Go.RowKit Go.Proofs Go.Proofs.Ythbfkconaofigaa.Sep Go.Proofs.Ythbfkconaofigaa.Reg Go.Proofs.Ythbfkconaofigaa.Frame Go.Proofs.Ythbfkconaofigaa.B64Law Go.Proofs.Ythbfkconaofigaa.Bld

/-- The number of k bytes (noughts behind the last). -/
def numAt (l : List UInt8) : Nat → Nat
  | 0 => 0
  | k + 1 => numAt l k * 256 + ((l[k]?).map UInt8.toNat).getD 0
theorem numAt_le (l : List UInt8) : ∀ k, numAt l k < 256 ^ k
  | 0 => by simp [numAt]
  | k + 1 => by
    have := numAt_le l k
    have h2 : ((l[k]?).map UInt8.toNat).getD 0 < 256 := by
      cases l[k]? with
      | none => simp
      | some c => simpa using c.toNat_lt
    simp only [numAt, Nat.pow_succ]
    omega
theorem or_i64 (x : Nat) (c : UInt8) (hx : x ≤ 65535) : bits .or .i64 ((x : Int) * 256) (wrap64 (c.toNat : Int)) = ((x * 256 + c.toNat : Nat) : Int) := by
  have hc := c.toNat_lt
  rw [show wrap64 (c.toNat : Int) = (c.toNat : Int) from IntWalk.wrap64_in _ ⟨by omega, by omega⟩]
  rw [bits_join .i64 63 (by decide) (fun n h0 h1 => by rw [IntKind.wrap_i64]; omega) 8 _ _ (by omega) (by omega) (by omega) (by omega) (by omega) (by omega)]
  omega
/-- The letter at k of a group of n bytes. -/
def sign (n x k : Nat) : UInt8 := if k ≤ n then let_ (x / 2 ^ (18 - 6 * k) % 64) else 61
theorem enc_group : ∀ (r : List UInt8), 0 < r.length → enc r = [sign (min 3 r.length) (numAt (r.take (min 3 r.length)) 3) 0, sign (min 3 r.length) (numAt (r.take (min 3 r.length)) 3) 1, sign (min 3 r.length) (numAt (r.take (min 3 r.length)) 3) 2, sign (min 3 r.length) (numAt (r.take (min 3 r.length)) 3) 3] ++ enc (r.drop (min 3 r.length))
  | [], h => by simp at h
  | [a], _ => by
    have ha := a.toNat_lt
    simp [enc, sign, numAt]
    constructor <;> congr 1 <;> omega
  | [a, b], _ => by
    have ha := a.toNat_lt; have hb := b.toNat_lt
    simp [enc, sign, numAt]
    refine ⟨?_, ?_, ?_⟩ <;> congr 1 <;> omega
  | a :: b :: c :: t, _ => by
    have ha := a.toNat_lt; have hb := b.toNat_lt; have hc := c.toNat_lt
    have hm : min 3 (a :: b :: c :: t).length = 3 := by simp
    rw [hm]
    simp [enc, sign, numAt]
    refine ⟨?_, ?_, ?_, ?_⟩ <;> congr 1 <;> omega

theorem tab_get : ∀ (m : Nat) (h : m < 64), (ByteArray.mk #[65, 66, 67, 68, 69, 70, 71, 72, 73, 74, 75, 76, 77, 78, 79, 80, 81, 82, 83, 84, 85, 86, 87, 88, 89, 90, 97, 98, 99, 100, 101, 102, 103, 104, 105, 106, 107, 108, 109, 110, 111, 112, 113, 114, 115, 116, 117, 118, 119, 120, 121, 122, 48, 49, 50, 51, 52, 53, 54, 55, 56, 57, 43, 47])[m]'h = let_ m := by decide
def slen : Value → Nat
  | .string b => b.size
  | _ => 0

set_option maxRecDepth 100000 in
set_option maxHeartbeats 1600000 in
theorem Encode_any (s : List UInt8) (hs : s.length ≤ 100000) (w : World) : Calls Try.prog 14 #[.string ⟨s.toArray⟩] w (Makes w (.string ⟨(enc s).toArray⟩)) := by
  have h0 := BldA.new (St.start w)
  have hel := enc_length s
  go_enter Try.func14, Try.ntmps14
  go_wp2_with fail
  generalize w.heap.size = b at *
  go_loopw [0] (fun sv wr => ∃ (r o : List UInt8), sv = .string ⟨r.toArray⟩ ∧ o ++ enc r = enc s ∧ r.length ≤ s.length ∧ St w wr (star (BldA b o) emp)) (fun sv _ => slen sv)
  case atStart => exact ⟨s, [], rfl, rfl, by omega, h0⟩
  case round =>
    obtain ⟨r, o, rfl, ho, hr, hS⟩ := hrel
    have HO := Lib.hid ho
    have hol : o.length ≤ 1000000 := by have := congrArg List.length ho; simp only [List.length_append, hel] at this; omega
    clear ho hel h0
    by_cases hr0 : r = []
    · subst hr0
      go_wp2_with fail
      have hso : o = enc s := by
        have := HO.out
        rwa [show enc [] = [] from rfl, List.append_nil] at this
      refine (String_any hS).mono ?_
      rintro e w' ⟨rfl, hb⟩
      subst hso
      have hb' := hS.below.trans hb
      go_wp2
      go_ret
      exact ⟨rfl, hb'⟩
    · have hlen : 0 < r.length := by cases r <;> simp_all
      have hie : r.isEmpty = false := by cases r <;> simp_all
      clear hr0
      have HG := Lib.hid (enc_group r hlen)
      obtain ⟨n, hn⟩ : ∃ n, min 3 r.length = n := ⟨_, rfl⟩
      rw [hn] at HG
      have hn1 : 1 ≤ n := by omega
      have hn3 : n ≤ 3 := by omega
      have hnr : n ≤ r.length := by omega
      have hnI : min 3 (r.length : Int) = (n : Int) := by omega
      have HN := Lib.hid hn
      clear hn
      go_wp2_with fail
      go_loop [5, 6, 18] (fun x i j => ∃ k : Nat, k ≤ 3 ∧ j = .int .i64 k ∧ x = .int .i64 (numAt (r.take n) k)) (fun _ _ j => 3 - (intOf j).toNat)
      case atStart => exact ⟨0, by omega, rfl, rfl⟩
      case round =>
        obtain ⟨k, hk, rfl, rfl⟩ := hrel
        by_cases hk3 : k < 3
        · have hb : numAt (r.take n) k ≤ 65535 := by
            have := numAt_le (r.take n) k
            rcases (show k = 0 ∨ k = 1 ∨ k = 2 by omega) with rfl | rfl | rfl <;> simp at this <;> omega
          generalize hx : numAt (r.take n) k = x at *
          have HX := Lib.hid hx
          clear hx
          by_cases hkn : k < n
          · have hks : k < (ByteArray.mk r.toArray).size := by simp [ByteArray.size]; omega
            have HC : Hid (((r.take n)[k]?).map UInt8.toNat = some ((ByteArray.mk r.toArray)[k]'hks).toNat) := Lib.hid (by
              rw [List.getElem?_take, if_pos hkn, List.getElem?_eq_getElem (by omega)]; rfl)
            go_wp2_with fail
            refine ⟨⟨k + 1, by omega, by go_num, ?_⟩, by simp [intOf]; omega⟩
            rw [or_i64 _ _ hb]
            show _ = Value.int .i64 ((numAt (r.take n) k * 256 + _ : Nat) : Int)
            rw [HX.out, HC.out]; rfl
          · have HC : Hid (((r.take n)[k]?).map UInt8.toNat = none) := Lib.hid (by
              rw [List.getElem?_eq_none (by simp; omega)]; rfl)
            go_wp2_with fail
            refine ⟨⟨k + 1, by omega, by go_num, ?_⟩, by simp [intOf]; omega⟩
            show _ = Value.int .i64 ((numAt (r.take n) k * 256 + _ : Nat) : Int)
            rw [HX.out, HC.out]; simp
        · obtain rfl : k = 3 := by omega
          have hb : numAt (r.take n) 3 < 16777216 := numAt_le (r.take n) 3
          generalize numAt (r.take n) 3 = x at *
          go_wp2_with fail
          go_loopw [7, 33] (fun i j wr => ∃ k : Nat, k ≤ 4 ∧ j = .int .i64 k ∧ St w wr (star (BldA b (o ++ [sign n x 0, sign n x 1, sign n x 2, sign n x 3].take k)) emp)) (fun _ j _ => 4 - (intOf j).toNat)
          case atStart => exact ⟨0, by omega, rfl, by simpa using hS⟩
          case round =>
            obtain ⟨k, hk, rfl, hS⟩ := hrel
            by_cases hk4 : k < 4
            · have hcl : (o ++ [sign n x 0, sign n x 1, sign n x 2, sign n x 3].take k).length ≤ 1000000000 := by simp; omega
              have HS : Hid ([sign n x 0, sign n x 1, sign n x 2, sign n x 3].take (k + 1) = [sign n x 0, sign n x 1, sign n x 2, sign n x 3].take k ++ [sign n x k]) := Lib.hid (by
                rcases (show k = 0 ∨ k = 1 ∨ k = 2 ∨ k = 3 by omega) with rfl | rfl | rfl | rfl <;> rfl)
              generalize [sign n x 0, sign n x 1, sign n x 2, sign n x 3].take k = pk at *
              by_cases hkn : k ≤ n
              · have hand : bits .and .i64 ((x : Int) / 2 ^ (6 * (3 - k))) 63 = ((x / 2 ^ (18 - 6 * k) % 64 : Nat) : Int) := by
                  rw [show 6 * (3 - k) = 18 - 6 * k from by omega]
                  generalize hy : 18 - 6 * k = y
                  have h1 : ((x : Int) / 2 ^ y) = ((x / 2 ^ y : Nat) : Int) := by simp
                  rw [h1]
                  have h2 : x / 2 ^ y ≤ x := Nat.div_le_self _ _
                  generalize x / 2 ^ y = z at *
                  rw [show (63 : Int) = 2 ^ 6 - 1 from rfl, bits_mask .i64 63 (by decide) (fun n h0 h1 => by rw [IntKind.wrap_i64]; omega) 6 (by decide) _ (by omega) (by omega)]
                  simp
                have hsg : sign n x k = let_ (x / 2 ^ (18 - 6 * k) % 64) := if_pos hkn
                have hm64 : x / 2 ^ (18 - 6 * k) % 64 < 64 := Nat.mod_lt _ (by decide)
                have HSg := Lib.hid hsg
                clear hsg
                generalize hm : x / 2 ^ (18 - 6 * k) % 64 = m at *
                clear hm
                go_wp2_with fail
                refine (WriteByte_any _ hcl hS).mono ?_
                rintro e w2 ⟨rfl, h2⟩
                go_wp2
                refine ⟨⟨k + 1, by omega, by go_num, ?_⟩, by simp [intOf]; omega⟩
                rw [HS.out, HSg.out, ← List.append_assoc]
                rw [tab_get m hm64] at h2
                exact h2
              · have hsg : sign n x k = 61 := if_neg hkn
                have HSg := Lib.hid hsg
                clear hsg
                go_wp2_with fail
                refine (WriteByte_any 61 hcl hS).mono ?_
                rintro e w2 ⟨rfl, h2⟩
                go_wp2
                refine ⟨⟨k + 1, by omega, by go_num, ?_⟩, by simp [intOf]; omega⟩
                rw [HS.out, HSg.out, ← List.append_assoc]
                exact h2
            · obtain rfl : k = 4 := by omega
              go_wp2_with fail
              rw [str_extract, List.take_of_length_le (by simp)]
              refine ⟨⟨r.drop n, _, rfl, ?_, ?_, hS⟩, ?_⟩
              · rw [List.take_of_length_le (by simp), List.append_assoc, ← HG.out]
                exact HO.out
              · simp; omega
              · simp [slen, ByteArray.size]; omega

end Go.Proofs.Ythbfkconaofigaa.B64Enc
