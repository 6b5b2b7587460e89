/- Chapter 8: Least: by lengths, and by counted bytes. No condition. Printed by levleastgen.py. -/
import Derived.Test.YtibaekemfefoaaaLevD
namespace Go.Proofs.YtibaekemfefoaaaF
open Go Go.Proofs.YtibaekemfefoaaaK
set_option linter.unusedSimpArgs false
set_option maxRecDepth 100000
set_option linter.unusedVariables false

def cntN (l : List Int) (k : Nat) : Int := (l.count (k : Int) : Int)
theorem cntN_snoc (l : List Int) (x k : Nat) : cntN (l ++ [(x : Int)]) k = cntN l k + (if k = x then 1 else 0) := by
  unfold cntN
  rw [List.count_append, List.count_singleton]
  by_cases h : k = x
  · subst h; simp
  · rw [if_neg h, if_neg (by simp; omega)]; simp
theorem cntN_bd (l : List Int) (k : Nat) : 0 ≤ cntN l k ∧ cntN l k ≤ l.length := by
  unfold cntN
  have := List.count_le_length (a := (k : Int)) (l := l)
  omega
def sumN (g : Nat → Int) : Nat → Int
  | 0 => 0
  | n + 1 => sumN g n + g n
theorem sumN_bd {g : Nat → Int} {m : Int} (h : ∀ k, 0 ≤ g k ∧ g k ≤ m) : ∀ n : Nat, 0 ≤ sumN g n ∧ sumN g n ≤ n * m
  | 0 => by simp [sumN]
  | n + 1 => by
    have h1 := sumN_bd h n
    have h2 := h n
    have h3 : ((n + 1 : Nat) : Int) * m = n * m + m := by rw [Int.natCast_add, Int.add_mul]; simp
    unfold sumN
    omega
def difN (a b : List Int) (k : Nat) : Int := cntN a k - cntN b k
def moreN (a b : List Int) : Nat → Int := sumN fun k => max (difN a b k) 0
def lessN (a b : List Int) : Nat → Int := sumN fun k => max (- difN a b k) 0
/-- How many edits there are in any case. -/
def leastN (a b : List Int) : Int := max (max (moreN a b 256) (lessN a b 256)) (max ((a.length : Int) - b.length) ((b.length : Int) - a.length))
theorem more_bd {a b : List Int} (ha : a.length ≤ 1048576) (hb : b.length ≤ 1048576) (n : Nat) : 0 ≤ moreN a b n ∧ moreN a b n ≤ n * 1048576 :=
  sumN_bd (fun k => by have := cntN_bd a k; have := cntN_bd b k; unfold difN; omega) n
theorem less_bd {a b : List Int} (ha : a.length ≤ 1048576) (hb : b.length ≤ 1048576) (n : Nat) : 0 ≤ lessN a b n ∧ lessN a b n ≤ n * 1048576 :=
  sumN_bd (fun k => by have := cntN_bd a k; have := cntN_bd b k; unfold difN; omega) n
/-! The row of 256 numbers. -/
def cellsN (f : Nat → Int) : Array Value := ((List.range 256).map fun k => Value.int .i64 (f k)).toArray
theorem cellsN_size (f : Nat → Int) : (cellsN f).size = 256 := by simp [cellsN]
theorem cellsN_get (f : Nat → Int) (k : Nat) (hk : k < 256) : (cellsN f)[k]? = some (.int .i64 (f k)) := by
  unfold cellsN
  rw [List.getElem?_toArray, List.getElem?_map, List.getElem?_range hk]; rfl
theorem cellsN_set (f f' : Nat → Int) (t : Nat) (v : Int) (ht : t < 256) (h : ∀ k, f' k = if k = t then v else f k) : (cellsN f).setIfInBounds t (.int .i64 v) = cellsN f' := by
  apply Array.ext_getElem?
  intro i
  rw [Array.getElem?_setIfInBounds]
  by_cases hi : i < 256
  · rw [cellsN_get f' i hi, h i]
    by_cases e : t = i
    · subst e; rw [if_pos rfl, if_pos (by rw [cellsN_size]; exact ht), if_pos rfl]
    · rw [if_neg e, if_neg (fun e' => e e'.symm), cellsN_get f i hi]
  · have h1 : (cellsN f')[i]? = none := by rw [Array.getElem?_eq_none]; rw [cellsN_size]; omega
    have h2 : (cellsN f)[i]? = none := by rw [Array.getElem?_eq_none]; rw [cellsN_size]; omega
    rw [h1, h2]
    split
    · rw [if_neg (by rw [cellsN_size]; omega)]
    · rfl
theorem bts_byte {s : ByteArray} {i : Nat} (hi : i < s.size) : ∃ t : Nat, (bts s)[i]? = some (t : Int) ∧ t < 256 := by
  refine ⟨_, bts_get hi, ?_⟩
  exact (s[i]).toNat_lt
theorem least_mid {a b : ByteArray} {h : Hp} {p : Nat} {K : Int → Hp → Prop} (ha : a.size ≤ 1048576) (hb : b.size ≤ 1048576) {f : Nat → Int} (hf : ∀ k, f k = difN (bts a) (bts b) k) (bx : Blk h p (cellsN f))
    (hK : K (leastN (bts a) (bts b)) h) : J2_lev_Least a b K ⟨p, 0, none⟩ () h := by
  have la := bts_len a
  have lb := bts_len b
  unfold J2_lev_Least
  rw [Jn_eq]
  refine ldA_blk (s := .int .i64) (i := 0) (x := f 0) bx (cellsN_get f 0 (by decide)) ?_
  refine ldA_blk (s := .int .i64) (i := 1) (x := f 1) bx (cellsN_get f 1 (by decide)) ?_
  refine ldA_blk (s := .int .i64) (i := 2) (x := f 2) bx (cellsN_get f 2 (by decide)) ?_
  refine ldA_blk (s := .int .i64) (i := 3) (x := f 3) bx (cellsN_get f 3 (by decide)) ?_
  refine ldA_blk (s := .int .i64) (i := 4) (x := f 4) bx (cellsN_get f 4 (by decide)) ?_
  refine ldA_blk (s := .int .i64) (i := 5) (x := f 5) bx (cellsN_get f 5 (by decide)) ?_
  refine ldA_blk (s := .int .i64) (i := 6) (x := f 6) bx (cellsN_get f 6 (by decide)) ?_
  refine ldA_blk (s := .int .i64) (i := 7) (x := f 7) bx (cellsN_get f 7 (by decide)) ?_
  refine ldA_blk (s := .int .i64) (i := 8) (x := f 8) bx (cellsN_get f 8 (by decide)) ?_
  refine ldA_blk (s := .int .i64) (i := 9) (x := f 9) bx (cellsN_get f 9 (by decide)) ?_
  refine ldA_blk (s := .int .i64) (i := 10) (x := f 10) bx (cellsN_get f 10 (by decide)) ?_
  refine ldA_blk (s := .int .i64) (i := 11) (x := f 11) bx (cellsN_get f 11 (by decide)) ?_
  refine ldA_blk (s := .int .i64) (i := 12) (x := f 12) bx (cellsN_get f 12 (by decide)) ?_
  refine ldA_blk (s := .int .i64) (i := 13) (x := f 13) bx (cellsN_get f 13 (by decide)) ?_
  refine ldA_blk (s := .int .i64) (i := 14) (x := f 14) bx (cellsN_get f 14 (by decide)) ?_
  refine ldA_blk (s := .int .i64) (i := 15) (x := f 15) bx (cellsN_get f 15 (by decide)) ?_
  refine ldA_blk (s := .int .i64) (i := 16) (x := f 16) bx (cellsN_get f 16 (by decide)) ?_
  refine ldA_blk (s := .int .i64) (i := 17) (x := f 17) bx (cellsN_get f 17 (by decide)) ?_
  refine ldA_blk (s := .int .i64) (i := 18) (x := f 18) bx (cellsN_get f 18 (by decide)) ?_
  refine ldA_blk (s := .int .i64) (i := 19) (x := f 19) bx (cellsN_get f 19 (by decide)) ?_
  refine ldA_blk (s := .int .i64) (i := 20) (x := f 20) bx (cellsN_get f 20 (by decide)) ?_
  refine ldA_blk (s := .int .i64) (i := 21) (x := f 21) bx (cellsN_get f 21 (by decide)) ?_
  refine ldA_blk (s := .int .i64) (i := 22) (x := f 22) bx (cellsN_get f 22 (by decide)) ?_
  refine ldA_blk (s := .int .i64) (i := 23) (x := f 23) bx (cellsN_get f 23 (by decide)) ?_
  refine ldA_blk (s := .int .i64) (i := 24) (x := f 24) bx (cellsN_get f 24 (by decide)) ?_
  refine ldA_blk (s := .int .i64) (i := 25) (x := f 25) bx (cellsN_get f 25 (by decide)) ?_
  refine ldA_blk (s := .int .i64) (i := 26) (x := f 26) bx (cellsN_get f 26 (by decide)) ?_
  refine ldA_blk (s := .int .i64) (i := 27) (x := f 27) bx (cellsN_get f 27 (by decide)) ?_
  refine ldA_blk (s := .int .i64) (i := 28) (x := f 28) bx (cellsN_get f 28 (by decide)) ?_
  refine ldA_blk (s := .int .i64) (i := 29) (x := f 29) bx (cellsN_get f 29 (by decide)) ?_
  refine ldA_blk (s := .int .i64) (i := 30) (x := f 30) bx (cellsN_get f 30 (by decide)) ?_
  refine ldA_blk (s := .int .i64) (i := 31) (x := f 31) bx (cellsN_get f 31 (by decide)) ?_
  refine ldA_blk (s := .int .i64) (i := 32) (x := f 32) bx (cellsN_get f 32 (by decide)) ?_
  refine ldA_blk (s := .int .i64) (i := 33) (x := f 33) bx (cellsN_get f 33 (by decide)) ?_
  refine ldA_blk (s := .int .i64) (i := 34) (x := f 34) bx (cellsN_get f 34 (by decide)) ?_
  refine ldA_blk (s := .int .i64) (i := 35) (x := f 35) bx (cellsN_get f 35 (by decide)) ?_
  refine ldA_blk (s := .int .i64) (i := 36) (x := f 36) bx (cellsN_get f 36 (by decide)) ?_
  refine ldA_blk (s := .int .i64) (i := 37) (x := f 37) bx (cellsN_get f 37 (by decide)) ?_
  refine ldA_blk (s := .int .i64) (i := 38) (x := f 38) bx (cellsN_get f 38 (by decide)) ?_
  refine ldA_blk (s := .int .i64) (i := 39) (x := f 39) bx (cellsN_get f 39 (by decide)) ?_
  refine ldA_blk (s := .int .i64) (i := 40) (x := f 40) bx (cellsN_get f 40 (by decide)) ?_
  refine ldA_blk (s := .int .i64) (i := 41) (x := f 41) bx (cellsN_get f 41 (by decide)) ?_
  refine ldA_blk (s := .int .i64) (i := 42) (x := f 42) bx (cellsN_get f 42 (by decide)) ?_
  refine ldA_blk (s := .int .i64) (i := 43) (x := f 43) bx (cellsN_get f 43 (by decide)) ?_
  refine ldA_blk (s := .int .i64) (i := 44) (x := f 44) bx (cellsN_get f 44 (by decide)) ?_
  refine ldA_blk (s := .int .i64) (i := 45) (x := f 45) bx (cellsN_get f 45 (by decide)) ?_
  refine ldA_blk (s := .int .i64) (i := 46) (x := f 46) bx (cellsN_get f 46 (by decide)) ?_
  refine ldA_blk (s := .int .i64) (i := 47) (x := f 47) bx (cellsN_get f 47 (by decide)) ?_
  refine ldA_blk (s := .int .i64) (i := 48) (x := f 48) bx (cellsN_get f 48 (by decide)) ?_
  refine ldA_blk (s := .int .i64) (i := 49) (x := f 49) bx (cellsN_get f 49 (by decide)) ?_
  refine ldA_blk (s := .int .i64) (i := 50) (x := f 50) bx (cellsN_get f 50 (by decide)) ?_
  refine ldA_blk (s := .int .i64) (i := 51) (x := f 51) bx (cellsN_get f 51 (by decide)) ?_
  refine ldA_blk (s := .int .i64) (i := 52) (x := f 52) bx (cellsN_get f 52 (by decide)) ?_
  refine ldA_blk (s := .int .i64) (i := 53) (x := f 53) bx (cellsN_get f 53 (by decide)) ?_
  refine ldA_blk (s := .int .i64) (i := 54) (x := f 54) bx (cellsN_get f 54 (by decide)) ?_
  refine ldA_blk (s := .int .i64) (i := 55) (x := f 55) bx (cellsN_get f 55 (by decide)) ?_
  refine ldA_blk (s := .int .i64) (i := 56) (x := f 56) bx (cellsN_get f 56 (by decide)) ?_
  refine ldA_blk (s := .int .i64) (i := 57) (x := f 57) bx (cellsN_get f 57 (by decide)) ?_
  refine ldA_blk (s := .int .i64) (i := 58) (x := f 58) bx (cellsN_get f 58 (by decide)) ?_
  refine ldA_blk (s := .int .i64) (i := 59) (x := f 59) bx (cellsN_get f 59 (by decide)) ?_
  refine ldA_blk (s := .int .i64) (i := 60) (x := f 60) bx (cellsN_get f 60 (by decide)) ?_
  refine ldA_blk (s := .int .i64) (i := 61) (x := f 61) bx (cellsN_get f 61 (by decide)) ?_
  refine ldA_blk (s := .int .i64) (i := 62) (x := f 62) bx (cellsN_get f 62 (by decide)) ?_
  refine ldA_blk (s := .int .i64) (i := 63) (x := f 63) bx (cellsN_get f 63 (by decide)) ?_
  refine ldA_blk (s := .int .i64) (i := 64) (x := f 64) bx (cellsN_get f 64 (by decide)) ?_
  refine ldA_blk (s := .int .i64) (i := 65) (x := f 65) bx (cellsN_get f 65 (by decide)) ?_
  refine ldA_blk (s := .int .i64) (i := 66) (x := f 66) bx (cellsN_get f 66 (by decide)) ?_
  refine ldA_blk (s := .int .i64) (i := 67) (x := f 67) bx (cellsN_get f 67 (by decide)) ?_
  refine ldA_blk (s := .int .i64) (i := 68) (x := f 68) bx (cellsN_get f 68 (by decide)) ?_
  refine ldA_blk (s := .int .i64) (i := 69) (x := f 69) bx (cellsN_get f 69 (by decide)) ?_
  refine ldA_blk (s := .int .i64) (i := 70) (x := f 70) bx (cellsN_get f 70 (by decide)) ?_
  refine ldA_blk (s := .int .i64) (i := 71) (x := f 71) bx (cellsN_get f 71 (by decide)) ?_
  refine ldA_blk (s := .int .i64) (i := 72) (x := f 72) bx (cellsN_get f 72 (by decide)) ?_
  refine ldA_blk (s := .int .i64) (i := 73) (x := f 73) bx (cellsN_get f 73 (by decide)) ?_
  refine ldA_blk (s := .int .i64) (i := 74) (x := f 74) bx (cellsN_get f 74 (by decide)) ?_
  refine ldA_blk (s := .int .i64) (i := 75) (x := f 75) bx (cellsN_get f 75 (by decide)) ?_
  refine ldA_blk (s := .int .i64) (i := 76) (x := f 76) bx (cellsN_get f 76 (by decide)) ?_
  refine ldA_blk (s := .int .i64) (i := 77) (x := f 77) bx (cellsN_get f 77 (by decide)) ?_
  refine ldA_blk (s := .int .i64) (i := 78) (x := f 78) bx (cellsN_get f 78 (by decide)) ?_
  refine ldA_blk (s := .int .i64) (i := 79) (x := f 79) bx (cellsN_get f 79 (by decide)) ?_
  refine ldA_blk (s := .int .i64) (i := 80) (x := f 80) bx (cellsN_get f 80 (by decide)) ?_
  refine ldA_blk (s := .int .i64) (i := 81) (x := f 81) bx (cellsN_get f 81 (by decide)) ?_
  refine ldA_blk (s := .int .i64) (i := 82) (x := f 82) bx (cellsN_get f 82 (by decide)) ?_
  refine ldA_blk (s := .int .i64) (i := 83) (x := f 83) bx (cellsN_get f 83 (by decide)) ?_
  refine ldA_blk (s := .int .i64) (i := 84) (x := f 84) bx (cellsN_get f 84 (by decide)) ?_
  refine ldA_blk (s := .int .i64) (i := 85) (x := f 85) bx (cellsN_get f 85 (by decide)) ?_
  refine ldA_blk (s := .int .i64) (i := 86) (x := f 86) bx (cellsN_get f 86 (by decide)) ?_
  refine ldA_blk (s := .int .i64) (i := 87) (x := f 87) bx (cellsN_get f 87 (by decide)) ?_
  refine ldA_blk (s := .int .i64) (i := 88) (x := f 88) bx (cellsN_get f 88 (by decide)) ?_
  refine ldA_blk (s := .int .i64) (i := 89) (x := f 89) bx (cellsN_get f 89 (by decide)) ?_
  refine ldA_blk (s := .int .i64) (i := 90) (x := f 90) bx (cellsN_get f 90 (by decide)) ?_
  refine ldA_blk (s := .int .i64) (i := 91) (x := f 91) bx (cellsN_get f 91 (by decide)) ?_
  refine ldA_blk (s := .int .i64) (i := 92) (x := f 92) bx (cellsN_get f 92 (by decide)) ?_
  refine ldA_blk (s := .int .i64) (i := 93) (x := f 93) bx (cellsN_get f 93 (by decide)) ?_
  refine ldA_blk (s := .int .i64) (i := 94) (x := f 94) bx (cellsN_get f 94 (by decide)) ?_
  refine ldA_blk (s := .int .i64) (i := 95) (x := f 95) bx (cellsN_get f 95 (by decide)) ?_
  refine ldA_blk (s := .int .i64) (i := 96) (x := f 96) bx (cellsN_get f 96 (by decide)) ?_
  refine ldA_blk (s := .int .i64) (i := 97) (x := f 97) bx (cellsN_get f 97 (by decide)) ?_
  refine ldA_blk (s := .int .i64) (i := 98) (x := f 98) bx (cellsN_get f 98 (by decide)) ?_
  refine ldA_blk (s := .int .i64) (i := 99) (x := f 99) bx (cellsN_get f 99 (by decide)) ?_
  refine ldA_blk (s := .int .i64) (i := 100) (x := f 100) bx (cellsN_get f 100 (by decide)) ?_
  refine ldA_blk (s := .int .i64) (i := 101) (x := f 101) bx (cellsN_get f 101 (by decide)) ?_
  refine ldA_blk (s := .int .i64) (i := 102) (x := f 102) bx (cellsN_get f 102 (by decide)) ?_
  refine ldA_blk (s := .int .i64) (i := 103) (x := f 103) bx (cellsN_get f 103 (by decide)) ?_
  refine ldA_blk (s := .int .i64) (i := 104) (x := f 104) bx (cellsN_get f 104 (by decide)) ?_
  refine ldA_blk (s := .int .i64) (i := 105) (x := f 105) bx (cellsN_get f 105 (by decide)) ?_
  refine ldA_blk (s := .int .i64) (i := 106) (x := f 106) bx (cellsN_get f 106 (by decide)) ?_
  refine ldA_blk (s := .int .i64) (i := 107) (x := f 107) bx (cellsN_get f 107 (by decide)) ?_
  refine ldA_blk (s := .int .i64) (i := 108) (x := f 108) bx (cellsN_get f 108 (by decide)) ?_
  refine ldA_blk (s := .int .i64) (i := 109) (x := f 109) bx (cellsN_get f 109 (by decide)) ?_
  refine ldA_blk (s := .int .i64) (i := 110) (x := f 110) bx (cellsN_get f 110 (by decide)) ?_
  refine ldA_blk (s := .int .i64) (i := 111) (x := f 111) bx (cellsN_get f 111 (by decide)) ?_
  refine ldA_blk (s := .int .i64) (i := 112) (x := f 112) bx (cellsN_get f 112 (by decide)) ?_
  refine ldA_blk (s := .int .i64) (i := 113) (x := f 113) bx (cellsN_get f 113 (by decide)) ?_
  refine ldA_blk (s := .int .i64) (i := 114) (x := f 114) bx (cellsN_get f 114 (by decide)) ?_
  refine ldA_blk (s := .int .i64) (i := 115) (x := f 115) bx (cellsN_get f 115 (by decide)) ?_
  refine ldA_blk (s := .int .i64) (i := 116) (x := f 116) bx (cellsN_get f 116 (by decide)) ?_
  refine ldA_blk (s := .int .i64) (i := 117) (x := f 117) bx (cellsN_get f 117 (by decide)) ?_
  refine ldA_blk (s := .int .i64) (i := 118) (x := f 118) bx (cellsN_get f 118 (by decide)) ?_
  refine ldA_blk (s := .int .i64) (i := 119) (x := f 119) bx (cellsN_get f 119 (by decide)) ?_
  refine ldA_blk (s := .int .i64) (i := 120) (x := f 120) bx (cellsN_get f 120 (by decide)) ?_
  refine ldA_blk (s := .int .i64) (i := 121) (x := f 121) bx (cellsN_get f 121 (by decide)) ?_
  refine ldA_blk (s := .int .i64) (i := 122) (x := f 122) bx (cellsN_get f 122 (by decide)) ?_
  refine ldA_blk (s := .int .i64) (i := 123) (x := f 123) bx (cellsN_get f 123 (by decide)) ?_
  refine ldA_blk (s := .int .i64) (i := 124) (x := f 124) bx (cellsN_get f 124 (by decide)) ?_
  refine ldA_blk (s := .int .i64) (i := 125) (x := f 125) bx (cellsN_get f 125 (by decide)) ?_
  refine ldA_blk (s := .int .i64) (i := 126) (x := f 126) bx (cellsN_get f 126 (by decide)) ?_
  refine ldA_blk (s := .int .i64) (i := 127) (x := f 127) bx (cellsN_get f 127 (by decide)) ?_
  refine ldA_blk (s := .int .i64) (i := 128) (x := f 128) bx (cellsN_get f 128 (by decide)) ?_
  refine ldA_blk (s := .int .i64) (i := 129) (x := f 129) bx (cellsN_get f 129 (by decide)) ?_
  refine ldA_blk (s := .int .i64) (i := 130) (x := f 130) bx (cellsN_get f 130 (by decide)) ?_
  refine ldA_blk (s := .int .i64) (i := 131) (x := f 131) bx (cellsN_get f 131 (by decide)) ?_
  refine ldA_blk (s := .int .i64) (i := 132) (x := f 132) bx (cellsN_get f 132 (by decide)) ?_
  refine ldA_blk (s := .int .i64) (i := 133) (x := f 133) bx (cellsN_get f 133 (by decide)) ?_
  refine ldA_blk (s := .int .i64) (i := 134) (x := f 134) bx (cellsN_get f 134 (by decide)) ?_
  refine ldA_blk (s := .int .i64) (i := 135) (x := f 135) bx (cellsN_get f 135 (by decide)) ?_
  refine ldA_blk (s := .int .i64) (i := 136) (x := f 136) bx (cellsN_get f 136 (by decide)) ?_
  refine ldA_blk (s := .int .i64) (i := 137) (x := f 137) bx (cellsN_get f 137 (by decide)) ?_
  refine ldA_blk (s := .int .i64) (i := 138) (x := f 138) bx (cellsN_get f 138 (by decide)) ?_
  refine ldA_blk (s := .int .i64) (i := 139) (x := f 139) bx (cellsN_get f 139 (by decide)) ?_
  refine ldA_blk (s := .int .i64) (i := 140) (x := f 140) bx (cellsN_get f 140 (by decide)) ?_
  refine ldA_blk (s := .int .i64) (i := 141) (x := f 141) bx (cellsN_get f 141 (by decide)) ?_
  refine ldA_blk (s := .int .i64) (i := 142) (x := f 142) bx (cellsN_get f 142 (by decide)) ?_
  refine ldA_blk (s := .int .i64) (i := 143) (x := f 143) bx (cellsN_get f 143 (by decide)) ?_
  refine ldA_blk (s := .int .i64) (i := 144) (x := f 144) bx (cellsN_get f 144 (by decide)) ?_
  refine ldA_blk (s := .int .i64) (i := 145) (x := f 145) bx (cellsN_get f 145 (by decide)) ?_
  refine ldA_blk (s := .int .i64) (i := 146) (x := f 146) bx (cellsN_get f 146 (by decide)) ?_
  refine ldA_blk (s := .int .i64) (i := 147) (x := f 147) bx (cellsN_get f 147 (by decide)) ?_
  refine ldA_blk (s := .int .i64) (i := 148) (x := f 148) bx (cellsN_get f 148 (by decide)) ?_
  refine ldA_blk (s := .int .i64) (i := 149) (x := f 149) bx (cellsN_get f 149 (by decide)) ?_
  refine ldA_blk (s := .int .i64) (i := 150) (x := f 150) bx (cellsN_get f 150 (by decide)) ?_
  refine ldA_blk (s := .int .i64) (i := 151) (x := f 151) bx (cellsN_get f 151 (by decide)) ?_
  refine ldA_blk (s := .int .i64) (i := 152) (x := f 152) bx (cellsN_get f 152 (by decide)) ?_
  refine ldA_blk (s := .int .i64) (i := 153) (x := f 153) bx (cellsN_get f 153 (by decide)) ?_
  refine ldA_blk (s := .int .i64) (i := 154) (x := f 154) bx (cellsN_get f 154 (by decide)) ?_
  refine ldA_blk (s := .int .i64) (i := 155) (x := f 155) bx (cellsN_get f 155 (by decide)) ?_
  refine ldA_blk (s := .int .i64) (i := 156) (x := f 156) bx (cellsN_get f 156 (by decide)) ?_
  refine ldA_blk (s := .int .i64) (i := 157) (x := f 157) bx (cellsN_get f 157 (by decide)) ?_
  refine ldA_blk (s := .int .i64) (i := 158) (x := f 158) bx (cellsN_get f 158 (by decide)) ?_
  refine ldA_blk (s := .int .i64) (i := 159) (x := f 159) bx (cellsN_get f 159 (by decide)) ?_
  refine ldA_blk (s := .int .i64) (i := 160) (x := f 160) bx (cellsN_get f 160 (by decide)) ?_
  refine ldA_blk (s := .int .i64) (i := 161) (x := f 161) bx (cellsN_get f 161 (by decide)) ?_
  refine ldA_blk (s := .int .i64) (i := 162) (x := f 162) bx (cellsN_get f 162 (by decide)) ?_
  refine ldA_blk (s := .int .i64) (i := 163) (x := f 163) bx (cellsN_get f 163 (by decide)) ?_
  refine ldA_blk (s := .int .i64) (i := 164) (x := f 164) bx (cellsN_get f 164 (by decide)) ?_
  refine ldA_blk (s := .int .i64) (i := 165) (x := f 165) bx (cellsN_get f 165 (by decide)) ?_
  refine ldA_blk (s := .int .i64) (i := 166) (x := f 166) bx (cellsN_get f 166 (by decide)) ?_
  refine ldA_blk (s := .int .i64) (i := 167) (x := f 167) bx (cellsN_get f 167 (by decide)) ?_
  refine ldA_blk (s := .int .i64) (i := 168) (x := f 168) bx (cellsN_get f 168 (by decide)) ?_
  refine ldA_blk (s := .int .i64) (i := 169) (x := f 169) bx (cellsN_get f 169 (by decide)) ?_
  refine ldA_blk (s := .int .i64) (i := 170) (x := f 170) bx (cellsN_get f 170 (by decide)) ?_
  refine ldA_blk (s := .int .i64) (i := 171) (x := f 171) bx (cellsN_get f 171 (by decide)) ?_
  refine ldA_blk (s := .int .i64) (i := 172) (x := f 172) bx (cellsN_get f 172 (by decide)) ?_
  refine ldA_blk (s := .int .i64) (i := 173) (x := f 173) bx (cellsN_get f 173 (by decide)) ?_
  refine ldA_blk (s := .int .i64) (i := 174) (x := f 174) bx (cellsN_get f 174 (by decide)) ?_
  refine ldA_blk (s := .int .i64) (i := 175) (x := f 175) bx (cellsN_get f 175 (by decide)) ?_
  refine ldA_blk (s := .int .i64) (i := 176) (x := f 176) bx (cellsN_get f 176 (by decide)) ?_
  refine ldA_blk (s := .int .i64) (i := 177) (x := f 177) bx (cellsN_get f 177 (by decide)) ?_
  refine ldA_blk (s := .int .i64) (i := 178) (x := f 178) bx (cellsN_get f 178 (by decide)) ?_
  refine ldA_blk (s := .int .i64) (i := 179) (x := f 179) bx (cellsN_get f 179 (by decide)) ?_
  refine ldA_blk (s := .int .i64) (i := 180) (x := f 180) bx (cellsN_get f 180 (by decide)) ?_
  refine ldA_blk (s := .int .i64) (i := 181) (x := f 181) bx (cellsN_get f 181 (by decide)) ?_
  refine ldA_blk (s := .int .i64) (i := 182) (x := f 182) bx (cellsN_get f 182 (by decide)) ?_
  refine ldA_blk (s := .int .i64) (i := 183) (x := f 183) bx (cellsN_get f 183 (by decide)) ?_
  refine ldA_blk (s := .int .i64) (i := 184) (x := f 184) bx (cellsN_get f 184 (by decide)) ?_
  refine ldA_blk (s := .int .i64) (i := 185) (x := f 185) bx (cellsN_get f 185 (by decide)) ?_
  refine ldA_blk (s := .int .i64) (i := 186) (x := f 186) bx (cellsN_get f 186 (by decide)) ?_
  refine ldA_blk (s := .int .i64) (i := 187) (x := f 187) bx (cellsN_get f 187 (by decide)) ?_
  refine ldA_blk (s := .int .i64) (i := 188) (x := f 188) bx (cellsN_get f 188 (by decide)) ?_
  refine ldA_blk (s := .int .i64) (i := 189) (x := f 189) bx (cellsN_get f 189 (by decide)) ?_
  refine ldA_blk (s := .int .i64) (i := 190) (x := f 190) bx (cellsN_get f 190 (by decide)) ?_
  refine ldA_blk (s := .int .i64) (i := 191) (x := f 191) bx (cellsN_get f 191 (by decide)) ?_
  refine ldA_blk (s := .int .i64) (i := 192) (x := f 192) bx (cellsN_get f 192 (by decide)) ?_
  refine ldA_blk (s := .int .i64) (i := 193) (x := f 193) bx (cellsN_get f 193 (by decide)) ?_
  refine ldA_blk (s := .int .i64) (i := 194) (x := f 194) bx (cellsN_get f 194 (by decide)) ?_
  refine ldA_blk (s := .int .i64) (i := 195) (x := f 195) bx (cellsN_get f 195 (by decide)) ?_
  refine ldA_blk (s := .int .i64) (i := 196) (x := f 196) bx (cellsN_get f 196 (by decide)) ?_
  refine ldA_blk (s := .int .i64) (i := 197) (x := f 197) bx (cellsN_get f 197 (by decide)) ?_
  refine ldA_blk (s := .int .i64) (i := 198) (x := f 198) bx (cellsN_get f 198 (by decide)) ?_
  refine ldA_blk (s := .int .i64) (i := 199) (x := f 199) bx (cellsN_get f 199 (by decide)) ?_
  refine ldA_blk (s := .int .i64) (i := 200) (x := f 200) bx (cellsN_get f 200 (by decide)) ?_
  refine ldA_blk (s := .int .i64) (i := 201) (x := f 201) bx (cellsN_get f 201 (by decide)) ?_
  refine ldA_blk (s := .int .i64) (i := 202) (x := f 202) bx (cellsN_get f 202 (by decide)) ?_
  refine ldA_blk (s := .int .i64) (i := 203) (x := f 203) bx (cellsN_get f 203 (by decide)) ?_
  refine ldA_blk (s := .int .i64) (i := 204) (x := f 204) bx (cellsN_get f 204 (by decide)) ?_
  refine ldA_blk (s := .int .i64) (i := 205) (x := f 205) bx (cellsN_get f 205 (by decide)) ?_
  refine ldA_blk (s := .int .i64) (i := 206) (x := f 206) bx (cellsN_get f 206 (by decide)) ?_
  refine ldA_blk (s := .int .i64) (i := 207) (x := f 207) bx (cellsN_get f 207 (by decide)) ?_
  refine ldA_blk (s := .int .i64) (i := 208) (x := f 208) bx (cellsN_get f 208 (by decide)) ?_
  refine ldA_blk (s := .int .i64) (i := 209) (x := f 209) bx (cellsN_get f 209 (by decide)) ?_
  refine ldA_blk (s := .int .i64) (i := 210) (x := f 210) bx (cellsN_get f 210 (by decide)) ?_
  refine ldA_blk (s := .int .i64) (i := 211) (x := f 211) bx (cellsN_get f 211 (by decide)) ?_
  refine ldA_blk (s := .int .i64) (i := 212) (x := f 212) bx (cellsN_get f 212 (by decide)) ?_
  refine ldA_blk (s := .int .i64) (i := 213) (x := f 213) bx (cellsN_get f 213 (by decide)) ?_
  refine ldA_blk (s := .int .i64) (i := 214) (x := f 214) bx (cellsN_get f 214 (by decide)) ?_
  refine ldA_blk (s := .int .i64) (i := 215) (x := f 215) bx (cellsN_get f 215 (by decide)) ?_
  refine ldA_blk (s := .int .i64) (i := 216) (x := f 216) bx (cellsN_get f 216 (by decide)) ?_
  refine ldA_blk (s := .int .i64) (i := 217) (x := f 217) bx (cellsN_get f 217 (by decide)) ?_
  refine ldA_blk (s := .int .i64) (i := 218) (x := f 218) bx (cellsN_get f 218 (by decide)) ?_
  refine ldA_blk (s := .int .i64) (i := 219) (x := f 219) bx (cellsN_get f 219 (by decide)) ?_
  refine ldA_blk (s := .int .i64) (i := 220) (x := f 220) bx (cellsN_get f 220 (by decide)) ?_
  refine ldA_blk (s := .int .i64) (i := 221) (x := f 221) bx (cellsN_get f 221 (by decide)) ?_
  refine ldA_blk (s := .int .i64) (i := 222) (x := f 222) bx (cellsN_get f 222 (by decide)) ?_
  refine ldA_blk (s := .int .i64) (i := 223) (x := f 223) bx (cellsN_get f 223 (by decide)) ?_
  refine ldA_blk (s := .int .i64) (i := 224) (x := f 224) bx (cellsN_get f 224 (by decide)) ?_
  refine ldA_blk (s := .int .i64) (i := 225) (x := f 225) bx (cellsN_get f 225 (by decide)) ?_
  refine ldA_blk (s := .int .i64) (i := 226) (x := f 226) bx (cellsN_get f 226 (by decide)) ?_
  refine ldA_blk (s := .int .i64) (i := 227) (x := f 227) bx (cellsN_get f 227 (by decide)) ?_
  refine ldA_blk (s := .int .i64) (i := 228) (x := f 228) bx (cellsN_get f 228 (by decide)) ?_
  refine ldA_blk (s := .int .i64) (i := 229) (x := f 229) bx (cellsN_get f 229 (by decide)) ?_
  refine ldA_blk (s := .int .i64) (i := 230) (x := f 230) bx (cellsN_get f 230 (by decide)) ?_
  refine ldA_blk (s := .int .i64) (i := 231) (x := f 231) bx (cellsN_get f 231 (by decide)) ?_
  refine ldA_blk (s := .int .i64) (i := 232) (x := f 232) bx (cellsN_get f 232 (by decide)) ?_
  refine ldA_blk (s := .int .i64) (i := 233) (x := f 233) bx (cellsN_get f 233 (by decide)) ?_
  refine ldA_blk (s := .int .i64) (i := 234) (x := f 234) bx (cellsN_get f 234 (by decide)) ?_
  refine ldA_blk (s := .int .i64) (i := 235) (x := f 235) bx (cellsN_get f 235 (by decide)) ?_
  refine ldA_blk (s := .int .i64) (i := 236) (x := f 236) bx (cellsN_get f 236 (by decide)) ?_
  refine ldA_blk (s := .int .i64) (i := 237) (x := f 237) bx (cellsN_get f 237 (by decide)) ?_
  refine ldA_blk (s := .int .i64) (i := 238) (x := f 238) bx (cellsN_get f 238 (by decide)) ?_
  refine ldA_blk (s := .int .i64) (i := 239) (x := f 239) bx (cellsN_get f 239 (by decide)) ?_
  refine ldA_blk (s := .int .i64) (i := 240) (x := f 240) bx (cellsN_get f 240 (by decide)) ?_
  refine ldA_blk (s := .int .i64) (i := 241) (x := f 241) bx (cellsN_get f 241 (by decide)) ?_
  refine ldA_blk (s := .int .i64) (i := 242) (x := f 242) bx (cellsN_get f 242 (by decide)) ?_
  refine ldA_blk (s := .int .i64) (i := 243) (x := f 243) bx (cellsN_get f 243 (by decide)) ?_
  refine ldA_blk (s := .int .i64) (i := 244) (x := f 244) bx (cellsN_get f 244 (by decide)) ?_
  refine ldA_blk (s := .int .i64) (i := 245) (x := f 245) bx (cellsN_get f 245 (by decide)) ?_
  refine ldA_blk (s := .int .i64) (i := 246) (x := f 246) bx (cellsN_get f 246 (by decide)) ?_
  refine ldA_blk (s := .int .i64) (i := 247) (x := f 247) bx (cellsN_get f 247 (by decide)) ?_
  refine ldA_blk (s := .int .i64) (i := 248) (x := f 248) bx (cellsN_get f 248 (by decide)) ?_
  refine ldA_blk (s := .int .i64) (i := 249) (x := f 249) bx (cellsN_get f 249 (by decide)) ?_
  refine ldA_blk (s := .int .i64) (i := 250) (x := f 250) bx (cellsN_get f 250 (by decide)) ?_
  refine ldA_blk (s := .int .i64) (i := 251) (x := f 251) bx (cellsN_get f 251 (by decide)) ?_
  refine ldA_blk (s := .int .i64) (i := 252) (x := f 252) bx (cellsN_get f 252 (by decide)) ?_
  refine ldA_blk (s := .int .i64) (i := 253) (x := f 253) bx (cellsN_get f 253 (by decide)) ?_
  refine ldA_blk (s := .int .i64) (i := 254) (x := f 254) bx (cellsN_get f 254 (by decide)) ?_
  refine ldA_blk (s := .int .i64) (i := 255) (x := f 255) bx (cellsN_get f 255 (by decide)) ?_
  refine Lp.inv (fun st => st.2 = h ∧ ∃ k : Nat, st.1.2.2.1 = (k : Int) ∧ k ≤ 256 ∧ st.1.1 = moreN (bts a) (bts b) k ∧ st.1.2.1 = lessN (bts a) (bts b) k) (fun st => 256 - st.1.2.2.1.toNat) ?_ ⟨rfl, 0, rfl, by omega, rfl, rfl⟩
  rintro ⟨⟨m', l', k', ⟨⟩⟩, g⟩ R ⟨rfl, k, rfl, hk, hm, hl⟩ hR
  simp only at hm hl
  subst hm
  subst hl
  have m1 := more_bd (a := bts a) (b := bts b) (by omega) (by omega) k
  have m2 := less_bd (a := bts a) (b := bts b) (by omega) (by omega) k
  have c1 := cntN_bd (bts a) k
  have c2 := cntN_bd (bts b) k
  unfold L1_lev_Least
  dsimp only
  refine cnd_dec.2 ⟨fun hlt => ?_, fun hge => ?_⟩
  · refine ⟨⟨by omega, by omega⟩, f k, ?_, let_to (let_to (let_to (let_to (let_to (let_to ?_)))))⟩
    · rw [Int.toNat_natCast]
      have := cellsN_get f k (by omega)
      rw [← Array.getElem?_toList] at this
      exact this
    · rw [hf k]
      have hd : -1048576 ≤ difN (bts a) (bts b) k ∧ difN (bts a) (bts b) k ≤ 1048576 := by unfold difN; omega
      rw [wrap_i64 (x := 0 - difN (bts a) (bts b) k) (by omega) (by omega), wrap_i64 (x := (k : Int) + 1) (by omega) (by omega)]
      have e1 : (if 0 > difN (bts a) (bts b) k then 0 else difN (bts a) (bts b) k) = max (difN (bts a) (bts b) k) 0 := by split <;> omega
      have e2 : (if 0 > 0 - difN (bts a) (bts b) k then 0 else 0 - difN (bts a) (bts b) k) = max (- difN (bts a) (bts b) k) 0 := by split <;> omega
      rw [e1, e2, wrap_i64 (by omega) (by omega), wrap_i64 (by omega) (by omega)]
      exact hR _ ⟨rfl, k + 1, by simp, by omega, rfl, rfl⟩ (by simp only; omega)
  · obtain rfl : k = 256 := by omega
    unfold J3_lev_Least
    dsimp only
    refine let_to (let_to (let_to (let_to (let_to ?_))))
    rw [wrap_i64 (by omega) (by omega), wrap_i64 (by omega) (by omega)]
    refine at_val hK ?_
    unfold leastN
    rw [la, lb]
    (repeat' split) <;> omega
theorem lev_Least {a b : ByteArray} {h : Hp} {K : Int → Hp → Prop} (ha : a.size ≤ 1048576) (hb : b.size ≤ 1048576) (hK : ∀ h', Ext h h' → K (leastN (bts a) (bts b)) h') : C_lev_Least a b h K := by
  have la := bts_len a
  have lb := bts_len b
  refine F_lev_Least_ok _ _ _ _ (push_to (c := cellsN fun _ => 0) fun h1 b1 e1 z1 => let_to ?_)
  rw [Jn_eq]
  refine Lp.inv (fun st => ∃ i : Nat, st.1.1 = (i : Int) ∧ i ≤ a.size ∧ Blk st.2 h.size (cellsN (cntN ((bts a).take i))) ∧ Ext h st.2) (fun st => a.size - st.1.1.toNat) ?_ ⟨0, rfl, by omega, b1, e1⟩
  rintro ⟨⟨i', ⟨⟩⟩, g⟩ R ⟨i, rfl, hi, bx, x⟩ hR
  simp only at bx x
  unfold L3_lev_Least
  dsimp only
  refine cnd_dec.2 ⟨fun hlt => ?_, fun hge => ?_⟩
  · obtain ⟨t, ht, ht2⟩ := bts_byte (s := a) (i := i) (by omega)
    have hb1 := cntN_bd ((bts a).take i) t
    rw [List.length_take] at hb1
    refine idx_str rfl ht (idx_blk (by omega) (ldA_blk (s := .int .i64) (x := cntN ((bts a).take i) t) bx (by rw [Nat.mul_one, Int.toNat_natCast]; exact cellsN_get _ t ht2) (let_to (idx_blk (by omega) ⟨rfl, ?_⟩))))
    rw [Nat.mul_one, Int.toNat_natCast, wrap_i64 (x := cntN ((bts a).take i) t + 1) (by omega) (by omega)]
    refine set_to bx (by rw [cellsN_size]; exact ht2) fun g2 b2 u2 _ z2 => let_to ?_
    rw [wrap_i64 (by omega) (by omega)]
    refine hR _ ⟨i + 1, by simp, by omega, ?_, x.only_new u2 (Nat.le_refl _)⟩ (by simp only; omega)
    have e := cellsN_set (cntN ((bts a).take i)) (cntN ((bts a).take (i + 1))) t (cntN ((bts a).take i) t + 1) ht2 fun k => by
      rw [List.take_add_one, ht]
      show cntN ((bts a).take i ++ [(t : Int)]) k = _
      rw [cntN_snoc]
      split
      · next e => rw [e]
      · omega
    rw [e] at b2; exact b2
  · obtain rfl : i = a.size := by omega
    rw [List.take_of_length_le (by omega)] at bx
    unfold J1_lev_Least
    rw [Jn_eq]
    refine Lp.inv (fun st => ∃ i : Nat, st.1.1 = (i : Int) ∧ i ≤ b.size ∧ Blk st.2 h.size (cellsN fun k => cntN (bts a) k - cntN ((bts b).take i) k) ∧ Ext h st.2) (fun st => b.size - st.1.1.toNat) ?_ ⟨0, rfl, by omega, ?_, x⟩
    case refine_2 =>
      have : (fun k => cntN (bts a) k - cntN ((bts b).take 0) k) = cntN (bts a) := by funext k; simp [cntN]
      rw [this]; exact bx
    rintro ⟨⟨i', ⟨⟩⟩, g⟩ R ⟨i, rfl, hi, bx, x⟩ hR
    simp only at bx x
    unfold L2_lev_Least
    dsimp only
    refine cnd_dec.2 ⟨fun hlt => ?_, fun hge => ?_⟩
    · obtain ⟨t, ht, ht2⟩ := bts_byte (s := b) (i := i) (by omega)
      have hb1 := cntN_bd ((bts b).take i) t
      have hb2 := cntN_bd (bts a) t
      rw [List.length_take] at hb1
      refine idx_str rfl ht (idx_blk (by omega) (ldA_blk (s := .int .i64) (x := cntN (bts a) t - cntN ((bts b).take i) t) bx (by rw [Nat.mul_one, Int.toNat_natCast]; exact cellsN_get _ t ht2) (let_to (idx_blk (by omega) ⟨rfl, ?_⟩))))
      rw [Nat.mul_one, Int.toNat_natCast, wrap_i64 (x := cntN (bts a) t - cntN ((bts b).take i) t - 1) (by omega) (by omega)]
      refine set_to bx (by rw [cellsN_size]; exact ht2) fun g2 b2 u2 _ z2 => let_to ?_
      rw [wrap_i64 (by omega) (by omega)]
      refine hR _ ⟨i + 1, by simp, by omega, ?_, x.only_new u2 (Nat.le_refl _)⟩ (by simp only; omega)
      have e := cellsN_set (fun k => cntN (bts a) k - cntN ((bts b).take i) k) (fun k => cntN (bts a) k - cntN ((bts b).take (i + 1)) k) t (cntN (bts a) t - cntN ((bts b).take i) t - 1) ht2 fun k => by
        rw [List.take_add_one, ht]
        show cntN (bts a) k - cntN ((bts b).take i ++ [(t : Int)]) k = _
        rw [cntN_snoc]
        split
        · next e => rw [e]; omega
        · omega
      rw [e] at b2; exact b2
    · obtain rfl : i = b.size := by omega
      rw [List.take_of_length_le (by omega)] at bx
      exact least_mid ha hb (fun k => rfl) bx (hK g x)

end Go.Proofs.YtibaekemfefoaaaF
