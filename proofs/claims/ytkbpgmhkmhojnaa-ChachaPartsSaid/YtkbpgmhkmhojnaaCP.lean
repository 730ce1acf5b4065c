/- A part of the proof that the laws of this seat hold for every input; no conditions of its own. -/
import Derived.Test.YtkbpgmhkmhojnaaCA
import Derived.Test.YtkbpgmhkmhojnaaV0
open Go Vam Vam.Pg Go.Proofs
set_option linter.unusedVariables false
set_option linter.unusedSimpArgs false
set_option maxRecDepth 100000
namespace Go.Proofs.Ytkbpgmhkmhojnaa
/-! ### Words -/
def rl (x n : Int) : Int := ior .u32 (shl .u32 x n) (shr .u32 x (isub .u32 32 n))
def q1 (s : List Int) (x y : Nat) : List Int := s.set x (iadd .u32 (s.getD x 0) (s.getD y 0))
def q2 (s : List Int) (x y : Nat) (k : Int) : List Int := s.set x (rl (ixor .u32 (s.getD x 0) (s.getD y 0)) k)
def qr (s : List Int) (a b c d : Nat) : List Int := q2 (q1 (q2 (q1 (q2 (q1 (q2 (q1 s a b) d a 16) c d) b c 12) a b) d a 8) c d) b c 7
def w4 (a b c d : Int) : Int := ior .u32 (ior .u32 (ior .u32 (icv .u32 a) (shl .u32 (icv .u32 b) 8)) (shl .u32 (icv .u32 c) 16)) (shl .u32 (icv .u32 d) 24)
def wAt (l : List Int) (i : Nat) : Int := w4 (l.getD (4 * i) 0) (l.getD (4 * i + 1) 0) (l.getD (4 * i + 2) 0) (l.getD (4 * i + 3) 0)
def z16 : List Int := [1634760805, 857760878, 2036477234, 1797285236, 0, 0, 0, 0, 0, 0, 0, 0, 0, 0, 0, 0]
def putW (l : List Int) (o : Nat) (s : List Int) : Nat → List Int
  | 0 => s
  | i + 1 => (putW l o s i).set (o + i) (wAt l i)
def first (key : List Int) (c : Int) (nonce : List Int) : List Int := putW nonce 13 ((putW key 4 z16 8).set 12 c) 3
def col (s : List Int) : List Int := qr (qr (qr (qr s 0 4 8 12) 1 5 9 13) 2 6 10 14) 3 7 11 15
def dia (s : List Int) : List Int := qr (qr (qr (qr s 0 5 10 15) 1 6 11 12) 2 7 8 13) 3 4 9 14
def dbl (s : List Int) : Nat → List Int
  | 0 => s
  | n + 1 => dia (col (dbl s n))
def byteW (w s : List Int) (j : Nat) : Int := icv .u8 (shr .u32 (iadd .u32 (w.getD (j / 4) 0) (s.getD (j / 4) 0)) (8 * ((j % 4 : Nat) : Int)))
def outW (w s : List Int) : List Int := (List.range 64).map (byteW w s)
def blk (key : List Int) (c : Int) (nonce : List Int) : List Int := outW (dbl (first key c nonce) 10) (first key c nonce)
theorem outW_len (w s : List Int) : (outW w s).length = 64 := by simp [outW]
theorem blk_len {key nonce : List Int} {c : Int} : (blk key c nonce).length = 64 := outW_len _ _
theorem blk_ok {key nonce : List Int} {c : Int} : BOk (blk key c nonce) := BOk.map fun _ _ => icv8_ok

/-! ### Rotations, quarter rounds -/
theorem r16 (x : Int) : f19_m x 16 = some (rl x 16) := by kernel_rfl
theorem r12 (x : Int) : f19_m x 12 = some (rl x 12) := by kernel_rfl
theorem r8 (x : Int) : f19_m x 8 = some (rl x 8) := by kernel_rfl
theorem r7 (x : Int) : f19_m x 7 = some (rl x 7) := by kernel_rfl
theorem t16 (x : Int) : f17_m x 16 = some (rl x 16) := by kernel_rfl
theorem t12 (x : Int) : f17_m x 12 = some (rl x 12) := by kernel_rfl
theorem t8 (x : Int) : f17_m x 8 = some (rl x 8) := by kernel_rfl
theorem t7 (x : Int) : f17_m x 7 = some (rl x 7) := by kernel_rfl
theorem quarter {s : List Int} {a b c d : Nat} (ha : a < 16) (hb : b < 16) (hc : c < 16) (hd : d < 16) : f16_m s a b c d = some (qr s a b c d) := by
  rw [f16_e]
  simp (disch := omega) only [sel_ile, sel_ilt, sel_nlt, Int.toNat_natCast, r16, r12, r8, r7, Option.bind_some]
  rfl
theorem quarter' {s : List Int} {a b c d : Nat} (ha : a < 16) (hb : b < 16) (hc : c < 16) (hd : d < 16) : f14_m s a b c d = some (qr s a b c d) := by
  rw [f14_e]
  simp (disch := omega) only [sel_ile, sel_ilt, sel_nlt, Int.toNat_natCast, t16, t12, t8, t7, Option.bind_some]
  rfl
def colN (s : List Int) : Nat → List Int
  | 0 => s
  | i + 1 => qr (colN s i) i (4 + i) (8 + i) (12 + i)
def diaN (s : List Int) : Nat → List Int
  | 0 => s
  | i + 1 => qr (diaN s i) i (4 + (i + 1) % 4) (8 + (i + 2) % 4) (12 + (i + 3) % 4)
theorem colL {p : List Int} {q : Int} {s : List Int} : f12_l6_m p q (s, 0) = some (col s) :=
  lm_count (t := f12_l6_t p q) (fun i => (colN s i, (i : Int))) 4 _ (fun i hi => by
    rw [f12_l6_e]
    simp (disch := omega) only [sel_ilt, iadd64]
    rw [show (4 : Int) + (i : Int) = ((4 + i : Nat) : Int) from by omega, show (8 : Int) + (i : Int) = ((8 + i : Nat) : Int) from by omega, show (12 : Int) + (i : Int) = ((12 + i : Nat) : Int) from by omega,
      quarter (by omega) (by omega) (by omega) (by omega)]
    rfl) (by rw [f12_l6_e]; kernel_rfl)
theorem colL' {p : List Int} {q : Int} {s : List Int} : f9_l16_m p q (s, 0) = some (col s) :=
  lm_count (t := f9_l16_t p q) (fun i => (colN s i, (i : Int))) 4 _ (fun i hi => by
    rw [f9_l16_e]
    simp (disch := omega) only [sel_ilt, iadd64]
    rw [show (4 : Int) + (i : Int) = ((4 + i : Nat) : Int) from by omega, show (8 : Int) + (i : Int) = ((8 + i : Nat) : Int) from by omega, show (12 : Int) + (i : Int) = ((12 + i : Nat) : Int) from by omega,
      quarter' (by omega) (by omega) (by omega) (by omega)]
    rfl) (by rw [f9_l16_e]; kernel_rfl)
theorem irem4 {i : Nat} {K : Int} (k : Nat) (hK : K = k) (h : i < 4) (hk : k < 4) : irem (iadd .i64 (i : Int) K) 4 = (((i + k) % 4 : Nat) : Int) := by
  subst hK
  rw [iadd64 (by omega) (by omega)]
  unfold irem
  rw [Int.tmod_eq_emod_of_nonneg (by omega)]
  omega
theorem diaL {p : List Int} {q : Int} {s : List Int} : f12_l11_m p q (s, 0) = some (dia s) :=
  lm_count (t := f12_l11_t p q) (fun i => (diaN s i, (i : Int))) 4 _ (fun i hi => by
    rw [f12_l11_e]
    simp only []
    rw [sel_ilt (by omega), irem4 (K := 1) 1 rfl hi (by decide), irem4 (K := 2) 2 rfl hi (by decide), irem4 (K := 3) 3 rfl hi (by decide)]
    simp (disch := omega) only [iadd64]
    rw [show (4 : Int) + (((i + 1) % 4 : Nat) : Int) = ((4 + (i + 1) % 4 : Nat) : Int) from by omega, show (8 : Int) + (((i + 2) % 4 : Nat) : Int) = ((8 + (i + 2) % 4 : Nat) : Int) from by omega, show (12 : Int) + (((i + 3) % 4 : Nat) : Int) = ((12 + (i + 3) % 4 : Nat) : Int) from by omega,
      quarter (by omega) (by omega) (by omega) (by omega)]
    rfl) (by rw [f12_l11_e]; kernel_rfl)
theorem diaL' {p : List Int} {q : Int} {s : List Int} : f9_l20_m p q (s, 0) = some (dia s) :=
  lm_count (t := f9_l20_t p q) (fun i => (diaN s i, (i : Int))) 4 _ (fun i hi => by
    rw [f9_l20_e]
    simp only []
    rw [sel_ilt (by omega), irem4 (K := 1) 1 rfl hi (by decide), irem4 (K := 2) 2 rfl hi (by decide), irem4 (K := 3) 3 rfl hi (by decide)]
    simp (disch := omega) only [iadd64]
    rw [show (4 : Int) + (((i + 1) % 4 : Nat) : Int) = ((4 + (i + 1) % 4 : Nat) : Int) from by omega, show (8 : Int) + (((i + 2) % 4 : Nat) : Int) = ((8 + (i + 2) % 4 : Nat) : Int) from by omega, show (12 : Int) + (((i + 3) % 4 : Nat) : Int) = ((12 + (i + 3) % 4 : Nat) : Int) from by omega,
      quarter' (by omega) (by omega) (by omega) (by omega)]
    rfl) (by rw [f9_l20_e]; kernel_rfl)
theorem dblL {p s : List Int} : f12_l4_m p (s, 0) = some (dbl s 10) :=
  lm_count (t := f12_l4_t p) (fun i => (dbl s i, (i : Int))) 10 _ (fun i hi => by
    rw [f12_l4_e]
    simp (disch := omega) only [sel_ilt, colL, diaL, Option.bind_some, iadd64]
    rfl) (by rw [f12_l4_e]; kernel_rfl)
theorem dblL' {p s : List Int} : f9_l13_m p (s, 0) = some (dbl s 10) :=
  lm_count (t := f9_l13_t p) (fun i => (dbl s i, (i : Int))) 10 _ (fun i hi => by
    rw [f9_l13_e]
    simp (disch := omega) only [sel_ilt, colL', diaL', Option.bind_some, iadd64]
    rfl) (by rw [f9_l13_e]; kernel_rfl)

/-! ### The words at first -/
theorem take4 {l : List Int} {i : Nat} (h : 4 * i + 4 ≤ l.length) (k : Nat) (hk : k < 4) : (List.take 4 (List.drop (4 * i) l)).getD k 0 = l.getD (4 * i + k) 0 := by
  simp only [List.getD_eq_getElem?_getD, List.getElem?_take, List.getElem?_drop, if_pos hk]
theorem word {l : List Int} {i : Nat} (h : 4 * i + 4 ≤ l.length) : f18_m (List.take 4 (List.drop (4 * i) l)) = some (wAt l i) := by
  rw [f18_e]
  have hl : (List.take 4 (List.drop (4 * i) l)).length = 4 := by simp; omega
  simp (disch := omega) only [llen_eq, hl, sel_ilt]
  unfold f18_s0
  simp only [gd_int]
  rw [take4 h 0 (by decide), take4 h 1 (by decide), take4 h 2 (by decide), take4 h 3 (by decide)]
  rfl
theorem word' {l : List Int} {i : Nat} (hl : BOk l) (h : 4 * i + 4 ≤ l.length) : f13_m (strOfNums (List.take 4 (List.drop (4 * i) l))) = some (wAt l i) := by
  rw [f13_e]
  have hs : (strOfNums (List.take 4 (List.drop (4 * i) l))).size = 4 := by rw [size_str]; simp; omega
  simp (disch := omega) only [ssz_eq, hs, sel_ilt]
  simp only [bt_nums, nums_str hl.drop.take]
  rw [show (0 : Int).toNat = 0 from rfl, show (1 : Int).toNat = 1 from rfl, show (2 : Int).toNat = 2 from rfl, show (3 : Int).toNat = 3 from rfl, take4 h 0 (by decide), take4 h 1 (by decide), take4 h 2 (by decide), take4 h 3 (by decide)]
  rfl
theorem cut4 {i : Nat} (h : i < 8) : imul .i64 4 (i : Int) = ((4 * i : Nat) : Int) := by rw [imul64 (by omega) (by omega)]; omega
theorem keyL {p : Int} {key q : List Int} {s : List Int} (hk : key.length = 32) : f15_l3_m p key q (s, 0) = some (putW key 4 s 8) :=
  lm_count (t := f15_l3_t p key q) (fun i => (putW key 4 s i, (i : Int))) 8 _ (fun i hi => by
    rw [f15_l3_e]
    have e1 : (4 * i + 4) - 4 * i = 4 := by omega
    simp only [cut4 hi]
    rw [iadd64 (b := 4) (by omega) (by omega), show ((4 * i : Nat) : Int) + 4 = ((4 * i + 4 : Nat) : Int) from by omega]
    simp (disch := omega) only [sel_ilt, sel_ile, sel_nle, Int.toNat_natCast, e1, word (show 4 * i + 4 ≤ key.length from by omega), Option.bind_some, iadd64]
    rw [show (4 : Int) + (i : Int) = ((4 + i : Nat) : Int) from by omega]
    simp (disch := omega) only [sel_ilt, sel_ile, sel_nlt, Int.toNat_natCast]
    rfl) (by rw [f15_l3_e]; kernel_rfl)
theorem keyL' {p : Int} {key q : List Int} {s : List Int} (hb : BOk key) (hk : key.length = 32) : f9_l3_m p key q (s, 0) = some (putW key 4 s 8) :=
  lm_count (t := f9_l3_t p key q) (fun i => (putW key 4 s i, (i : Int))) 8 _ (fun i hi => by
    rw [f9_l3_e]
    have e1 : (4 * i + 4) - 4 * i = 4 := by omega
    simp only [cut4 hi]
    rw [iadd64 (b := 4) (by omega) (by omega), show ((4 * i : Nat) : Int) + 4 = ((4 * i + 4 : Nat) : Int) from by omega]
    simp (disch := omega) only [sel_ilt, sel_ile, sel_nle, Int.toNat_natCast, e1, word' hb (show 4 * i + 4 ≤ key.length from by omega), Option.bind_some, iadd64]
    rw [show (4 : Int) + (i : Int) = ((4 + i : Nat) : Int) from by omega]
    simp (disch := omega) only [sel_ilt, sel_ile, sel_nlt, Int.toNat_natCast]
    rfl) (by rw [f9_l3_e]; kernel_rfl)
theorem nonL {q : List Int} {s : List Int} (hk : q.length = 12) : f15_l9_m q (s, 0) = some (putW q 13 s 3) :=
  lm_count (t := f15_l9_t q) (fun i => (putW q 13 s i, (i : Int))) 3 _ (fun i hi => by
    rw [f15_l9_e]
    have e1 : (4 * i + 4) - 4 * i = 4 := by omega
    simp only [cut4 (show i < 8 from by omega)]
    rw [iadd64 (b := 4) (by omega) (by omega), show ((4 * i : Nat) : Int) + 4 = ((4 * i + 4 : Nat) : Int) from by omega]
    simp (disch := omega) only [sel_ilt, sel_ile, sel_nle, Int.toNat_natCast, e1, word (show 4 * i + 4 ≤ q.length from by omega), Option.bind_some, iadd64]
    rw [show (13 : Int) + (i : Int) = ((13 + i : Nat) : Int) from by omega]
    simp (disch := omega) only [sel_ilt, sel_ile, sel_nlt, Int.toNat_natCast]
    rfl) (by rw [f15_l9_e]; kernel_rfl)
theorem nonL' {q : List Int} {s : List Int} (hb : BOk q) (hk : q.length = 12) : f9_l8_m q (s, 0) = some (putW q 13 s 3) :=
  lm_count (t := f9_l8_t q) (fun i => (putW q 13 s i, (i : Int))) 3 _ (fun i hi => by
    rw [f9_l8_e]
    have e1 : (4 * i + 4) - 4 * i = 4 := by omega
    simp only [cut4 (show i < 8 from by omega)]
    rw [iadd64 (b := 4) (by omega) (by omega), show ((4 * i : Nat) : Int) + 4 = ((4 * i + 4 : Nat) : Int) from by omega]
    simp (disch := omega) only [sel_ilt, sel_ile, sel_nle, Int.toNat_natCast, e1, word' hb (show 4 * i + 4 ≤ q.length from by omega), Option.bind_some, iadd64]
    rw [show (13 : Int) + (i : Int) = ((13 + i : Nat) : Int) from by omega]
    simp (disch := omega) only [sel_ilt, sel_ile, sel_nlt, Int.toNat_natCast]
    rfl) (by rw [f9_l8_e]; kernel_rfl)
theorem first_m {key nonce : List Int} {c : Int} (hk : key.length = 32) (hn : nonce.length = 12) : f15_m key c nonce = some (first key c nonce) := by
  rw [f15_e]
  simp only [keyL hk, nonL hn, Option.bind_some]
  rfl

/-! ### The words' bytes -/
theorem fill_set {O : List Int} {n j : Nat} (hO : O.length = n) (hj : j < n) : (O.take j ++ List.replicate (n - j) 0).set j (O.getD j 0) = O.take (j + 1) ++ List.replicate (n - (j + 1)) 0 := by
  apply List.ext_getElem
  · simp; omega
  · intro i h1 h2
    simp only [List.getElem_set, List.getElem_append, List.length_take, List.getElem_take, List.getElem_replicate]
    have h3 : i < n := by simp at h1; omega
    by_cases e : j = i
    · subst e
      rw [if_pos rfl, dif_pos (by omega)]
      simp [List.getD_eq_getElem?_getD, List.getElem?_eq_getElem (show j < O.length from by omega)]
    · rw [if_neg e]
      split
      · rw [dif_pos (by omega)]
      · rw [dif_neg (by omega)]
theorem getD_map_range {n i : Nat} {f : Nat → Int} (h : i < n) : ((List.range n).map f).getD i 0 = f i := by
  simp [List.getD_eq_getElem?_getD, List.getElem?_map, h]
theorem out_get {w s : List Int} {i k : Nat} (hi : i < 16) (hk : k < 4) : (outW w s).getD (4 * i + k) 0 = icv .u8 (shr .u32 (iadd .u32 (w.getD i 0) (s.getD i 0)) (8 * (k : Int))) := by
  unfold outW
  rw [getD_map_range (by omega)]
  unfold byteW
  rw [show (4 * i + k) / 4 = i from by omega, show (4 * i + k) % 4 = k from by omega]
def fillO (w s : List Int) (j : Nat) : List Int := (outW w s).take j ++ List.replicate (64 - j) 0
theorem byteL {w s : List Int} {i : Nat} (hi : i < 16) {a b : List Int} {c : Int} :
    f12_l22_m (iadd .u32 (w.getD i 0) (s.getD i 0)) a b (i : Int) c (fillO w s (4 * i), 0) = some (fillO w s (4 * i + 4)) :=
  lm_count (t := f12_l22_t (iadd .u32 (w.getD i 0) (s.getD i 0)) a b (i : Int) c) (fun k => (fillO w s (4 * i + k), (k : Int))) 4 _ (fun k hk => by
    rw [f12_l22_e]
    simp only []
    rw [sel_ilt (by omega), imul64 (a := 4) (by omega) (by omega), imul64 (a := 8) (by omega) (by omega), iadd64 (a := 4 * (i : Int)) (by omega) (by omega),
      show (4 : Int) * (i : Int) + (k : Int) = ((4 * i + k : Nat) : Int) from by omega]
    simp (disch := omega) only [sel_ilt, sel_ile, sel_nlt, Int.toNat_natCast, iadd64]
    have e := fill_set (outW_len w s) (show 4 * i + k < 64 from by omega)
    rw [out_get hi hk] at e
    unfold fillO
    rw [e]
    rfl) (by rw [f12_l22_e]; kernel_rfl)
theorem outL {w s : List Int} : f12_l18_m s w (List.replicate 64 0, 0) = some (outW w s) := by
  have h := lm_count (t := f12_l18_t s w) (fun i => (fillO w s (4 * i), (i : Int))) 16 (fillO w s 64) (fun i hi => by
    rw [f12_l18_e]
    simp (disch := omega) only [sel_ilt, sel_ile, sel_nlt, Int.toNat_natCast, gd_int, byteL hi, Option.bind_some, iadd64]
    rfl) (by rw [f12_l18_e]; rfl)
  have e0 : fillO w s (4 * 0) = List.replicate 64 0 := rfl
  have e1 : fillO w s 64 = outW w s := by
    unfold fillO
    rw [List.take_of_length_le (by rw [outW_len]; exact Nat.le_refl _)]; simp
  have h : f12_l18_m s w (fillO w s (4 * 0), 0) = some (fillO w s 64) := h
  rw [e0, e1] at h
  exact h
theorem block {key nonce : List Int} {c : Int} (hk : key.length = 32) (hn : nonce.length = 12) : f12_m key c nonce = some (blk key c nonce) := by
  rw [f12_e, first_m hk hn, Option.bind_some, dblL, Option.bind_some, outL]
  rfl
theorem Block {key nonce : List Int} {c : Int} (hk : key.length = 32) (hn : nonce.length = 12) : f8_m key c nonce = some (strOfNums (blk key c nonce)) := by
  rw [f8_e, block hk hn]; rfl
theorem take_app4 {O : List Int} {j : Nat} (h : j + 4 ≤ O.length) : List.append (O.take j) [O.getD j 0, O.getD (j + 1) 0, O.getD (j + 2) 0, O.getD (j + 3) 0] = O.take (j + 4) := by
  apply List.ext_getElem?
  intro i
  show (O.take j ++ _)[i]? = _
  rw [List.getElem?_append]
  simp only [List.length_take, List.getElem?_take]
  rw [show min j O.length = j from by omega]
  split
  · rw [if_pos (by omega)]
  · rename_i h1
    by_cases h2 : i < j + 4
    · rw [if_pos h2]
      have : i - j = 0 ∨ i - j = 1 ∨ i - j = 2 ∨ i - j = 3 := by omega
      have hO : O[i]? = some (O.getD i 0) := by rw [List.getD_eq_getElem?_getD, List.getElem?_eq_getElem (show i < O.length from by omega)]; rfl
      rcases this with e | e | e | e <;> rw [e, hO]
      · rw [show i = j from by omega]; rfl
      · rw [show i = j + 1 from by omega]; rfl
      · rw [show i = j + 2 from by omega]; rfl
      · rw [show i = j + 3 from by omega]; rfl
    · rw [if_neg h2, List.getElem?_eq_none (by simp; omega)]
theorem outL' {w s : List Int} : f9_l25_m s w ([], 0) = some (outW w s) := by
  have h := lm_count (t := f9_l25_t s w) (fun i => ((outW w s).take (4 * i), (i : Int))) 16 ((outW w s).take 64) (fun i hi => by
    have e : f9_s0 ((outW w s).take (4 * i), (i : Int)) w s = (outW w s).take (4 * i + 4) := by
      rw [← take_app4 (by rw [outW_len]; omega), show 4 * i = 4 * i + 0 from rfl, out_get hi (by decide), show 4 * i + 0 + 1 = 4 * i + 1 from rfl, out_get hi (by decide), show 4 * i + 0 + 2 = 4 * i + 2 from rfl, out_get hi (by decide),
        show 4 * i + 0 + 3 = 4 * i + 3 from rfl, out_get hi (by decide)]
      have e0 : icv .u8 (shr .u32 (iadd .u32 (w.getD i 0) (s.getD i 0)) (8 * ((0 : Nat) : Int))) = icv .u8 (iadd .u32 (w.getD i 0) (s.getD i 0)) := by unfold shr; simp
      rw [e0]
      rfl
    have hl : ((outW w s).take (4 * i + 4)).length = 4 * i + 4 := by rw [List.length_take, outW_len]; omega
    rw [f9_l25_e]
    simp (disch := omega) only [e, hl, sel_ilt, sel_ile, sel_nlt, sel_nle, Int.toNat_natCast, iadd64]
    rfl) (by rw [f9_l25_e]; rfl)
  have h : f9_l25_m s w ((outW w s).take (4 * 0), 0) = some ((outW w s).take 64) := h
  rw [List.take_of_length_le (i := 64) (by rw [outW_len]; exact Nat.le_refl _)] at h
  exact h
theorem Block' {key nonce : List Int} {c : Int} (hkb : BOk key) (hnb : BOk nonce) (hk : key.length = 32) (hn : nonce.length = 12) : f9_m key c nonce = some (strOfNums (blk key c nonce)) := by
  rw [f9_e]
  have e := @keyL' c key nonce z16 hkb hk
  unfold z16 at e
  rw [e, Option.bind_some, nonL' hnb hn, Option.bind_some]
  show Option.bind (f9_l13_m (first key c nonce) (first key c nonce, 0)) _ = _
  rw [dblL', Option.bind_some, outL']
  rfl

/-! ### Masks -/
def cnt (c : Int) (j : Nat) : Int := (c + (j : Int)) % 4294967296
def mk (key : List Int) (c : Int) (nonce T : List Int) : List Int := (List.range T.length).map fun i => ixor .u8 (T.getD i 0) ((blk key (cnt c (i / 64)) nonce).getD (i % 64) 0)
theorem mk_len {key nonce T : List Int} {c : Int} : (mk key c nonce T).length = T.length := by simp [mk]
theorem mk_ok {key nonce T : List Int} {c : Int} (h : BOk T) : BOk (mk key c nonce T) := BOk.map fun _ _ => ixor8_ok h.getD blk_ok.getD
theorem mk_get {key nonce T : List Int} {c : Int} {i : Nat} (h : i < T.length) : (mk key c nonce T).getD i 0 = ixor .u8 (T.getD i 0) ((blk key (cnt c (i / 64)) nonce).getD (i % 64) 0) := getD_map_range h
/-- The text of which the first j bytes are masked. -/
def part (M T : List Int) (j : Nat) : List Int := M.take j ++ T.drop j
theorem part_len {M T : List Int} {j : Nat} (h : M.length = T.length) : (part M T j).length = T.length := by simp [part]; omega
theorem part_get {M T : List Int} {j : Nat} (h : M.length = T.length) (hj : j < T.length) : (part M T j).getD j 0 = T.getD j 0 := by
  simp only [part, List.getD_eq_getElem?_getD]
  rw [List.getElem?_append_right (by simp; omega)]
  simp [show min j M.length = j from by omega]
theorem part_set {M T : List Int} {j : Nat} (h : M.length = T.length) (hj : j < T.length) : (part M T j).set j (M.getD j 0) = part M T (j + 1) := by
  apply List.ext_getElem
  · simp [part]; omega
  · intro i h1 h2
    simp only [part, List.getElem_set, List.getElem_append, List.length_take, List.getElem_take, List.getElem_drop]
    have h3 : i < T.length := by simp [part] at h1; omega
    by_cases e : j = i
    · subst e
      rw [if_pos rfl, dif_pos (by omega)]
      simp [List.getD_eq_getElem?_getD, List.getElem?_eq_getElem (show j < M.length from by omega)]
    · rw [if_neg e]
      split
      · rw [dif_pos (by omega)]
      · rw [dif_neg (by omega)]
        congr 1; omega
theorem maskL {key nonce T : List Int} {c : Int} {b : Nat} (hb : 64 * b < T.length) (hl : T.length ≤ 10000) {a d : List Int} :
    f10_l7_m (cnt c b) T.length a d (blk key (cnt c b) nonce) ((64 * b : Nat) : Int) (part (mk key c nonce T) T (64 * b), ((64 * b : Nat) : Int)) = some (part (mk key c nonce T) T (min T.length (64 * b + 64))) := by
  have h := lm_count (t := f10_l7_t (cnt c b) T.length a d (blk key (cnt c b) nonce) ((64 * b : Nat) : Int)) (fun k => (part (mk key c nonce T) T (64 * b + k), ((64 * b + k : Nat) : Int))) (min T.length (64 * b + 64) - 64 * b) (part (mk key c nonce T) T (64 * b + (min T.length (64 * b + 64) - 64 * b))) (fun k hk => by
    have hm := @mk_len key nonce T c
    rw [f10_l7_e]
    simp only []
    have e1 : mn (T.length : Int) (iadd .i64 ((64 * b : Nat) : Int) 64) = ((min T.length (64 * b + 64) : Nat) : Int) := by
      rw [iadd64 (by omega) (by omega)]; unfold mn; split <;> omega
    rw [e1, isub64 (by omega) (by omega), show ((64 * b + k : Nat) : Int) - ((64 * b : Nat) : Int) = (k : Int) from by omega]
    simp (disch := omega) only [sel_ilt, sel_ile, sel_nlt, Int.toNat_natCast, iadd64, Nat.zero_add, part_len hm, gd_int]
    rw [part_get hm (by omega)]
    have e2 := @mk_get key nonce T c (64 * b + k) (by omega)
    rw [show (64 * b + k) / 64 = b from by omega, show (64 * b + k) % 64 = k from by omega] at e2
    rw [← e2, part_set hm (by omega)]
    rfl) (by
      rw [f10_l7_e]
      simp only []
      have e1 : mn (T.length : Int) (iadd .i64 ((64 * b : Nat) : Int) 64) = ((min T.length (64 * b + 64) : Nat) : Int) := by
        rw [iadd64 (by omega) (by omega)]; unfold mn; split <;> omega
      rw [e1, sel_ilt' (by omega)])
  rw [show 64 * b + (min T.length (64 * b + 64) - 64 * b) = min T.length (64 * b + 64) from by omega] at h
  exact h
theorem cnt_succ {c : Int} {j : Nat} : iadd .u32 (cnt c j) 1 = cnt c (j + 1) := by
  unfold iadd cnt; rw [IntKind.wrap_u32]; omega
theorem cnt_zero {c : Int} (h : 0 ≤ c ∧ c < 4294967296) : cnt c 0 = c := by unfold cnt; omega
theorem mask {key nonce : List Int} {c : Int} {s : ByteArray} (hk : key.length = 32) (hn : nonce.length = 12) (hc : 0 ≤ c ∧ c < 4294967296) (hl : s.size ≤ 10000) : f10_m key c nonce s = some (strOfNums (mk key c nonce (nums s))) := by
  have hT : (nums s).length = s.size := nums_len s
  have hm : (mk key c nonce (nums s)).length = (nums s).length := mk_len
  have h := lm_count (t := f10_l3_t s.size key nonce) (fun b => (cnt c b, part (mk key c nonce (nums s)) (nums s) (min (nums s).length (64 * b)), ((64 * b : Nat) : Int))) ((s.size + 63) / 64) (mk key c nonce (nums s)) (fun b hb => by
    rw [f10_l3_e]
    simp only []
    rw [sel_ilt (by omega), block hk hn, Option.bind_some]
    rw [show min (nums s).length (64 * b) = 64 * b from by omega, ← hT, maskL (by omega) (by omega), Option.bind_some, cnt_succ]
    rw [iadd64 (by omega) (by omega)]
    rfl) (by
      rw [f10_l3_e]
      simp only []
      rw [sel_ilt' (by omega), show min (nums s).length (64 * ((s.size + 63) / 64)) = (nums s).length from by omega]
      unfold part
      rw [List.take_of_length_le (by omega), List.drop_of_length_le (by omega), List.append_nil])
  have e0 : part (mk key c nonce (nums s)) (nums s) (min (nums s).length (64 * 0)) = nums s := by unfold part; simp
  simp only [e0, cnt_zero hc] at h
  rw [f10_e]
  show Option.bind (f10_l3_m s.size key nonce (c, nums s, ((64 * 0 : Nat) : Int))) _ = _
  have h : f10_l3_m s.size key nonce (c, nums s, ((64 * 0 : Nat) : Int)) = some (mk key c nonce (nums s)) := h
  rw [h, Option.bind_some, sel_nle (by omega), List.drop_zero, List.take_of_length_le (by omega)]

theorem take_one {O : List Int} {j : Nat} (h : j < O.length) : List.append (O.take j) [O.getD j 0] = O.take (j + 1) := by
  show O.take j ++ _ = _
  rw [List.take_add_one, List.getD_eq_getElem?_getD, List.getElem?_eq_getElem h]; rfl
theorem irem64 {i : Nat} : irem (i : Int) 64 = ((i % 64 : Nat) : Int) := by
  unfold irem
  rw [Int.tmod_eq_emod_of_nonneg (by omega)]
  omega
theorem mask' {key nonce : List Int} {c : Int} {s : ByteArray} (hkb : BOk key) (hnb : BOk nonce) (hk : key.length = 32) (hn : nonce.length = 12) (hc : 0 ≤ c ∧ c < 4294967296) (hl : s.size ≤ 10000) : f11_m key c nonce s = some (strOfNums (mk key c nonce (nums s))) := by
  have hT : (nums s).length = s.size := nums_len s
  have hm : (mk key c nonce (nums s)).length = (nums s).length := mk_len
  have hbl : ∀ c, (strOfNums (blk key c nonce)).size = 64 := fun c => by rw [size_str, blk_len]
  have hbt : ∀ c (k : Nat), bt (strOfNums (blk key c nonce)) (k : Int) = (blk key c nonce).getD k 0 := fun c k => by rw [bt_nums, nums_str blk_ok, Int.toNat_natCast]
  have hst : ∀ k : Nat, bt s (k : Int) = (nums s).getD k 0 := fun k => by rw [bt_nums, Int.toNat_natCast]
  have h := lm_count (t := f11_l4_t s key nonce) (fun i => (cnt c ((i + 63) / 64), (mk key c nonce (nums s)).take i, (if i = 0 then ByteArray.mk #[] else strOfNums (blk key (cnt c ((i - 1) / 64)) nonce)), (i : Int))) s.size (mk key c nonce (nums s)) (fun i hi => by
    have e2 := @mk_get key nonce (nums s) c i (by omega)
    have e3 := take_one (show i < (mk key c nonce (nums s)).length from by omega)
    have hlen : ((mk key c nonce (nums s)).take (i + 1)).length = i + 1 := by simp; omega
    rw [f11_l4_e]
    simp only []
    rw [ssz_eq, sel_ilt (by omega), irem64]
    by_cases h0 : i % 64 = 0
    · rw [sel_ieq (by omega), show (i + 63) / 64 = i / 64 from by omega, Block' hkb hnb hk hn, Option.bind_some]
      rw [hst, hbt, ← e2]
      simp (disch := omega) only [sel_ilt, sel_ile, sel_nle, ssz_eq, hbl, hlen, e3, iadd64, cnt_succ]
      rw [show i / 64 + 1 = (i + 1 + 63) / 64 from by omega]
      rw [if_neg (show ¬ i + 1 = 0 from by omega), show (i + 1 - 1) / 64 = i / 64 from by omega]
      rfl
    · rw [sel_ieq' (by omega), if_neg (show ¬ i = 0 from by omega), if_neg (show ¬ i + 1 = 0 from by omega), show (i - 1) / 64 = i / 64 from by omega]
      rw [hst, hbt, ← e2]
      simp (disch := omega) only [sel_ilt, sel_ile, sel_nle, ssz_eq, hbl, hlen, e3, iadd64]
      rw [show (i + 1 + 63) / 64 = (i + 63) / 64 from by omega, show (i + 1 - 1) / 64 = i / 64 from by omega]
      rfl) (by
      rw [f11_l4_e]
      simp only []
      rw [ssz_eq, sel_ilt' (by omega), List.take_of_length_le (by omega)])
  simp only [Nat.zero_add, show 63 / 64 = 0 from rfl, cnt_zero hc, List.take_zero, if_true] at h
  rw [f11_e]
  have h : f11_l4_m s key nonce (c, [], ByteArray.mk #[], 0) = some (mk key c nonce (nums s)) := h
  rw [h]; rfl

/-! ### What wakes -/
def k31 : List Int := [0, 1, 2, 3, 4, 5, 6, 7, 8, 9, 10, 11, 12, 13, 14, 15, 16, 17, 18, 19, 20, 21, 22, 23, 24, 25, 26, 27, 28, 29, 30, 31]
def fk (i : Nat) : List Int := k31.take i ++ List.replicate (32 - i) 0
theorem wakeL : f7_l3_m ([0, 0, 0, 0, 0, 0, 0, 0, 0, 0, 0, 0, 0, 0, 0, 0, 0, 0, 0, 0, 0, 0, 0, 0, 0, 0, 0, 0, 0, 0, 0, 0], 0) = some k31 :=
  lm_count (t := f7_l3_t) (fun i => (fk i, (i : Int))) 32 _ (fun i hi => by
    rw [f7_l3_e]
    have e := fill_set (O := k31) (n := 32) rfl hi
    have e1 : k31.getD i 0 = icv .u8 (i : Int) := by
      rw [icv8]
      have : ∀ i : Fin 32, k31.getD i.val 0 = ((i.val : Int)) % 256 := by decide
      exact this ⟨i, hi⟩
    rw [e1] at e
    simp (disch := omega) only [sel_ilt, sel_ile, sel_nlt, Int.toNat_natCast, iadd64]
    show some (Sum.inl (List.set (fk i) i (icv .u8 (i : Int)), (i : Int) + 1)) = _
    unfold fk
    rw [e]
    rfl) (by rw [f7_l3_e]; kernel_rfl)
theorem b4 : (blk k31 1 [0, 0, 0, 9, 0, 0, 0, 74, 0, 0, 0, 0]).take 4 = [16, 241, 231, 228] := by kernel_rfl
theorem wakes : f7_m = some true := by
  rw [f7_e, wakeL, Option.bind_some, Block rfl rfl, Option.bind_some]
  have e : ssz (strOfNums (blk k31 1 [0, 0, 0, 9, 0, 0, 0, 74, 0, 0, 0, 0])) = 64 := by rw [ssz_eq, size_str, blk_len]; rfl
  rw [e, sel_ieq rfl, sel_ile (by decide)]
  have e2 : seq (scut (strOfNums (blk k31 1 [0, 0, 0, 9, 0, 0, 0, 74, 0, 0, 0, 0])) 0 4) (ByteArray.mk #[16, 241, 231, 228]) = true := by
    rw [seq_t]
    apply nums_inj
    rw [nums_cut, nums_str blk_ok, List.drop_zero, b4]
    rfl
  rw [sel_t e2, mask rfl rfl (by decide) (by decide), Option.bind_some]
  rw [ssz_eq, size_str, mk_len]
  rfl

/-! ### The laws -/
variable {key nonce : List Int} {c : Int} {s : ByteArray}
theorem tells (hkb : BOk key) (hnb : BOk nonce) (hk : key.length = 32) (hn : nonce.length = 12) (hc : 0 ≤ c ∧ c < 4294967296) : f3_m key c nonce s = some true := by
  rw [f3_e, wakes]
  rcases Int.lt_or_le 300 (ssz s) with h | h
  · rw [sel_ilt h]; rfl
  · rw [sel_ilt' h]
    rw [ssz_eq] at h
    rw [Block hk hn, Option.bind_some, Block' hkb hnb hk hn, Option.bind_some, sel_t (seq_t.2 rfl), mask hk hn hc (by omega), Option.bind_some, mask' hkb hnb hk hn hc (by omega), Option.bind_some, sel_t (seq_t.2 rfl)]
    rfl
theorem twice (hk : key.length = 32) (hn : nonce.length = 12) (hc : 0 ≤ c ∧ c < 4294967296) : f4_m key c nonce s = some true := by
  rw [f4_e, wakes]
  rcases Int.lt_or_le 300 (ssz s) with h | h
  · rw [sel_ilt h]; rfl
  · rw [sel_ilt' h]
    rw [ssz_eq] at h
    have hT := nums_len s
    have hs : (strOfNums (mk key c nonce (nums s))).size = s.size := by rw [size_str, mk_len, hT]
    rw [mask hk hn hc (by omega), Option.bind_some, sel_ieq (by rw [ssz_eq, ssz_eq, hs]), mask hk hn hc (by omega), Option.bind_some]
    have e : seq (strOfNums (mk key c nonce (nums (strOfNums (mk key c nonce (nums s)))))) s = true := by
      rw [seq_t]
      apply nums_inj
      rw [nums_str (mk_ok (nums_ok _)), nums_str (mk_ok (nums_ok _))]
      apply List.ext_getElem
      · rw [mk_len, mk_len]
      · intro i h1 h2
        have g : ∀ (l : List Int) (h : i < l.length), l[i] = l.getD i 0 := fun l h => by rw [List.getD_eq_getElem?_getD, List.getElem?_eq_getElem h]; rfl
        rw [g _ h1, g _ h2, mk_get (by rw [mk_len]; exact h2), mk_get h2, ixor8_twice (nums_ok s).getD blk_ok.getD]
    rw [sel_t e]
    rfl

theorem getD_lt {l : List Int} {i : Nat} (h : i < l.length) : l[i] = l.getD i 0 := by rw [List.getD_eq_getElem?_getD, List.getElem?_eq_getElem h]; rfl
theorem getD_take {l : List Int} {i n : Nat} (h : i < n) : (l.take n).getD i 0 = l.getD i 0 := by simp [List.getD_eq_getElem?_getD, List.getElem?_take, h]
theorem getD_drop {l : List Int} {i n : Nat} : (l.drop n).getD i 0 = l.getD (n + i) 0 := by simp [List.getD_eq_getElem?_getD, List.getElem?_drop]
theorem getD_app_l {a b : List Int} {i : Nat} (h : i < a.length) : (a ++ b).getD i 0 = a.getD i 0 := by simp [List.getD_eq_getElem?_getD, List.getElem?_append_left h]
theorem getD_app_r {a b : List Int} {i : Nat} (h : a.length ≤ i) : (a ++ b).getD i 0 = b.getD (i - a.length) 0 := by simp [List.getD_eq_getElem?_getD, List.getElem?_append_right h]
theorem mk_take {T : List Int} {k : Nat} (h : k ≤ T.length) : mk key c nonce (T.take k) = (mk key c nonce T).take k := by
  apply List.ext_getElem
  · simp [mk_len]
  · intro i h1 h2
    rw [mk_len, List.length_take] at h1
    rw [getD_lt, getD_lt, mk_get (by rw [List.length_take]; omega), getD_take (by omega), getD_take (by omega), mk_get (by omega)]
theorem mk_parts {T : List Int} {k : Nat} (h : 64 * k ≤ T.length) : mk key c nonce (T.take (64 * k)) ++ mk key (cnt c k) nonce (T.drop (64 * k)) = mk key c nonce T := by
  apply List.ext_getElem
  · simp only [List.length_append, mk_len, List.length_take, List.length_drop]; omega
  · intro i h1 h2
    simp only [List.length_append, mk_len, List.length_take, List.length_drop] at h1
    rw [mk_len] at h2
    have hl : (mk key c nonce (T.take (64 * k))).length = 64 * k := by rw [mk_len, List.length_take]; omega
    rw [getD_lt, getD_lt (by rw [mk_len]; exact h2)]
    rcases Nat.lt_or_ge i (64 * k) with h3 | h3
    · rw [getD_app_l (by omega), mk_get (by rw [List.length_take]; omega), getD_take h3, mk_get h2]
    · rw [getD_app_r (by omega), hl, mk_get (by rw [List.length_drop]; omega), getD_drop, mk_get h2]
      have e1 : cnt (cnt c k) ((i - 64 * k) / 64) = cnt c (i / 64) := by unfold cnt; omega
      rw [e1, show 64 * k + (i - 64 * k) = i from by omega, show (i - 64 * k) % 64 = i % 64 from by omega]
theorem parts (hk : key.length = 32) (hn : nonce.length = 12) (hc : 0 ≤ c ∧ c < 4294967296) {x : Int} (hx : 0 ≤ x ∧ x < 256) : f5_m key c nonce s x = some true := by
  rw [f5_e, wakes]
  rcases Int.lt_or_le 300 (ssz s) with h | h
  · rw [sel_ilt h]; rfl
  · rw [sel_ilt' h]
    rw [ssz_eq] at h ⊢
    have hT := nums_len s
    have e1 : iadd .i64 (iquo .i64 (s.size : Int) 64) 1 = ((s.size / 64 + 1 : Nat) : Int) := by
      unfold iquo
      rw [Int.tdiv_eq_ediv_of_nonneg (by omega), IntKind.wrap_i64, iadd64 (by omega) (by omega)]; omega
    obtain ⟨k, hk1, hk2⟩ : ∃ k : Nat, irem (icv .i64 x) ((s.size / 64 + 1 : Nat) : Int) = (k : Int) ∧ 64 * k ≤ s.size := by
      rw [icv64 (by omega) (by omega)]
      unfold irem
      rw [Int.tmod_eq_emod_of_nonneg (by omega)]
      refine ⟨(x % ((s.size / 64 + 1 : Nat) : Int)).toNat, ?_, ?_⟩
      · rw [Int.toNat_of_nonneg (Int.emod_nonneg _ (by omega))]
      · have := Int.emod_lt_of_pos x (show (0 : Int) < ((s.size / 64 + 1 : Nat) : Int) from by omega)
        omega
    rw [e1, hk1]
    rw [imul64 (by omega) (by omega), show (64 : Int) * (k : Int) = ((64 * k : Nat) : Int) from by omega]
    have hcu : iadd .u32 c (icv .u32 (k : Int)) = cnt c k := by
      unfold iadd icv cnt; rw [IntKind.wrap_u32, IntKind.wrap_u32]; omega
    have hcr : 0 ≤ cnt c k ∧ cnt c k < 4294967296 := by unfold cnt; omega
    have z1 : (scut s 0 (64 * k)).size = 64 * k := by rw [size_cut (by omega) (by omega)]; omega
    have z2 : (scut s (64 * k) s.size).size = s.size - 64 * k := by rw [size_cut (by omega) (by omega)]
    simp (disch := omega) only [Int.toNat_natCast, sel_bno, sel_ieq', sel_ile, hcu]
    rw [mask hk hn hc (by omega), Option.bind_some, mask hk hn hcr (by omega), Option.bind_some, sel_nle (by rw [size_str, size_str, mk_len, mk_len, nums_len, nums_len]; omega), mask hk hn hc (by omega), Option.bind_some]
    have e : seq (sapp (strOfNums (mk key c nonce (nums (scut s 0 (64 * k))))) (strOfNums (mk key (cnt c k) nonce (nums (scut s (64 * k) s.size))))) (strOfNums (mk key c nonce (nums s))) = true := by
      rw [seq_t, str_app, nums_cut, nums_cut, List.drop_zero, List.take_of_length_le (i := s.size) (by omega), mk_parts (by omega)]
    rw [sel_t e]
    rfl
theorem zeros {k : Nat} : mk key c nonce (List.replicate (64 * k) 0) = (List.range (64 * k)).map fun i => (blk key (cnt c (i / 64)) nonce).getD (i % 64) 0 := by
  unfold mk
  rw [List.length_replicate]
  apply List.map_congr_left
  intro i hi
  have hi := List.mem_range.1 hi
  have : (List.replicate (64 * k) (0 : Int)).getD i 0 = 0 := by simp [List.getD_eq_getElem?_getD, List.getElem?_replicate]; split <;> rfl
  rw [this, ixor8_zero blk_ok.getD]
theorem two_blocks (hc : 0 ≤ c ∧ c < 4294967296) : blk key c nonce ++ blk key (cnt c 1) nonce = mk key c nonce (List.replicate 128 0) := by
  have hz := @zeros key nonce c 2
  have hz : mk key c nonce (List.replicate 128 0) = (List.range 128).map fun i => (blk key (cnt c (i / 64)) nonce).getD (i % 64) 0 := hz
  rw [hz]
  apply List.ext_getElem
  · simp only [List.length_append, blk_len, List.length_map, List.length_range]
  · intro i h1 h2
    simp only [List.length_append, blk_len] at h1
    rw [getD_lt, getD_lt h2, getD_map_range (by omega)]
    rcases Nat.lt_or_ge i 64 with h3 | h3
    · rw [getD_app_l (by rw [blk_len]; exact h3), show i / 64 = 0 from by omega, show i % 64 = i from by omega, cnt_zero hc]
    · rw [getD_app_r (by rw [blk_len]; exact h3), blk_len, show i / 64 = 1 from by omega, show i % 64 = i - 64 from by omega]
theorem blocks (hk : key.length = 32) (hn : nonce.length = 12) (hc : 0 ≤ c ∧ c < 4294967296) {x : Int} (hx : 0 ≤ x ∧ x < 256) : f6_m key c nonce s x = some true := by
  rw [f6_e, wakes]
  rcases Int.lt_or_le 300 (ssz s) with h | h
  · rw [sel_ilt h]; rfl
  · rw [sel_ilt' h]
    rw [ssz_eq] at h ⊢
    have hT := nums_len s
    have e1 : iadd .i64 (s.size : Int) 1 = ((s.size + 1 : Nat) : Int) := by rw [iadd64 (by omega) (by omega)]; omega
    obtain ⟨k, hk1, hk2⟩ : ∃ k : Nat, irem (icv .i64 x) ((s.size + 1 : Nat) : Int) = (k : Int) ∧ k ≤ s.size := by
      rw [icv64 (by omega) (by omega)]
      unfold irem
      rw [Int.tmod_eq_emod_of_nonneg (by omega)]
      refine ⟨(x % ((s.size + 1 : Nat) : Int)).toNat, ?_, ?_⟩
      · rw [Int.toNat_of_nonneg (Int.emod_nonneg _ (by omega))]
      · have := Int.emod_lt_of_pos x (show (0 : Int) < ((s.size + 1 : Nat) : Int) from by omega)
        omega
    have hcu : iadd .u32 c 1 = cnt c 1 := by unfold iadd cnt; rw [IntKind.wrap_u32]; omega
    have hcr : 0 ≤ cnt c 1 ∧ cnt c 1 < 4294967296 := by unfold cnt; omega
    have z0 : (strOfNums (mk key c nonce (nums s))).size = s.size := by rw [size_str, mk_len, hT]
    have z1 : (scut s 0 k).size = k := by rw [size_cut (by omega) (by omega)]; omega
    rw [e1, hk1, hcu, mask hk hn hc (by omega), Option.bind_some, sel_bno, sel_ieq' (by omega), Block hk hn, Option.bind_some, Block hk hn, Option.bind_some, sel_nle (by rw [size_str, size_str, blk_len, blk_len]; decide),
      sel_ieq (by rw [ssz_eq, z0]), sel_ile (by omega), sel_ile (by rw [ssz_eq, z0]; omega), sel_ile (by omega), Int.toNat_natCast, mask hk hn hc (by omega), Option.bind_some]
    have e : seq (scut (strOfNums (mk key c nonce (nums s))) 0 k) (strOfNums (mk key c nonce (nums (scut s 0 k)))) = true := by
      rw [seq_t, scut_str, nums_str (mk_ok (nums_ok _)), nums_cut, List.drop_zero, List.drop_zero, mk_take (by omega)]
    rw [sel_t e, mask hk hn hc (by rw [size_str, List.length_replicate]; decide), Option.bind_some]
    have e2 : seq (sapp (strOfNums (blk key c nonce)) (strOfNums (blk key (cnt c 1) nonce))) (strOfNums (mk key c nonce (nums (strOfNums (List.replicate 128 0))))) = true := by
      rw [seq_t, str_app, nums_str (BOk.replicate (by decide)), two_blocks hc]
    rw [sel_t e2]
    rfl
end Go.Proofs.Ytkbpgmhkmhojnaa
