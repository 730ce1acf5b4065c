/- A part of the proof that the laws of this seat hold for every input; no conditions of its own. -/
import Derived.Test.YtihbhmeigijmiaaDoorHA
import Derived.Test.YtihbhmeigijmiaaDoorV0
open Go Vam Vam.Pg Go.Proofs
set_option linter.unusedVariables false
set_option linter.unusedSimpArgs false
set_option maxRecDepth 100000
namespace Go.Proofs.YtihbhmeigijmiaaDoor
/-! ### Words -/
theorem bits_comm (op : BinOp) (k : IntKind) (a b : Int) (h : op = .or ∨ op = .xor) : Go.bits op k a b = Go.bits op k b a := by
  rcases h with rfl | rfl
  · unfold Go.bits; simp only [BitVec.or_comm]
  · unfold Go.bits; simp only [BitVec.xor_comm]
def rt (x n m : Int) : Int := ior .u32 (shr .u32 x n) (shl .u32 x m)
def sg (x a a' b b' c : Int) : Int := ixor .u32 (ixor .u32 (rt x a a') (rt x b b')) (shr .u32 x c)
def bg (x a a' b b' c c' : Int) : Int := ixor .u32 (ixor .u32 (rt x a a') (rt x b b')) (rt x c c')
def w4 (a b c d : Int) : Int := ior .u32 (ior .u32 (ior .u32 (shl .u32 (icv .u32 a) 24) (shl .u32 (icv .u32 b) 16)) (shl .u32 (icv .u32 c) 8)) (icv .u32 d)
def wAt (l : List Int) (i : Nat) : Int := w4 (l.getD (4 * i) 0) (l.getD (4 * i + 1) 0) (l.getD (4 * i + 2) 0) (l.getD (4 * i + 3) 0)
def wl (l : List Int) : Nat → List Int
  | 0 => List.replicate 64 0
  | i + 1 => (wl l i).set i (wAt l i)
def wstep (s : List Int) (i : Nat) : Int := iadd .u32 (iadd .u32 (iadd .u32 (s.getD (i - 16) 0) (sg (s.getD (i - 15) 0) 7 25 18 14 3)) (s.getD (i - 7) 0)) (sg (s.getD (i - 2) 0) 17 15 19 13 10)
def wx (w : List Int) : Nat → List Int
  | 0 => w
  | i + 1 => (wx w i).set (16 + i) (wstep (wx w i) (16 + i))
def wds (l : List Int) : List Int := wx (wl l 16) 48
def rA (w s : List Int) (i : Nat) : Int := iadd .u32 (iadd .u32 (iadd .u32 (iadd .u32 (s.getD 7 0) (bg (s.getD 4 0) 6 26 11 21 25 7)) (ixor .u32 (iand .u32 (s.getD 4 0) (s.getD 5 0)) (iand .u32 (icom .u32 (s.getD 4 0)) (s.getD 6 0)))) (constL.getD i 0)) (w.getD i 0)
def rB (s : List Int) : Int := iadd .u32 (bg (s.getD 0 0) 2 30 13 19 22 10) (ixor .u32 (ixor .u32 (iand .u32 (s.getD 0 0) (s.getD 1 0)) (iand .u32 (s.getD 0 0) (s.getD 2 0))) (iand .u32 (s.getD 1 0) (s.getD 2 0)))
def rnd (w s : List Int) (i : Nat) : List Int := [iadd .u32 (rA w s i) (rB s), s.getD 0 0, s.getD 1 0, s.getD 2 0, iadd .u32 (s.getD 3 0) (rA w s i), s.getD 4 0, s.getD 5 0, s.getD 6 0]
def rs (w s : List Int) : Nat → List Int
  | 0 => s
  | i + 1 => rnd w (rs w s i) i
def up (h s : List Int) : Nat → List Int
  | 0 => h
  | i + 1 => (up h s i).set i (iadd .u32 ((up h s i).getD i 0) (s.getD i 0))
def comp (h l : List Int) : List Int := up h (rs (wds l) h 64) 8

/-! ### Turned words -/
theorem a7 (x : Int) : f14_m x (-7) = some (rt x 7 25) := by
  rw [rt, ior, bits_comm _ _ _ _ (.inl rfl)]; kernel_rfl
theorem a18 (x : Int) : f14_m x (-18) = some (rt x 18 14) := by
  rw [rt, ior, bits_comm _ _ _ _ (.inl rfl)]; kernel_rfl
theorem a17 (x : Int) : f14_m x (-17) = some (rt x 17 15) := by
  rw [rt, ior, bits_comm _ _ _ _ (.inl rfl)]; kernel_rfl
theorem a19 (x : Int) : f14_m x (-19) = some (rt x 19 13) := by
  rw [rt, ior, bits_comm _ _ _ _ (.inl rfl)]; kernel_rfl
theorem a6 (x : Int) : f14_m x (-6) = some (rt x 6 26) := by
  rw [rt, ior, bits_comm _ _ _ _ (.inl rfl)]; kernel_rfl
theorem a11 (x : Int) : f14_m x (-11) = some (rt x 11 21) := by
  rw [rt, ior, bits_comm _ _ _ _ (.inl rfl)]; kernel_rfl
theorem a25 (x : Int) : f14_m x (-25) = some (rt x 25 7) := by
  rw [rt, ior, bits_comm _ _ _ _ (.inl rfl)]; kernel_rfl
theorem a2 (x : Int) : f14_m x (-2) = some (rt x 2 30) := by
  rw [rt, ior, bits_comm _ _ _ _ (.inl rfl)]; kernel_rfl
theorem a13 (x : Int) : f14_m x (-13) = some (rt x 13 19) := by
  rw [rt, ior, bits_comm _ _ _ _ (.inl rfl)]; kernel_rfl
theorem a22 (x : Int) : f14_m x (-22) = some (rt x 22 10) := by
  rw [rt, ior, bits_comm _ _ _ _ (.inl rfl)]; kernel_rfl
theorem b7 (x : Int) : f15_m x 7 = some (rt x 7 25) := by kernel_rfl
theorem b18 (x : Int) : f15_m x 18 = some (rt x 18 14) := by kernel_rfl
theorem b17 (x : Int) : f15_m x 17 = some (rt x 17 15) := by kernel_rfl
theorem b19 (x : Int) : f15_m x 19 = some (rt x 19 13) := by kernel_rfl
theorem b6 (x : Int) : f15_m x 6 = some (rt x 6 26) := by kernel_rfl
theorem b11 (x : Int) : f15_m x 11 = some (rt x 11 21) := by kernel_rfl
theorem b25 (x : Int) : f15_m x 25 = some (rt x 25 7) := by kernel_rfl
theorem b2 (x : Int) : f15_m x 2 = some (rt x 2 30) := by kernel_rfl
theorem b13 (x : Int) : f15_m x 13 = some (rt x 13 19) := by kernel_rfl
theorem b22 (x : Int) : f15_m x 22 = some (rt x 22 10) := by kernel_rfl

/-! ### A block's words -/
theorem iadd64' {a b : Nat} (h : a + b < 2 ^ 62) : iadd .i64 (a : Int) (b : Int) = ((a + b : Nat) : Int) := by rw [iadd64 (by omega) (by omega)]; omega
theorem isub64' {a b : Nat} (h : a < 2 ^ 62) (hb : b ≤ a) : isub .i64 (a : Int) (b : Int) = ((a - b : Nat) : Int) := by rw [isub64 (by omega) (by omega)]; omega
theorem imul64' {a b : Nat} (h : a * b < 2 ^ 62) : imul .i64 (a : Int) (b : Int) = ((a * b : Nat) : Int) := by
  rw [imul64 (by have : 0 ≤ (a : Int) * b := Int.mul_nonneg (by omega) (by omega); omega) (by rw [← Int.natCast_mul]; omega), ← Int.natCast_mul]
theorem wl_len (l : List Int) : ∀ i, (wl l i).length = 64
  | 0 => List.length_replicate
  | i + 1 => by rw [wl, List.length_set]; exact wl_len l i
theorem wx_len {w : List Int} (h : w.length = 64) : ∀ i, (wx w i).length = 64
  | 0 => h
  | i + 1 => by rw [wx, List.length_set]; exact wx_len h i
theorem firstW {l : List Int} (hl : 64 ≤ l.length) : f13_l3_m l (List.replicate 64 0, 0) = some (wl l 16) :=
  lm_count (t := f13_l3_t l) (fun i => (wl l i, (i : Int))) 16 _ (fun i hi => by
    rw [f13_l3_e]
    unfold f13_s0
    simp only [show (4 : Int) = ((4 : Nat) : Int) from rfl, show (3 : Int) = ((3 : Nat) : Int) from rfl, show (2 : Int) = ((2 : Nat) : Int) from rfl, show (1 : Int) = ((1 : Nat) : Int) from rfl]
    simp (disch := omega) only [imul64', iadd64', llen_eq, sel_ilt, sel_ile, sel_nlt, Int.toNat_natCast]
    kernel_rfl) (by rw [f13_l3_e]; kernel_rfl)
theorem moreW {w : List Int} : f13_l8_m (w, 16) = some (wx w 48) :=
  lm_count (t := f13_l8_t) (fun i => (wx w i, ((16 + i : Nat) : Int))) 48 _ (fun i hi => by
    rw [f13_l8_e]
    unfold f13_s1
    simp only [show (15 : Int) = ((15 : Nat) : Int) from rfl, show (7 : Int) = ((7 : Nat) : Int) from rfl, show (2 : Int) = ((2 : Nat) : Int) from rfl, show (1 : Int) = ((1 : Nat) : Int) from rfl, show isub .i64 ((16 + i : Nat) : Int) 16 = isub .i64 ((16 + i : Nat) : Int) ((16 : Nat) : Int) from rfl]
    simp (disch := omega) only [isub64', iadd64', sel_ilt, sel_ile, sel_nlt, Int.toNat_natCast, gd_int]
    simp only [show (-((7 : Nat) : Int)) = -7 from rfl, a7, a18, a17, a19, Option.bind_some]
    kernel_rfl) (by rw [f13_l8_e]; kernel_rfl)
theorem words {l : List Int} (hl : 64 ≤ l.length) : f13_m l = some (wds l) := by
  rw [f13_e, firstW hl]
  simp only [Option.bind_some, moreW]
  rfl
theorem rounds {p w s : List Int} : f11_l4_m p w (s, 0) = some (rs w s 64) :=
  lm_count (t := f11_l4_t p w) (fun i => (rs w s i, (i : Int))) 64 _ (fun i hi => by
    rw [f11_l4_e]
    unfold f11_s0 f11_s1
    simp only [gd_int]
    simp only [a6, a11, a25, a2, a13, a22, Option.bind_some]
    rw [show (1 : Int) = ((1 : Nat) : Int) from rfl]
    simp (disch := omega) only [sel_ilt, sel_ile, sel_nlt, Int.toNat_natCast, iadd64']
    kernel_rfl) (by rw [f11_l4_e]; kernel_rfl)
theorem sums {s h : List Int} : f11_l12_m s (h, 0) = some (up h s 8) :=
  lm_count (t := f11_l12_t s) (fun i => (up h s i, (i : Int))) 8 _ (fun i hi => by
    rw [f11_l12_e]
    simp only [gd_int]
    rw [show (1 : Int) = ((1 : Nat) : Int) from rfl]
    simp (disch := omega) only [sel_ilt, sel_ile, sel_nlt, Int.toNat_natCast, iadd64']
    kernel_rfl) (by rw [f11_l12_e]; kernel_rfl)
theorem block {h l : List Int} (hl : 64 ≤ l.length) : f11_m h l = some (comp h l) := by
  rw [f11_e, words hl]
  simp only [Option.bind_some, rounds, sums]
  rfl

/-! ### The reference's -/
theorem firstW' {q : List Int} {s : ByteArray} (hl : 64 ≤ (nums s).length) : f12_l3_m s q (List.replicate 64 0, 0) = some (wl (nums s) 16) :=
  lm_count (t := f12_l3_t s q) (fun i => (wl (nums s) i, (i : Int))) 16 _ (fun i hi => by
    rw [nums_len] at hl
    rw [f12_l3_e]
    unfold f12_s0
    simp only [show (4 : Int) = ((4 : Nat) : Int) from rfl, show (3 : Int) = ((3 : Nat) : Int) from rfl, show (2 : Int) = ((2 : Nat) : Int) from rfl, show (1 : Int) = ((1 : Nat) : Int) from rfl]
    simp (disch := omega) only [imul64', iadd64', ssz_eq, sel_ilt, sel_ile, sel_nlt, Int.toNat_natCast, bt_nums]
    kernel_rfl) (by rw [f12_l3_e]; kernel_rfl)
theorem moreW' {q w : List Int} : f12_l7_m q (w, 16) = some (wx w 48) :=
  lm_count (t := f12_l7_t q) (fun i => (wx w i, ((16 + i : Nat) : Int))) 48 _ (fun i hi => by
    rw [f12_l7_e]
    unfold f12_s1
    simp only [gd_int]
    simp only [b7, b18, b17, b19, Option.bind_some]
    simp only [show isub .i64 ((16 + i : Nat) : Int) 15 = isub .i64 ((16 + i : Nat) : Int) ((15 : Nat) : Int) from rfl, show isub .i64 ((16 + i : Nat) : Int) 7 = isub .i64 ((16 + i : Nat) : Int) ((7 : Nat) : Int) from rfl, show isub .i64 ((16 + i : Nat) : Int) 2 = isub .i64 ((16 + i : Nat) : Int) ((2 : Nat) : Int) from rfl, show isub .i64 ((16 + i : Nat) : Int) 16 = isub .i64 ((16 + i : Nat) : Int) ((16 : Nat) : Int) from rfl, show iadd .i64 ((16 + i : Nat) : Int) 1 = iadd .i64 ((16 + i : Nat) : Int) ((1 : Nat) : Int) from rfl]
    simp (disch := omega) only [isub64', iadd64', sel_ilt, sel_ile, sel_nlt, Int.toNat_natCast, gd_int]
    kernel_rfl) (by rw [f12_l7_e]; kernel_rfl)
theorem const {i : Nat} (h : i < 64) : f16_m (i : Int) = some (constL.getD i 0) := by
  rw [f16_e]
  simp (disch := omega) only [sel_ilt, sel_ile, sel_nlt, Int.toNat_natCast]
  kernel_rfl
theorem rounds' {p w s : List Int} : f12_l14_m p w (s, 0) = some (rs w s 64) :=
  lm_count (t := f12_l14_t p w) (fun i => (rs w s i, (i : Int))) 64 _ (fun i hi => by
    rw [f12_l14_e]
    unfold f12_s2 f12_s3
    simp only [gd_int]
    simp only [b6, b11, b25, b2, b13, b22, const hi, Option.bind_some]
    rw [show (ixor .u32 ((rs w s i).getD 4 0) 4294967295) = icom .u32 ((rs w s i).getD 4 0) from bits_comm _ _ _ _ (.inr rfl)]
    rw [show (1 : Int) = ((1 : Nat) : Int) from rfl]
    simp (disch := omega) only [sel_ilt, sel_ile, sel_nlt, Int.toNat_natCast, iadd64']
    kernel_rfl) (by rw [f12_l14_e]; kernel_rfl)
theorem sums' {s h : List Int} : f12_l22_m s (h, 0) = some (up h s 8) :=
  lm_count (t := f12_l22_t s) (fun i => (up h s i, (i : Int))) 8 _ (fun i hi => by
    rw [f12_l22_e]
    simp only [gd_int]
    rw [show (1 : Int) = ((1 : Nat) : Int) from rfl]
    simp (disch := omega) only [sel_ilt, sel_ile, sel_nlt, Int.toNat_natCast, iadd64']
    kernel_rfl) (by rw [f12_l22_e]; kernel_rfl)
theorem block' {h : List Int} {s : ByteArray} (hl : 64 ≤ (nums s).length) : f12_m h s = some (comp h (nums s)) := by
  rw [f12_e, firstW' hl]
  simp only [Option.bind_some, moreW', rounds', sums']
  rfl
end Go.Proofs.YtihbhmeigijmiaaDoor
