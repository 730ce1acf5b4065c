/- A part of the proof that the laws of this seat hold for every input; no conditions of its own. -/
import Derived.Test.YtnngdpaeiafnlaaDoorDA
import Derived.Test.YtnngdpaeiafnlaaDoorV0
open Go Vam Vam.Pg Go.Proofs
set_option linter.unusedVariables false
set_option linter.unusedSimpArgs false
set_option maxRecDepth 100000
namespace Go.Proofs.YtnngdpaeiafnlaaDoor
/-! ### Words -/
theorem bits_comm (op : BinOp) (k : IntKind) (a b : Int) (h : op = .or ∨ op = .xor) : Go.bits op k a b = Go.bits op k b a := by
  rcases h with rfl | rfl
  · unfold Go.bits; simp only [BitVec.or_comm]
  · unfold Go.bits; simp only [BitVec.xor_comm]
def rt (x n m : Int) : Int := ior .u32 (shr .u32 x n) (shl .u32 x m)
def sg (x a a' b b' c : Int) : Int := ixor .u32 (ixor .u32 (rt x a a') (rt x b b')) (shr .u32 x c)
def bg (x a a' b b' c c' : Int) : Int := ixor .u32 (ixor .u32 (rt x a a') (rt x b b')) (rt x c c')
def w4 (a b c d : Int) : Int := ior .u32 (ior .u32 (ior .u32 (shl .u32 (icv .u32 a) 24) (shl .u32 (icv .u32 b) 16)) (shl .u32 (icv .u32 c) 8)) (icv .u32 d)
def wAt (l : List Int) (i : Nat) : Int := w4 (l.getD (4 * i) 0) (l.getD (4 * i + 1) 0) (l.getD (4 * i + 2) 0) (l.getD (4 * i + 3) 0)
def wl (l : List Int) : Nat → List Int
  | 0 => List.replicate 64 0
  | i + 1 => (wl l i).set i (wAt l i)
def wstep (s : List Int) (i : Nat) : Int := iadd .u32 (iadd .u32 (iadd .u32 (s.getD (i - 16) 0) (sg (s.getD (i - 15) 0) 7 25 18 14 3)) (s.getD (i - 7) 0)) (sg (s.getD (i - 2) 0) 17 15 19 13 10)
def wx (w : List Int) : Nat → List Int
  | 0 => w
  | i + 1 => (wx w i).set (16 + i) (wstep (wx w i) (16 + i))
def wds (l : List Int) : List Int := wx (wl l 16) 48
def rA (w s : List Int) (i : Nat) : Int := iadd .u32 (iadd .u32 (iadd .u32 (iadd .u32 (s.getD 7 0) (bg (s.getD 4 0) 6 26 11 21 25 7)) (ixor .u32 (iand .u32 (s.getD 4 0) (s.getD 5 0)) (iand .u32 (icom .u32 (s.getD 4 0)) (s.getD 6 0)))) (constL.getD i 0)) (w.getD i 0)
def rB (s : List Int) : Int := iadd .u32 (bg (s.getD 0 0) 2 30 13 19 22 10) (ixor .u32 (ixor .u32 (iand .u32 (s.getD 0 0) (s.getD 1 0)) (iand .u32 (s.getD 0 0) (s.getD 2 0))) (iand .u32 (s.getD 1 0) (s.getD 2 0)))
def rnd (w s : List Int) (i : Nat) : List Int := [iadd .u32 (rA w s i) (rB s), s.getD 0 0, s.getD 1 0, s.getD 2 0, iadd .u32 (s.getD 3 0) (rA w s i), s.getD 4 0, s.getD 5 0, s.getD 6 0]
def rs (w s : List Int) : Nat → List Int
  | 0 => s
  | i + 1 => rnd w (rs w s i) i
def up (h s : List Int) : Nat → List Int
  | 0 => h
  | i + 1 => (up h s i).set i (iadd .u32 ((up h s i).getD i 0) (s.getD i 0))
def comp (h l : List Int) : List Int := up h (rs (wds l) h 64) 8

/-! ### Turned words -/
theorem a7 (x : Int) : f28_m x (-7) = some (rt x 7 25) := by
  rw [rt, ior, bits_comm _ _ _ _ (.inl rfl)]; kernel_rfl
theorem a18 (x : Int) : f28_m x (-18) = some (rt x 18 14) := by
  rw [rt, ior, bits_comm _ _ _ _ (.inl rfl)]; kernel_rfl
theorem a17 (x : Int) : f28_m x (-17) = some (rt x 17 15) := by
  rw [rt, ior, bits_comm _ _ _ _ (.inl rfl)]; kernel_rfl
theorem a19 (x : Int) : f28_m x (-19) = some (rt x 19 13) := by
  rw [rt, ior, bits_comm _ _ _ _ (.inl rfl)]; kernel_rfl
theorem a6 (x : Int) : f28_m x (-6) = some (rt x 6 26) := by
  rw [rt, ior, bits_comm _ _ _ _ (.inl rfl)]; kernel_rfl
theorem a11 (x : Int) : f28_m x (-11) = some (rt x 11 21) := by
  rw [rt, ior, bits_comm _ _ _ _ (.inl rfl)]; kernel_rfl
theorem a25 (x : Int) : f28_m x (-25) = some (rt x 25 7) := by
  rw [rt, ior, bits_comm _ _ _ _ (.inl rfl)]; kernel_rfl
theorem a2 (x : Int) : f28_m x (-2) = some (rt x 2 30) := by
  rw [rt, ior, bits_comm _ _ _ _ (.inl rfl)]; kernel_rfl
theorem a13 (x : Int) : f28_m x (-13) = some (rt x 13 19) := by
  rw [rt, ior, bits_comm _ _ _ _ (.inl rfl)]; kernel_rfl
theorem a22 (x : Int) : f28_m x (-22) = some (rt x 22 10) := by
  rw [rt, ior, bits_comm _ _ _ _ (.inl rfl)]; kernel_rfl
theorem b7 (x : Int) : f25_m x 7 = some (rt x 7 25) := by kernel_rfl
theorem b18 (x : Int) : f25_m x 18 = some (rt x 18 14) := by kernel_rfl
theorem b17 (x : Int) : f25_m x 17 = some (rt x 17 15) := by kernel_rfl
theorem b19 (x : Int) : f25_m x 19 = some (rt x 19 13) := by kernel_rfl
theorem b6 (x : Int) : f25_m x 6 = some (rt x 6 26) := by kernel_rfl
theorem b11 (x : Int) : f25_m x 11 = some (rt x 11 21) := by kernel_rfl
theorem b25 (x : Int) : f25_m x 25 = some (rt x 25 7) := by kernel_rfl
theorem b2 (x : Int) : f25_m x 2 = some (rt x 2 30) := by kernel_rfl
theorem b13 (x : Int) : f25_m x 13 = some (rt x 13 19) := by kernel_rfl
theorem b22 (x : Int) : f25_m x 22 = some (rt x 22 10) := by kernel_rfl

/-! ### A block's words -/
theorem iadd64' {a b : Nat} (h : a + b < 2 ^ 62) : iadd .i64 (a : Int) (b : Int) = ((a + b : Nat) : Int) := by rw [iadd64 (by omega) (by omega)]; omega
theorem isub64' {a b : Nat} (h : a < 2 ^ 62) (hb : b ≤ a) : isub .i64 (a : Int) (b : Int) = ((a - b : Nat) : Int) := by rw [isub64 (by omega) (by omega)]; omega
theorem imul64' {a b : Nat} (h : a * b < 2 ^ 62) : imul .i64 (a : Int) (b : Int) = ((a * b : Nat) : Int) := by
  rw [imul64 (by have : 0 ≤ (a : Int) * b := Int.mul_nonneg (by omega) (by omega); omega) (by rw [← Int.natCast_mul]; omega), ← Int.natCast_mul]
theorem wl_len (l : List Int) : ∀ i, (wl l i).length = 64
  | 0 => List.length_replicate
  | i + 1 => by rw [wl, List.length_set]; exact wl_len l i
theorem wx_len {w : List Int} (h : w.length = 64) : ∀ i, (wx w i).length = 64
  | 0 => h
  | i + 1 => by rw [wx, List.length_set]; exact wx_len h i
theorem firstW {l : List Int} (hl : 64 ≤ l.length) : f27_l3_m l (List.replicate 64 0, 0) = some (wl l 16) :=
  lm_count (t := f27_l3_t l) (fun i => (wl l i, (i : Int))) 16 _ (fun i hi => by
    rw [f27_l3_e]
    unfold f27_s0
    simp only [show (4 : Int) = ((4 : Nat) : Int) from rfl, show (3 : Int) = ((3 : Nat) : Int) from rfl, show (2 : Int) = ((2 : Nat) : Int) from rfl, show (1 : Int) = ((1 : Nat) : Int) from rfl]
    simp (disch := omega) only [imul64', iadd64', llen_eq, sel_ilt, sel_ile, sel_nlt, Int.toNat_natCast]
    kernel_rfl) (by rw [f27_l3_e]; kernel_rfl)
theorem moreW {w : List Int} : f27_l8_m (w, 16) = some (wx w 48) :=
  lm_count (t := f27_l8_t) (fun i => (wx w i, ((16 + i : Nat) : Int))) 48 _ (fun i hi => by
    rw [f27_l8_e]
    unfold f27_s1
    simp only [show (15 : Int) = ((15 : Nat) : Int) from rfl, show (7 : Int) = ((7 : Nat) : Int) from rfl, show (2 : Int) = ((2 : Nat) : Int) from rfl, show (1 : Int) = ((1 : Nat) : Int) from rfl, show isub .i64 ((16 + i : Nat) : Int) 16 = isub .i64 ((16 + i : Nat) : Int) ((16 : Nat) : Int) from rfl]
    simp (disch := omega) only [isub64', iadd64', sel_ilt, sel_ile, sel_nlt, Int.toNat_natCast, gd_int]
    simp only [show (-((7 : Nat) : Int)) = -7 from rfl, a7, a18, a17, a19, Option.bind_some]
    kernel_rfl) (by rw [f27_l8_e]; kernel_rfl)
theorem words {l : List Int} (hl : 64 ≤ l.length) : f27_m l = some (wds l) := by
  rw [f27_e, firstW hl]
  simp only [Option.bind_some, moreW]
  rfl
theorem rounds {p w s : List Int} : f24_l4_m p w (s, 0) = some (rs w s 64) :=
  lm_count (t := f24_l4_t p w) (fun i => (rs w s i, (i : Int))) 64 _ (fun i hi => by
    rw [f24_l4_e]
    unfold f24_s0 f24_s1
    simp only [gd_int]
    simp only [a6, a11, a25, a2, a13, a22, Option.bind_some]
    rw [show (1 : Int) = ((1 : Nat) : Int) from rfl]
    simp (disch := omega) only [sel_ilt, sel_ile, sel_nlt, Int.toNat_natCast, iadd64']
    kernel_rfl) (by rw [f24_l4_e]; kernel_rfl)
theorem sums {s h : List Int} : f24_l12_m s (h, 0) = some (up h s 8) :=
  lm_count (t := f24_l12_t s) (fun i => (up h s i, (i : Int))) 8 _ (fun i hi => by
    rw [f24_l12_e]
    simp only [gd_int]
    rw [show (1 : Int) = ((1 : Nat) : Int) from rfl]
    simp (disch := omega) only [sel_ilt, sel_ile, sel_nlt, Int.toNat_natCast, iadd64']
    kernel_rfl) (by rw [f24_l12_e]; kernel_rfl)
theorem block {h l : List Int} (hl : 64 ≤ l.length) : f24_m h l = some (comp h l) := by
  rw [f24_e, words hl]
  simp only [Option.bind_some, rounds, sums]
  rfl

/-! ### The reference's -/
theorem firstW' {q : List Int} {s : ByteArray} (hl : 64 ≤ (nums s).length) : f23_l3_m s q (List.replicate 64 0, 0) = some (wl (nums s) 16) :=
  lm_count (t := f23_l3_t s q) (fun i => (wl (nums s) i, (i : Int))) 16 _ (fun i hi => by
    rw [nums_len] at hl
    rw [f23_l3_e]
    unfold f23_s0
    simp only [show (4 : Int) = ((4 : Nat) : Int) from rfl, show (3 : Int) = ((3 : Nat) : Int) from rfl, show (2 : Int) = ((2 : Nat) : Int) from rfl, show (1 : Int) = ((1 : Nat) : Int) from rfl]
    simp (disch := omega) only [imul64', iadd64', ssz_eq, sel_ilt, sel_ile, sel_nlt, Int.toNat_natCast, bt_nums]
    kernel_rfl) (by rw [f23_l3_e]; kernel_rfl)
theorem moreW' {q w : List Int} : f23_l7_m q (w, 16) = some (wx w 48) :=
  lm_count (t := f23_l7_t q) (fun i => (wx w i, ((16 + i : Nat) : Int))) 48 _ (fun i hi => by
    rw [f23_l7_e]
    unfold f23_s1
    simp only [gd_int]
    simp only [b7, b18, b17, b19, Option.bind_some]
    simp only [show isub .i64 ((16 + i : Nat) : Int) 15 = isub .i64 ((16 + i : Nat) : Int) ((15 : Nat) : Int) from rfl, show isub .i64 ((16 + i : Nat) : Int) 7 = isub .i64 ((16 + i : Nat) : Int) ((7 : Nat) : Int) from rfl, show isub .i64 ((16 + i : Nat) : Int) 2 = isub .i64 ((16 + i : Nat) : Int) ((2 : Nat) : Int) from rfl, show isub .i64 ((16 + i : Nat) : Int) 16 = isub .i64 ((16 + i : Nat) : Int) ((16 : Nat) : Int) from rfl, show iadd .i64 ((16 + i : Nat) : Int) 1 = iadd .i64 ((16 + i : Nat) : Int) ((1 : Nat) : Int) from rfl]
    simp (disch := omega) only [isub64', iadd64', sel_ilt, sel_ile, sel_nlt, Int.toNat_natCast, gd_int]
    kernel_rfl) (by rw [f23_l7_e]; kernel_rfl)
theorem const {i : Nat} (h : i < 64) : f26_m (i : Int) = some (constL.getD i 0) := by
  rw [f26_e]
  simp (disch := omega) only [sel_ilt, sel_ile, sel_nlt, Int.toNat_natCast]
  kernel_rfl
theorem rounds' {p w s : List Int} : f23_l14_m p w (s, 0) = some (rs w s 64) :=
  lm_count (t := f23_l14_t p w) (fun i => (rs w s i, (i : Int))) 64 _ (fun i hi => by
    rw [f23_l14_e]
    unfold f23_s2 f23_s3
    simp only [gd_int]
    simp only [b6, b11, b25, b2, b13, b22, const hi, Option.bind_some]
    rw [show (ixor .u32 ((rs w s i).getD 4 0) 4294967295) = icom .u32 ((rs w s i).getD 4 0) from bits_comm _ _ _ _ (.inr rfl)]
    rw [show (1 : Int) = ((1 : Nat) : Int) from rfl]
    simp (disch := omega) only [sel_ilt, sel_ile, sel_nlt, Int.toNat_natCast, iadd64']
    kernel_rfl) (by rw [f23_l14_e]; kernel_rfl)
theorem sums' {s h : List Int} : f23_l22_m s (h, 0) = some (up h s 8) :=
  lm_count (t := f23_l22_t s) (fun i => (up h s i, (i : Int))) 8 _ (fun i hi => by
    rw [f23_l22_e]
    simp only [gd_int]
    rw [show (1 : Int) = ((1 : Nat) : Int) from rfl]
    simp (disch := omega) only [sel_ilt, sel_ile, sel_nlt, Int.toNat_natCast, iadd64']
    kernel_rfl) (by rw [f23_l22_e]; kernel_rfl)
theorem block' {h : List Int} {s : ByteArray} (hl : 64 ≤ (nums s).length) : f23_m h s = some (comp h (nums s)) := by
  rw [f23_e, firstW' hl]
  simp only [Option.bind_some, moreW', rounds', sums']
  rfl
/-! ### Blocks of a text -/
theorem wAt_take {l : List Int} {n i : Nat} (hn : 64 ≤ n) (hi : i < 16) : wAt (l.take n) i = wAt l i := by
  unfold wAt
  rw [getD_take (by omega), getD_take (by omega), getD_take (by omega), getD_take (by omega)]
theorem wl_take {l : List Int} {n : Nat} (hn : 64 ≤ n) : ∀ i, i ≤ 16 → wl (l.take n) i = wl l i
  | 0, _ => rfl
  | i + 1, h => by rw [wl, wl, wl_take hn i (by omega), wAt_take hn (by omega)]
theorem comp_take {h l : List Int} {n : Nat} (hn : 64 ≤ n) : comp h (l.take n) = comp h l := by
  unfold comp wds; rw [wl_take hn 16 (Nat.le_refl _)]
def hh (h l : List Int) : Nat → List Int
  | 0 => h
  | k + 1 => comp (hh h l k) (l.drop (64 * k))
theorem hh_app {h l m : List Int} : ∀ k, 64 * k ≤ l.length → hh h (l ++ m) k = hh h l k
  | 0, _ => rfl
  | k + 1, hk => by
    rw [hh, hh, hh_app k (by omega), ← comp_take (n := 64) (Nat.le_refl _), ← comp_take (l := l.drop (64 * k)) (n := 64) (Nat.le_refl _), List.drop_append_of_le_length (by omega), List.take_append_of_le_length (by simp; omega)]
def cat (ps : List ByteArray) : Nat → List Int
  | 0 => []
  | j + 1 => cat ps j ++ nums (ps.getD j (ByteArray.mk #[]))
theorem cat_le {ps : List ByteArray} {i : Nat} : ∀ d, (cat ps i).length ≤ (cat ps (i + d)).length
  | 0 => Nat.le_refl _
  | d + 1 => by
    have := cat_le (ps := ps) (i := i) d
    rw [show i + (d + 1) = (i + d) + 1 from rfl, cat, List.length_append]
    omega
abbrev F0 : List Int := [1779033703, 3144134277, 1013904242, 2773480762, 1359893119, 2600822924, 528734635, 1541459225]
theorem drop64 {l : List Int} {a b : Nat} : (l.drop (64 * a)).drop (64 * b) = l.drop (64 * (a + b)) := by rw [List.drop_drop]; congr 1; omega
theorem inner {T : List Int} {k : Nat} {n : Int} {ps : List ByteArray} {c i : Int} (hk : 64 * k ≤ T.length) (h40 : T.length ≤ 1099511627776) :
    f22_l9_m n ps c (T.drop (64 * k)) i (hh F0 T k, 0, (T.drop (64 * k)).length) = some (hh F0 T (T.length / 64), 64 * (T.length / 64 - k), T.length % 64) := by
  have hl : (T.drop (64 * k)).length = T.length - 64 * k := by simp
  rw [hl]
  exact lm_count (t := f22_l9_t n ps c (T.drop (64 * k)) i) (fun j => (hh F0 T (k + j), 64 * j, (T.length - 64 * k) - 64 * j)) (T.length / 64 - k) _ (fun j hj => by
    rw [f22_l9_e]
    simp only []
    have hj' : 64 * (k + j) + 64 ≤ T.length := by omega
    rw [sel_ile (by omega), sel_nle (by rw [hl]; omega), drop64, List.take_of_length_le (by simp; omega), block (by simp; omega)]
    simp only [Option.bind_some]
    rw [show k + (j + 1) = (k + j) + 1 from rfl, hh, show 64 * j + 64 = 64 * (j + 1) from by omega, show T.length - 64 * k - 64 * j - 64 = T.length - 64 * k - 64 * (j + 1) from by omega]) (by
    rw [f22_l9_e]
    simp only []
    rw [sel_ile' (by omega), show k + (T.length / 64 - k) = T.length / 64 from by omega, show T.length - 64 * k - 64 * (T.length / 64 - k) = T.length % 64 from by omega])
def hold (ps : List ByteArray) : Nat → List Int × Nat
  | 0 => ([], 0)
  | j + 1 => ((cat ps (j + 1)).drop (64 * ((cat ps j).length / 64)), 64 * ((cat ps (j + 1)).length / 64 - (cat ps j).length / 64))
theorem cat_mono {ps : List ByteArray} {i j : Nat} (h : i ≤ j) : (cat ps i).length ≤ (cat ps j).length := by
  have := cat_le (ps := ps) (i := i) (j - i)
  rwa [show i + (j - i) = j from by omega] at this
theorem hold_drop {ps : List ByteArray} (j : Nat) : (hold ps j).1.drop (hold ps j).2 = (cat ps j).drop (64 * ((cat ps j).length / 64)) := by
  cases j with
  | zero => simp [hold, cat]
  | succ j =>
    have := cat_mono (ps := ps) (show j ≤ j + 1 by omega)
    simp only [hold]
    rw [drop64]
    congr 2
    omega
theorem hold_le {ps : List ByteArray} (j : Nat) : (hold ps j).2 ≤ (hold ps j).1.length := by
  cases j with
  | zero => exact Nat.le_refl _
  | succ j =>
    have := cat_mono (ps := ps) (show j ≤ j + 1 by omega)
    simp only [hold, List.length_drop]
    omega
theorem rest_len {T : List Int} : (T.drop (64 * (T.length / 64))).length = T.length % 64 := by rw [List.length_drop]; omega
theorem rest_app {T m : List Int} : T.drop (64 * (T.length / 64)) ++ m = (T ++ m).drop (64 * (T.length / 64)) := by
  rw [List.drop_append_of_le_length (by omega)]
theorem icvu {n : Nat} (h : n < 2 ^ 62) : icv .u64 (n : Int) = n := by unfold icv; rw [IntKind.wrap_u64]; omega
theorem iaddu {a b : Nat} (h : a + b < 2 ^ 62) : iadd .u64 (a : Int) (b : Int) = ((a + b : Nat) : Int) := by unfold iadd; rw [IntKind.wrap_u64]; omega
theorem outer {ps : List ByteArray} (h40 : (cat ps ps.length).length ≤ 1099511627776) (hp : ps.length ≤ 1152921504606846976) :
    f22_l5_m ps (llen ps) ([], 0, 0, F0, 0, 0) = some ((hold ps ps.length).1, ((cat ps ps.length).length : Int), hh F0 (cat ps ps.length) ((cat ps ps.length).length / 64), (hold ps ps.length).2, (cat ps ps.length).length % 64) := by
  have e0 : (([], 0, 0, F0, 0, 0) : List Int × Int × Int × List Int × Nat × Nat) = ((hold ps 0).1, ((cat ps 0).length : Int), ((0 : Nat) : Int), hh F0 (cat ps 0) ((cat ps 0).length / 64), (hold ps 0).2, (cat ps 0).length % 64) := by simp [hold, cat, hh]
  rw [e0]
  exact lm_count (t := f22_l5_t ps (llen ps)) (fun j => ((hold ps j).1, ((cat ps j).length : Int), (j : Int), hh F0 (cat ps j) ((cat ps j).length / 64), (hold ps j).2, (cat ps j).length % 64)) ps.length _ (fun j hj => by
    have h1 := cat_mono (ps := ps) (show j + 1 ≤ ps.length by omega)
    have h0 := cat_mono (ps := ps) (show j ≤ j + 1 by omega)
    have hc : (cat ps (j + 1)).length = (cat ps j).length + (nums (ps.getD j (ByteArray.mk #[]))).length := by rw [cat, List.length_append]
    have hz : ((ps.getD j (ByteArray.mk #[])).size) = (nums (ps.getD j (ByteArray.mk #[]))).length := (nums_len _).symm
    have hr := rest_len (T := cat ps j)
    rw [f22_l5_e]
    simp only [llen_eq, gd_str, Int.toNat_natCast, hold_drop]
    have ha : List.append ((cat ps j).drop (64 * ((cat ps j).length / 64))) (nums (ps.getD j (ByteArray.mk #[]))) = (cat ps (j + 1)).drop (64 * ((cat ps j).length / 64)) := by
      rw [cat]; exact rest_app
    rw [ha]
    have hl : ((cat ps (j + 1)).drop (64 * ((cat ps j).length / 64))).length = (cat ps (j + 1)).length - 64 * ((cat ps j).length / 64) := by simp
    rw [sel_ilt (by omega), sel_ile (by omega), sel_ilt (by omega), sel_nle (hold_le j), sel_nEq hr.symm, sel_nle (by omega), sel_nle (by omega)]
    have hh' : hh F0 (cat ps j) ((cat ps j).length / 64) = hh F0 (cat ps (j + 1)) ((cat ps j).length / 64) := by rw [cat]; exact (hh_app _ (by omega)).symm
    rw [hh', inner (T := cat ps (j + 1)) (by omega) (by omega)]
    simp only [Option.bind_some, ssz_eq, hz]
    rw [icvu (by omega), iaddu (by omega), ← hc, show (1 : Int) = ((1 : Nat) : Int) from rfl, iadd64' (by omega)]
    rfl) (by
    rw [f22_l5_e]
    simp only []
    rw [sel_ilt' (by rw [llen_eq]; omega)])

/-! ### The end of a text -/
def zs (n : Nat) : Nat := (119 - n % 64) % 64
def lenB (n : Int) (i : Nat) : Int := icv .u8 (shr .u64 (imul .u64 8 n) (8 * (7 - (i : Int))))
def lens (n : Int) : List Int := (List.range 8).map (lenB n)
def pad (n : Nat) : List Int := [128] ++ List.replicate (zs n) 0 ++ lens n
def outW (h : List Int) (i : Nat) : Int := icv .u8 (shr .u32 (h.getD (i / 4) 0) (24 - 8 * ((i % 4 : Nat) : Int)))
def outB (h : List Int) : List Int := (List.range 32).map (outW h)
def sha (T : List Int) : List Int := outB (hh F0 (T ++ pad T.length) ((T ++ pad T.length).length / 64))
theorem lens_len {n : Int} : (lens n).length = 8 := by simp [lens]
theorem pad_len {n : Nat} : (pad n).length = 9 + zs n := by simp [pad, lens_len]; omega
theorem zs_56 {n : Nat} : (n + 1 + zs n) % 64 = 56 := by unfold zs; omega
theorem zs_not {n i : Nat} (h : i < zs n) : (n + 1 + i) % 64 ≠ 56 := by unfold zs at h; omega
theorem zs_lt {n : Nat} : zs n < 64 := by unfold zs; omega
theorem zs_mod {n : Nat} : zs (n % 64) = zs n := by unfold zs; rw [Nat.mod_mod]
theorem irem64 {n m : Nat} : irem (n : Int) (m : Int) = ((n % m : Nat) : Int) := by unfold irem; rw [Int.tmod_eq_emod_of_nonneg (by omega)]; omega
theorem snoc0 {R : List Int} {i : Nat} : List.append (R ++ [128] ++ List.replicate i 0) [0] = R ++ [128] ++ List.replicate (i + 1) 0 := by
  show R ++ [128] ++ List.replicate i 0 ++ [0] = _
  rw [List.append_assoc, ← List.replicate_succ']
theorem zeros {n : Int} {h R : List Int} (hR : R.length ≤ 4096) : f22_l14_m n h (List.append R [128]) = some (R ++ [128] ++ List.replicate (zs R.length) 0) := by
  have := lm_count (t := f22_l14_t n h) (fun i => R ++ [128] ++ List.replicate i 0) (zs R.length) (R ++ [128] ++ List.replicate (zs R.length) 0) (fun i hi => by
    have hz := zs_not hi
    have hz' := zs_lt (n := R.length)
    have hl : (R ++ [128] ++ List.replicate i (0 : Int)).length = R.length + 1 + i := by simp; omega
    have hl' : (R ++ [128] ++ List.replicate (i + 1) (0 : Int)).length = R.length + 1 + (i + 1) := by simp; omega
    rw [f22_l14_e]
    simp only [snoc0]
    rw [hl, hl', show (64 : Int) = ((64 : Nat) : Int) from rfl, irem64, sel_bno, sel_ieq' (by omega), sel_nle (by omega), sel_nle (by omega)]) (by
    have hz := zs_56 (n := R.length)
    have hl : (R ++ [128] ++ List.replicate (zs R.length) (0 : Int)).length = R.length + 1 + zs R.length := by simp; omega
    rw [f22_l14_e]
    rw [hl, show (64 : Int) = ((64 : Nat) : Int) from rfl, irem64, sel_bno, sel_ieq (by omega)])
  simpa [f22_l14_m] using this
theorem lens_at {n : Int} {i : Nat} (h : i < 8) : (lens n).getD i 0 = lenB n i := getD_map_range h
theorem lens_take {n : Int} {R : List Int} {i : Nat} (h : i < 8) : List.append (R ++ (lens n).take i) [lenB n i] = R ++ (lens n).take (i + 1) := by
  show R ++ (lens n).take i ++ [lenB n i] = _
  rw [List.append_assoc, ← lens_at h]
  congr 1
  exact take_app1 (by rw [lens_len]; exact h)
theorem lensL {n : Int} {h R : List Int} (hR : R.length ≤ 4096) : f22_l17_m n h (R, 0) = some (R ++ lens n) := by
  have := lm_count (t := f22_l17_t n h) (fun i => (R ++ (lens n).take i, (i : Int))) 8 (R ++ lens n) (fun i hi => by
    rw [f22_l17_e]
    simp only []
    have e : imul .i64 8 (isub .i64 7 (i : Int)) = 8 * (7 - (i : Int)) := by rw [isub64 (by omega) (by omega), imul64 (by omega) (by omega)]
    have hl : (R ++ (lens n).take (i + 1)).length ≤ R.length + 8 := by simp; omega
    have e' : icv .u8 (shr .u64 (imul .u64 8 n) (imul .i64 8 (isub .i64 7 (i : Int)))) = lenB n i := by rw [e]; rfl
    rw [e', e, lens_take hi, sel_ilt (by omega), sel_ile (by omega), sel_nle (by omega), sel_nle (by omega), show (1 : Int) = ((1 : Nat) : Int) from rfl, iadd64' (by omega)]) (by
    rw [f22_l17_e]
    simp only []
    rw [sel_ilt' (by omega), List.take_of_length_le (by rw [lens_len]; decide)])
  simpa [f22_l17_m] using this
theorem blocks {Z : List Int} {k : Nat} (hk : 64 * k ≤ Z.length) (hm : Z.length % 64 = 0) (h40 : Z.length ≤ 2199023255552) : f22_l22_m (Z.drop (64 * k)) (hh F0 Z k, 0) = some (hh F0 Z (Z.length / 64)) := by
  have hl : (Z.drop (64 * k)).length = Z.length - 64 * k := by simp
  exact lm_count (t := f22_l22_t (Z.drop (64 * k))) (fun j => (hh F0 Z (k + j), ((64 * j : Nat) : Int))) (Z.length / 64 - k) _ (fun j hj => by
    rw [f22_l22_e]
    simp only [Int.toNat_natCast]
    rw [hl, sel_ilt (by omega), sel_ile (by omega), sel_ile (by omega), sel_nle (by omega), Nat.zero_add, drop64, List.take_of_length_le (by simp; omega), block (by simp; omega)]
    simp only [Option.bind_some]
    rw [show (64 : Int) = ((64 : Nat) : Int) from rfl, iadd64' (by omega)]
    rfl) (by
    rw [f22_l22_e]
    simp only []
    rw [hl, sel_ilt' (by omega), show k + (Z.length / 64 - k) = Z.length / 64 from by omega])
theorem outB_len {h : List Int} : (outB h).length = 32 := by simp [outB]
theorem outB_at {h : List Int} {i : Nat} (hi : i < 32) : (outB h).getD i 0 = outW h i := getD_map_range hi
abbrev Z32 : List Int := [0, 0, 0, 0, 0, 0, 0, 0, 0, 0, 0, 0, 0, 0, 0, 0, 0, 0, 0, 0, 0, 0, 0, 0, 0, 0, 0, 0, 0, 0, 0, 0]
theorem iquo4 {i : Nat} (h : i < 32) : iquo .i64 (i : Int) 4 = ((i / 4 : Nat) : Int) := by
  unfold iquo; rw [IntKind.wrap_i64, Int.tdiv_eq_ediv_of_nonneg (by omega)]; omega
theorem shift8 {i : Nat} : isub .i64 24 (imul .i64 8 (irem (i : Int) 4)) = 24 - 8 * ((i % 4 : Nat) : Int) := by
  rw [show (4 : Int) = ((4 : Nat) : Int) from rfl, irem64, imul64 (by omega) (by omega), isub64 (by omega) (by omega)]
theorem outs {h : List Int} : f22_l27_m h (Z32, 0) = some (outB h) := by
  have := lm_count (t := f22_l27_t h) (fun i => ((outB h).take i ++ List.replicate (32 - i) 0, (i : Int))) 32 (outB h) (fun i hi => by
    rw [f22_l27_e]
    simp only [iquo4 hi, shift8, Int.toNat_natCast, gd_int]
    rw [sel_ilt (by omega), sel_ile (by omega), sel_ilt (by omega), sel_nlt (by omega), sel_ile (by omega), sel_ile (by omega), sel_nlt (by omega)]
    change some (Sum.inl (List.set _ i (outW h i), _)) = _
    rw [← outB_at hi, fill_set outB_len hi, show (1 : Int) = ((1 : Nat) : Int) from rfl, iadd64' (by omega)]) (by
    rw [f22_l27_e]
    simp only []
    rw [sel_ilt' (by omega), List.take_of_length_le (by rw [outB_len]; decide)]
    simp)
  simpa [f22_l27_m] using this
/-- THE DIGEST. -/
theorem sum {ps : List ByteArray} (h40 : (cat ps ps.length).length ≤ 1099511627776) (hp : ps.length ≤ 1152921504606846976) : f22_m ps = some (sha (cat ps ps.length)) := by
  rw [f22_e, outer h40 hp]
  simp only [Option.bind_some, hold_drop]
  have hr := rest_len (T := cat ps ps.length)
  generalize cat ps ps.length = T at *
  have hl : (List.append (T.drop (64 * (T.length / 64))) [(128 : Int)]).length = T.length % 64 + 1 := by
    show (T.drop (64 * (T.length / 64)) ++ [(128 : Int)]).length = _
    rw [List.length_append, hr]; rfl
  rw [sel_nle (hold_le _), sel_nEq hr.symm, hl, sel_nle (by omega), sel_nle (by omega), zeros (by omega)]
  have hz := zs_lt (n := T.length % 64)
  simp only [Option.bind_some]
  rw [lensL (by simp only [List.length_append, List.length_replicate, hr, List.length_singleton]; omega)]
  have e : T.drop (64 * (T.length / 64)) ++ [128] ++ List.replicate (zs (T.drop (64 * (T.length / 64))).length) 0 ++ lens (T.length : Int) = (T ++ pad T.length).drop (64 * (T.length / 64)) := by
    rw [hr, zs_mod, List.append_assoc, List.append_assoc, rest_app]
    simp [pad]
  have e2 : hh F0 T (T.length / 64) = hh F0 (T ++ pad T.length) (T.length / 64) := (hh_app _ (by omega)).symm
  have hZ : (T ++ pad T.length).length = T.length + 9 + zs T.length := by rw [List.length_append, pad_len]; omega
  have h56 := zs_56 (n := T.length)
  have hz2 := zs_lt (n := T.length)
  simp only [Option.bind_some]
  rw [e, e2, blocks (by rw [hZ]; omega) (by rw [hZ]; omega) (by rw [hZ]; omega)]
  simp only [Option.bind_some]
  rw [outs]
  rfl

/-! ### The reference's digest -/
theorem size_nums {s : ByteArray} : s.size = (nums s).length := (nums_len s).symm
theorem str_of {l : List Int} (h : BOk l) {s : ByteArray} (e : nums s = l) : s = strOfNums l := by rw [← e, str_nums]
theorem b128 : BOk [128] := BOk.cons (by decide) BOk.nil
theorem bz (n : Nat) : BOk (List.replicate n 0) := BOk.replicate (by decide)
theorem size_strN {l : List Int} (h : BOk l) : (strOfNums l).size = l.length := by rw [size_nums, nums_str h]
theorem one_strN {x : Int} {A : ByteArray} (hx : nums A = [x]) {l : List Int} (hl : BOk l) : sapp (strOfNums l) A = strOfNums (l ++ [x]) := by
  rw [sapp_str, nums_str hl, hx]
theorem zeros' {n : Int} {T : List Int} (hT : BOk T) (h40 : T.length ≤ 1099511627776) : f20_l3_m n (strOfNums (T ++ [128])) = some (strOfNums (T ++ [128] ++ List.replicate (zs T.length) 0)) := by
  have ok : ∀ i, BOk (T ++ [128] ++ List.replicate i 0) := fun i => (hT.append b128).append (bz i)
  have := lm_count (t := f20_l3_t n) (fun i => strOfNums (T ++ [128] ++ List.replicate i 0)) (zs T.length) (strOfNums (T ++ [128] ++ List.replicate (zs T.length) 0)) (fun i hi => by
    have hz := zs_not hi
    have hz' := zs_lt (n := T.length)
    have hl : (T ++ [128] ++ List.replicate i (0 : Int)).length = T.length + 1 + i := by simp; omega
    rw [f20_l3_e]
    have hs : (strOfNums (T ++ [128] ++ List.replicate i 0)).size = T.length + 1 + i := by rw [size_strN (ok i), hl]
    rw [ssz_eq, hs, show (64 : Int) = ((64 : Nat) : Int) from rfl, irem64, sel_bno, sel_ieq' (by omega), sel_nle (by omega), one_strN (x := 0) (by decide) (ok i), List.append_assoc, ← List.replicate_succ']) (by
    have hz := zs_56 (n := T.length)
    have hl : (T ++ [128] ++ List.replicate (zs T.length) (0 : Int)).length = T.length + 1 + zs T.length := by simp; omega
    have hs : (strOfNums (T ++ [128] ++ List.replicate (zs T.length) 0)).size = T.length + 1 + zs T.length := by rw [size_strN (ok _), hl]
    rw [f20_l3_e]
    rw [ssz_eq, hs, show (64 : Int) = ((64 : Nat) : Int) from rfl, irem64, sel_bno, sel_ieq (by omega)])
  simpa [f20_l3_m] using this
theorem lens_ok {n : Int} : BOk (lens n) := BOk.map fun _ _ => icv8_ok
theorem lensL' {n : Nat} {R : List Int} (hR : BOk R) (h40 : R.length ≤ 2199023255552) : f20_l6_m (imul .u64 (n : Int) 8) (strOfNums R, 7) = some (strOfNums (R ++ lens n)) := by
  have ok : ∀ i, BOk (R ++ (lens (n : Int)).take i) := fun i => hR.append lens_ok.take
  have := lm_count (t := f20_l6_t (imul .u64 (n : Int) 8)) (fun i => (strOfNums (R ++ (lens (n : Int)).take i), 7 - (i : Int))) 8 (strOfNums (R ++ lens n)) (fun i hi => by
    rw [f20_l6_e]
    simp only []
    have e : imul .i64 8 (7 - (i : Int)) = 8 * (7 - (i : Int)) := by rw [imul64 (by omega) (by omega)]
    have hm : imul .u64 (n : Int) 8 = imul .u64 8 (n : Int) := by unfold imul; rw [Int.mul_comm]
    have hl : (R ++ (lens (n : Int)).take i).length ≤ R.length + 8 := by simp; omega
    have e' : icv .u8 (shr .u64 (imul .u64 (n : Int) 8) (8 * (7 - (i : Int)))) = lenB n i := by rw [hm]; rfl
    have ob : BOk [lenB n i] := BOk.cons icv8_ok BOk.nil
    rw [e, e', sel_ile (by omega), sel_ile (by omega), sel_nle (by rw [size_strN (ok i), size_strN ob]; simp only [List.length_singleton]; omega), one_strN (nums_str ob) (ok i)]
    have := lens_take (n := (n : Int)) (R := R) hi
    rw [show List.append (R ++ (lens (n : Int)).take i) [lenB n i] = R ++ (lens (n : Int)).take i ++ [lenB n i] from rfl] at this
    rw [this, isub64 (by omega) (by omega)]
    congr 3
    omega) (by
    rw [f20_l6_e]
    simp only []
    rw [sel_ile' (by omega), List.take_of_length_le (by rw [lens_len]; decide)])
  simpa [f20_l6_m] using this
theorem cut64 {Z : List Int} (hZ : BOk Z) {a : Nat} : nums (scut (strOfNums Z) a (a + 64)) = (Z.drop a).take 64 := by
  rw [nums_cut, nums_str hZ, List.drop_take, show a + 64 - a = 64 from by omega]
theorem blocks' {Z : List Int} (hZ : BOk Z) (hm : Z.length % 64 = 0) (h40 : Z.length ≤ 2199023255552) : f20_l11_m (strOfNums Z) (F0, 0) = some (hh F0 Z (Z.length / 64)) := by
  exact lm_count (t := f20_l11_t (strOfNums Z)) (fun j => (hh F0 Z j, ((64 * j : Nat) : Int))) (Z.length / 64) _ (fun j hj => by
    rw [f20_l11_e]
    simp only [ssz_eq, size_strN hZ]
    rw [show (64 : Int) = ((64 : Nat) : Int) from rfl, iadd64' (by omega)]
    simp only [Int.toNat_natCast]
    rw [sel_ilt (by omega), sel_ile (by omega), sel_ile (by omega), sel_ile (by omega), block' (by rw [cut64 hZ]; simp; omega), cut64 hZ, comp_take (Nat.le_refl _)]
    simp only [Option.bind_some]
    rfl) (by
    rw [f20_l11_e]
    simp only [ssz_eq, size_strN hZ]
    rw [sel_ilt' (by omega)])
theorem outs' {h : List Int} : f20_l16_m h (Z32, 0) = some (outB h) := by
  have := lm_count (t := f20_l16_t h) (fun i => ((outB h).take i ++ List.replicate (32 - i) 0, (i : Int))) 32 (outB h) (fun i hi => by
    rw [f20_l16_e]
    simp only [iquo4 hi, shift8, Int.toNat_natCast, gd_int]
    rw [sel_ilt (by omega), sel_ile (by omega), sel_ilt (by omega), sel_nlt (by omega), sel_ile (by omega), sel_ile (by omega), sel_nlt (by omega)]
    change some (Sum.inl (List.set _ i (outW h i), _)) = _
    rw [← outB_at hi, fill_set outB_len hi, show (1 : Int) = ((1 : Nat) : Int) from rfl, iadd64' (by omega)]) (by
    rw [f20_l16_e]
    simp only []
    rw [sel_ilt' (by omega), List.take_of_length_le (by rw [outB_len]; decide)]
    simp)
  simpa [f20_l16_m] using this
theorem sum' {s : ByteArray} (h40 : (nums s).length ≤ 1099511627776) : f20_m s = some (sha (nums s)) := by
  have hb := nums_ok s
  rw [f20_e, ssz_eq, size_nums, icvu (by omega)]
  have e : sapp s (ByteArray.mk #[128]) = strOfNums (nums s ++ [128]) := by rw [sapp_str]; congr 1
  rw [e]
  generalize nums s = T at *
  have hz := zs_lt (n := T.length)
  have h56 := zs_56 (n := T.length)
  have hZ : (T ++ pad T.length).length = T.length + 9 + zs T.length := by rw [List.length_append, pad_len]; omega
  have e2 : T ++ [128] ++ List.replicate (zs T.length) 0 ++ lens (T.length : Int) = T ++ pad T.length := by simp [pad]
  have hZb : BOk (T ++ pad T.length) := by rw [← e2]; exact ((hb.append b128).append (bz _)).append lens_ok
  rw [sel_nle (by omega), zeros' hb h40]
  simp only [Option.bind_some]
  rw [lensL' ((hb.append b128).append (bz _)) (by simp; omega)]
  simp only [Option.bind_some]
  rw [e2, blocks' hZb (by rw [hZ]; omega) (by rw [hZ]; omega)]
  simp only [Option.bind_some]
  rw [outs']
  rfl
theorem ok4 {l : List Int} {a b c d : Int} (h : l.take 4 = [a, b, c, d]) (A : ByteArray) (ha : nums A = [a, b, c, d]) : strOfNums ((l.drop 0).take 4) = A := by
  rw [List.drop_zero, h, ← ha, str_nums]
/-! ### The helpers -/
theorem long {ps : List ByteArray} {m : Nat} (hm : m < 4294967296) (hp : ps.length ≤ maxLen) (hz : ∀ i, i < ps.length → (ps.getD i (ByteArray.mk #[])).size ≤ maxLen) : ∃ b, f7_m ps m = some b ∧ (b = false → (cat ps ps.length).length ≤ m) := by
  obtain ⟨y, h1, h2⟩ := lm_inv (t := f7_l2_t ps) (fun x => ∃ i, i ≤ ps.length ∧ (cat ps i).length ≤ m ∧ x = ((m : Int) - ((cat ps i).length : Int), (i : Int))) (fun x => ps.length - x.2.toNat) (fun y => (∀ z, y = .inr z → (cat ps ps.length).length ≤ m)) (fun x hx => by
    obtain ⟨i, h1, h2, rfl⟩ := hx
    rw [f7_l2_e]
    simp only [gd_str, Int.toNat_natCast]
    by_cases h : i < ps.length
    · rw [sel_ilt (by rw [llen_eq]; omega), sel_ile (by omega)]
      have hc : (cat ps (i + 1)).length = (cat ps i).length + (nums (ps.getD i (ByteArray.mk #[]))).length := by rw [cat, List.length_append]
      have hz' := hz i h
      unfold maxLen at hz' hp
      rw [ssz_eq]
      rw [size_nums] at hz' ⊢
      by_cases k : (m : Int) - ((cat ps i).length : Int) < ((nums (ps.getD i (ByteArray.mk #[]))).length : Int)
      · rw [sel_ilt k]
        exact .inr ⟨_, rfl, fun z hz => by cases hz⟩
      · rw [sel_ilt' (by omega), isub64 (by omega) (by omega), iadd64 (by omega) (by omega)]
        refine .inl ⟨_, rfl, ⟨i + 1, by omega, by omega, ?_⟩, by simp only []; omega⟩
        rw [hc]
        congr 1
        omega
    · rw [sel_ilt' (by rw [llen_eq]; omega)]
      have : i = ps.length := by omega
      subst this
      exact .inr ⟨_, rfl, fun z hz => h2⟩) (x := (m, 0)) ⟨0, by omega, by simp [cat], by simp [cat]⟩
  rw [f7_e, show f7_l2_m ps (m, 0) = some y from h1]
  cases y with
  | inl z => exact ⟨true, rfl, fun h => by cases h⟩
  | inr z => exact ⟨false, rfl, fun _ => h2 z rfl⟩
theorem lieq_self {l : List Int} : lieq l l = true := lieq_t.2 rfl
theorem seq_self {A : ByteArray} : seq A A = true := by rw [seq_nums]; simp
theorem texts {a b : List ByteArray} (hp : a.length ≤ 1152921504606846976) : f19_m a b = some (decide (a = b)) := by
  rw [f19_e, sel_bno]
  by_cases hl : a.length = b.length
  · rw [sel_ieq (by rw [llen_eq, llen_eq, hl])]
    have key := eq_rounds (t := f19_l4_t a b) (fun i => (i : Int)) a.length (fun i => a.getD i (ByteArray.mk #[]) = b.getD i (ByteArray.mk #[])) (.inl ()) (.inr ()) (fun i hi _ he => by
      rw [f19_l4_e]
      simp only [gd_str, Int.toNat_natCast]
      rw [sel_ilt (by rw [llen_eq]; omega), sel_ile (by omega), sel_ilt (by rw [llen_eq]; omega), he, seq_self, sel_bno, sel_tt, show (1 : Int) = ((1 : Nat) : Int) from rfl, iadd64' (by omega)]) (fun i hi _ he => by
      rw [f19_l4_e]
      simp only [gd_str, Int.toNat_natCast]
      rw [sel_ilt (by rw [llen_eq]; omega), sel_ile (by omega), sel_ilt (by rw [llen_eq]; omega), seq_nums, decide_eq_false (fun h => he (nums_inj h)), sel_bno, sel_ff]) (fun _ => by
      rw [f19_l4_e]
      rw [sel_ilt' (by rw [llen_eq]; omega)])
    by_cases h : ∀ i, i < a.length → a.getD i (ByteArray.mk #[]) = b.getD i (ByteArray.mk #[])
    · rw [show f19_l4_m a b 0 = some (.inr ()) from key.1 h, decide_eq_true (list_ext_getD' _ hl h)]
      rfl
    · rw [show f19_l4_m a b 0 = some (.inl ()) from key.2 h, decide_eq_false (fun e => h (fun i _ => by rw [e]))]
      rfl
  · rw [sel_ieq' (by rw [llen_eq, llen_eq]; omega), decide_eq_false (fun e => hl (by rw [e]))]
theorem cat_ok {ps : List ByteArray} : ∀ i, BOk (cat ps i)
  | 0 => BOk.nil
  | i + 1 => by rw [cat]; exact (cat_ok i).append (nums_ok _)

theorem sum1 {s : ByteArray} (h : (nums s).length ≤ 1099511627776) : f22_m [s] = some (sha (nums s)) := by
  have e : cat [s] [s].length = nums s := by simp [cat]
  have := sum (ps := [s]) (by rw [e]; exact h) (by simp)
  rwa [e] at this
end Go.Proofs.YtnngdpaeiafnlaaDoor
