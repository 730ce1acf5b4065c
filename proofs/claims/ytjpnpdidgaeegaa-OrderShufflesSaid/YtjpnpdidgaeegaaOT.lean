/- A part of the proof that the laws of this seat hold for every input; no conditions of its own. -/
import Derived.Test.YtjpnpdidgaeegaaOA
import Derived.Test.YtjpnpdidgaeegaaV0
open Go Vam Vam.Pg Go.Proofs
set_option linter.unusedVariables false
set_option linter.unusedSimpArgs false
namespace Go.Proofs.Ytjpnpdidgaeegaa
/-! ### Tapes: what is taken -/
def tk (T : List Int) (at' : Nat) (n : Nat) : List Int := (List.range n).map fun i => T.getD (at' + i) 0
theorem tk_len {T : List Int} {a n : Nat} : (tk T a n).length = n := by simp [tk]
theorem tk_get {T : List Int} {a n i : Nat} (h : i < n) : (tk T a n).getD i 0 = T.getD (a + i) 0 := getD_map_range h
theorem tk_ok {T : List Int} {a n : Nat} (h : BOk T) : BOk (tk T a n) := BOk.map fun _ _ => h.getD
theorem over_tk {T : List Int} {a n : Nat} (hn : (T.drop a).length ≤ n) : over (List.replicate n (0 : Int)) 0 (T.drop a) = tk T a n := by
  apply list_ext_getD
  · simp only [over, List.take_zero, List.nil_append, List.length_append, List.length_drop, List.length_replicate, tk_len, Nat.zero_add]
    rw [List.length_drop] at hn; omega
  · intro i hi
    rw [List.length_drop] at hn
    have hi : i < n := by
      simp only [over, List.take_zero, List.nil_append, List.length_append, List.length_drop, List.length_replicate, Nat.zero_add] at hi; omega
    rw [tk_get hi]
    unfold over
    rw [List.take_zero, List.nil_append]
    rcases Nat.lt_or_ge i (T.drop a).length with h | h
    · rw [getD_app_l h, getD_drop]
    · rw [getD_app_r h, getD_drop, List.length_drop]
      rw [List.length_drop] at h
      have e : (List.replicate n (0 : Int)).getD (0 + (T.length - a) + (i - (T.length - a))) 0 = 0 := by
        simp [List.getD_eq_getElem?_getD, List.getElem?_replicate]; split <;> rfl
      rw [e, getD_ge (by omega)]
theorem over_tk' {T : List Int} {a n : Nat} (hn : n ≤ (T.drop a).length) : over (List.replicate n (0 : Int)) 0 ((T.drop a).take n) = tk T a n := by
  apply list_ext_getD
  · simp only [over, List.take_zero, List.nil_append, List.length_append, List.length_drop, List.length_replicate, List.length_take, tk_len, Nat.zero_add]
    rw [List.length_drop] at hn; omega
  · intro i hi
    rw [List.length_drop] at hn
    have hi : i < n := by
      simp only [over, List.take_zero, List.nil_append, List.length_append, List.length_drop, List.length_take, List.length_replicate, Nat.zero_add] at hi; omega
    rw [tk_get hi]
    unfold over
    rw [List.take_zero, List.nil_append, getD_app_l (by rw [List.length_take, List.length_drop]; omega), getD_take hi, getD_drop]
theorem tk_past {T : List Int} {a n : Nat} (h : T.length ≤ a) : tk T a n = List.replicate n 0 := by
  apply list_ext_getD
  · simp [tk_len]
  · intro i hi
    rw [tk_len] at hi
    rw [tk_get hi, getD_ge (by omega)]
    simp [List.getD_eq_getElem?_getD, List.getElem?_replicate, hi]
theorem take_m {s : ByteArray} {a : Nat} {n : Int} (h0 : 0 ≤ n) (h1 : n ≤ 65536) (h2 : (a : Int) + n < 9223372036854775808) (hs : s.size < 9223372036854775808) :
    f23_m s (a : Int) n = some (((a + n.toNat : Nat) : Int), strOfNums (tk (nums s) a n.toNat)) := by
  obtain ⟨k, rfl⟩ := Int.eq_ofNat_of_zero_le h0
  have hT := nums_len s
  rw [f23_e, sel_ilt' (by omega), sel_ilt' (by omega), sel_ile (by omega), sel_ile (show Int.mul 1 (k : Int) ≤ _ from by rw [show Int.mul 1 (k : Int) = k from Int.one_mul _]; omega)]
  simp only [Int.toNat_natCast, Nat.zero_add, List.drop_zero]
  have ei : iadd .i64 (a : Int) (k : Int) = ((a + k : Nat) : Int) := by rw [iadd64 (by omega) (by omega)]; omega
  have ec : nums (scut s a s.size) = (nums s).drop a := by rw [nums_cut, List.take_of_length_le (by omega)]
  rw [ssz_eq, ec, ei]
  rcases Int.lt_or_le (a : Int) (s.size : Int) with h | h
  · rw [sel_ilt h, sel_ile (by omega), sel_ile (by omega), sel_nle (by rw [List.length_replicate]; omega)]
    rcases Nat.lt_or_ge k ((nums s).drop a).length with h3 | h3
    · rw [sel_nle' h3, over_tk' (by omega), sel_nle (by rw [tk_len]; omega), List.take_of_length_le (by rw [tk_len]; omega)]
    · rw [sel_nle h3, over_tk h3, sel_nle (by rw [tk_len]; omega), List.take_of_length_le (by rw [tk_len]; omega)]
  · rw [sel_ilt' h, sel_nle (by rw [List.length_replicate]; omega), List.take_of_length_le (by rw [List.length_replicate]; omega), tk_past (by omega)]
theorem take_no {s : ByteArray} {a n : Int} (h : n < 0 ∨ 65536 < n) : f23_m s a n = some (a, ByteArray.mk #[]) := by
  rw [f23_e]
  rcases h with h | h
  · rw [sel_ilt h]
  · rw [sel_ilt' (by omega), sel_ilt h]
theorem take_no' {s : ByteArray} {a n : Int} (h : n < 0 ∨ 65536 < n) : f24_m s a n = some (a, ByteArray.mk #[]) := by
  rw [f24_e]
  rcases h with h | h
  · rw [sel_ilt h]
  · rw [sel_ilt' (by omega), sel_ilt h]
def tkF (T : List Int) (a k i : Nat) : List Int := (tk T a k).take i ++ List.replicate (k - i) 0
theorem take_m' {s : ByteArray} {a : Nat} {n : Int} (h0 : 0 ≤ n) (h1 : n ≤ 65536) (h2 : (a : Int) + n < 9223372036854775808) (hs : s.size < 9223372036854775808) :
    f24_m s (a : Int) n = some (((a + n.toNat : Nat) : Int), strOfNums (tk (nums s) a n.toNat)) := by
  obtain ⟨k, rfl⟩ := Int.eq_ofNat_of_zero_le h0
  have hT := nums_len s
  rw [f24_e, sel_ilt' (by omega), sel_ilt' (by omega), sel_ile (by omega), sel_ile (show Int.mul 1 (k : Int) ≤ _ from by rw [show Int.mul 1 (k : Int) = k from Int.one_mul _]; omega)]
  simp only [Int.toNat_natCast, Nat.zero_add, List.drop_zero]
  have h := lm_count (t := f24_l5_t (k : Int) k s) (fun i => (((a + i : Nat) : Int), tkF (nums s) a k i, (i : Int))) k (((a + k : Nat) : Int), tk (nums s) a k) (fun i hi => by
    rw [f24_l5_e]
    have e := fill_set (@tk_len (nums s) a k) hi
    rw [tk_get hi] at e
    have hl : (tkF (nums s) a k i).length = k := by unfold tkF; rw [List.length_append, List.length_take, tk_len, List.length_replicate]; omega
    simp only [Nat.zero_add, Int.toNat_natCast]
    rw [sel_ilt (by omega), ssz_eq, iadd64 (a := ((a + i : Nat) : Int)) (by omega) (by omega), iadd64 (a := (i : Int)) (by omega) (by omega)]
    rcases Int.lt_or_le ((a + i : Nat) : Int) (s.size : Int) with h | h
    · rw [sel_ilt h, sel_ile (by omega), sel_ile (by omega), sel_ilt (by omega), sel_nlt (by omega), bt_nums, Int.toNat_natCast]
      unfold tkF
      rw [e]
      rfl
    · rw [sel_ilt' h]
      have : tkF (nums s) a k i = tkF (nums s) a k (i + 1) := by
        unfold tkF
        rw [← e, getD_ge (by omega)]
        apply list_ext_getD
        · simp
        · intro j hj
          rw [getD_set]
          split
          · rename_i hj'
            obtain ⟨rfl, hj2⟩ := hj'
            rw [getD_app_r (by rw [List.length_take, tk_len]; omega)]
            simp [List.getD_eq_getElem?_getD, List.getElem?_replicate]; split <;> rfl
          · rfl
      rw [this]
      rfl) (by
      rw [f24_l5_e]
      simp only []
      rw [sel_ilt' (by omega)]
      unfold tkF
      rw [List.take_of_length_le (by rw [tk_len]; exact Nat.le_refl _), Nat.sub_self, List.replicate_zero, List.append_nil])
  have h : f24_l5_m (k : Int) k s ((a : Int), List.replicate k 0, 0) = _ := h
  rw [h, Option.bind_some]
  simp only []
  rw [sel_nle (by rw [tk_len]; omega), List.take_of_length_le (by rw [tk_len]; omega)]

/-! ### A number below another one -/
def word2 (T : List Int) (a : Nat) : Int := T.getD a 0 + 256 * T.getD (a + 1) 0
def tryN (T : List Int) (n : Int) : Nat → Nat → Nat × Int × Int
  | 0, a => (a, 0, 3)
  | k + 1, a => if word2 T a < 65536 - 65536 % n then (a + 2, word2 T a % n, 0) else tryN T n k (a + 2)
def below (T : List Int) (n tries : Int) (a : Nat) : Nat × Int × Int :=
  if 1 ≤ n ∧ n ≤ 65536 ∧ 1 ≤ tries ∧ tries ≤ 16 then tryN T n tries.toNat a else (a, 0, 1)
theorem word2_range {T : List Int} (h : BOk T) {a : Nat} : 0 ≤ word2 T a ∧ word2 T a < 65536 := by
  have h1 := h.getD (n := a)
  have h2 := h.getD (n := a + 1)
  unfold word2; omega
theorem tryN_at {T : List Int} {n : Int} : ∀ {k a : Nat}, a ≤ (tryN T n k a).1 ∧ (tryN T n k a).1 ≤ a + 2 * k := by
  intro k
  induction k with
  | zero => intro a; simp [tryN]
  | succ k ih =>
    intro a
    unfold tryN
    split
    · simp only []; omega
    · have := @ih (a + 2); omega
theorem ior_bytes {x y : Int} (hx : 0 ≤ x ∧ x < 256) (hy : 0 ≤ y ∧ y < 256) : ior .i64 (icv .i64 x) (shl .i64 (icv .i64 y) 8) = x + 256 * y := by
  rw [icv64 (by omega) (by omega), icv64 (by omega) (by omega)]
  have e : shl .i64 y 8 = 256 * y := by
    unfold shl
    rw [IntKind.wrap_i64]
    have : (2 : Int) ^ (min (8 : Int).toNat IntKind.i64.bits) = 256 := by decide
    rw [this]; omega
  rw [e]
  have := bits_join .i64 63 (by decide) (fun n h0 h1 => by rw [IntKind.wrap_i64]; omega) 8 (256 * y) x (by omega) (by omega) (by omega) (by omega) (by omega) (by omega)
  have e2 : ior .i64 x (256 * y) = ior .i64 (256 * y) x := by
    obtain ⟨m, hm⟩ := Int.eq_ofNat_of_zero_le hx.1
    obtain ⟨n, hn⟩ := Int.eq_ofNat_of_zero_le (show 0 ≤ 256 * y from by omega)
    rw [hn, hm]
    unfold ior
    rw [(bits_nat .i64 63 (by decide) (fun n h0 h1 => by rw [IntKind.wrap_i64]; omega) m n (by omega) (by omega)).2, (bits_nat .i64 63 (by decide) (fun n h0 h1 => by rw [IntKind.wrap_i64]; omega) n m (by omega) (by omega)).2, Nat.or_comm]
  rw [e2]
  unfold ior
  rw [this]; omega
theorem below_m {s : ByteArray} {a : Nat} {n tries : Int} (ha : a < 4611686018427387904) (hs : s.size < 9223372036854775808) :
    f19_m s (a : Int) n tries = some ((((below (nums s) n tries a).1 : Nat) : Int), (below (nums s) n tries a).2.1, (below (nums s) n tries a).2.2) := by
  rw [f19_e]
  unfold below
  rcases Int.lt_or_le n 1 with h | h1
  · rw [sel_ilt h, if_neg (by omega)]
  rw [sel_ilt' h1]
  rcases Int.lt_or_le 65536 n with h | h2
  · rw [sel_ilt h, if_neg (by omega)]
  rw [sel_ilt' h2, f22_e]
  rcases Int.lt_or_le tries 1 with h | h3
  · rw [sel_ile' h, if_neg (by omega), Option.bind_some]; rfl
  rw [sel_ile h3, Option.bind_some, sel_bno]
  rcases Int.lt_or_le 16 tries with h | h4
  · rw [sel_ile' h, if_neg (by omega)]
  rw [sel_ile h4, if_pos ⟨h1, h2, h3, h4⟩]
  obtain ⟨k, rfl⟩ := Int.eq_ofNat_of_zero_le (show 0 ≤ tries from by omega)
  have key : ∀ (r j b : Nat), j + r = k → b < 4611686018427387904 + 2 * j → f19_l4_m n (k : Int) s ((b : Int), (j : Int)) = some (if (tryN (nums s) n r b).2.2 = 0 then Sum.inl ((tryN (nums s) n r b).2.1, (((tryN (nums s) n r b).1 : Nat) : Int)) else Sum.inr (((tryN (nums s) n r b).1 : Nat) : Int)) := by
    intro r
    induction r with
    | zero =>
      intro j b hj hb
      exact lm_out (by rw [f19_l4_e]; simp only []; rw [sel_ilt' (by omega)]; rfl)
    | succ r ih =>
      intro j b hj hb
      have hw := word2_range (nums_ok s) (a := b)
      have hst : mod (f19_l4_t n (k : Int) s ((b : Int), (j : Int))) = if word2 (nums s) b < 65536 - 65536 % n then some (.inr (.inl (word2 (nums s) b % n, ((b + 2 : Nat) : Int)))) else some (.inl (((b + 2 : Nat) : Int), ((j + 1 : Nat) : Int))) := by
        rw [f19_l4_e]
        simp only []
        rw [sel_ilt (by omega), take_m (by omega) (by omega) (by omega) hs, Option.bind_some]
        simp only []
        have e2 : (2 : Int).toNat = 2 := rfl
        have hz : ssz (strOfNums (tk (nums s) b (2 : Int).toNat)) = 2 := by rw [ssz_eq, size_str, tk_len]; rfl
        rw [hz, sel_ilt (by decide), sel_ilt (by decide), sel_bno, sel_ieq' (by omega)]
        have b0 : bt (strOfNums (tk (nums s) b (2 : Int).toNat)) 0 = (nums s).getD b 0 := by rw [bt_nums, nums_str (tk_ok (nums_ok s)), e2]; exact tk_get (by decide)
        have b1 : bt (strOfNums (tk (nums s) b (2 : Int).toNat)) 1 = (nums s).getD (b + 1) 0 := by rw [bt_nums, nums_str (tk_ok (nums_ok s)), e2]; exact tk_get (by decide)
        rw [b0, b1, ior_bytes (nums_ok s).getD (nums_ok s).getD]
        have em : irem 65536 n = 65536 % n := by unfold irem; rw [Int.tmod_eq_emod_of_nonneg (by omega)]
        have em2 : irem ((nums s).getD b 0 + 256 * (nums s).getD (b + 1) 0) n = word2 (nums s) b % n := by show Int.tmod (word2 (nums s) b) n = _; rw [Int.tmod_eq_emod_of_nonneg hw.1]
        have hmod := Int.emod_lt_of_pos 65536 (show 0 < n from by omega)
        have hmod0 := Int.emod_nonneg 65536 (show n ≠ 0 from by omega)
        rw [em, em2, isub64 (by omega) (by omega), iadd64 (by omega) (by omega)]
        show sel (ilt (word2 (nums s) b) _) _ _ = _
        split
        · rename_i h; rw [sel_ilt h]; rfl
        · rename_i h; rw [sel_ilt' (by omega)]; rfl
      unfold tryN
      split
      · rename_i h
        rw [if_pos h] at hst
        rw [if_pos rfl]
        exact lm_out hst
      · rename_i h
        rw [if_neg h] at hst
        rw [← ih (j + 1) (b + 2) (by omega) (by omega)]
        exact lm_next hst
  have := key k 0 a (by omega) (by omega)
  rw [show ((0 : Nat) : Int) = 0 from rfl] at this
  rw [this, Option.bind_some, Int.toNat_natCast]
  have h03 : ∀ (r b : Nat), (tryN (nums s) n r b).2.2 = 0 ∨ ((tryN (nums s) n r b).2.2 = 3 ∧ (tryN (nums s) n r b).2.1 = 0) := by
    intro r
    induction r with
    | zero => intro b; exact .inr ⟨rfl, rfl⟩
    | succ r ih =>
      intro b
      unfold tryN
      split
      · exact .inl rfl
      · exact ih _
  rcases h03 k a with h | ⟨h, h'⟩
  · rw [if_pos h, h]; rfl
  · rw [if_neg (by rw [h]; decide), h, h']; rfl
theorem radd_bytes {x y : Int} (hx : 0 ≤ x ∧ x < 256) (hy : 0 ≤ y ∧ y < 256) : iadd .i64 (icv .i64 x) (imul .i64 256 (icv .i64 y)) = x + 256 * y := by
  rw [icv64 (by omega) (by omega), icv64 (by omega) (by omega), imul64 (by omega) (by omega), iadd64 (by omega) (by omega)]
theorem below_m' {s : ByteArray} {a : Nat} {n tries : Int} (ha : a < 4611686018427387904) (hs : s.size < 9223372036854775808) :
    f21_m s (a : Int) n tries = some ((((below (nums s) n tries a).1 : Nat) : Int), (below (nums s) n tries a).2.1, (below (nums s) n tries a).2.2) := by
  rw [f21_e]
  unfold below
  rcases Int.lt_or_le n 1 with h | h1
  · rw [sel_ilt h, if_neg (by omega)]
  rw [sel_ilt' h1]
  rcases Int.lt_or_le 65536 n with h | h2
  · rw [sel_ilt h, if_neg (by omega)]
  rw [sel_ilt' h2, f20_e]
  rcases Int.lt_or_le tries 1 with h | h3
  · rw [sel_ile' h, if_neg (by omega), Option.bind_some]; rfl
  rw [sel_ile h3, Option.bind_some, sel_bno]
  rcases Int.lt_or_le 16 tries with h | h4
  · rw [sel_ile' h, if_neg (by omega)]
  rw [sel_ile h4, if_pos ⟨h1, h2, h3, h4⟩]
  obtain ⟨k, rfl⟩ := Int.eq_ofNat_of_zero_le (show 0 ≤ tries from by omega)
  have key : ∀ (r j b : Nat), j + r = k → b < 4611686018427387904 + 2 * j → f21_l4_m n (k : Int) s ((b : Int), (j : Int)) = some (if (tryN (nums s) n r b).2.2 = 0 then Sum.inl ((tryN (nums s) n r b).2.1, (((tryN (nums s) n r b).1 : Nat) : Int)) else Sum.inr (((tryN (nums s) n r b).1 : Nat) : Int)) := by
    intro r
    induction r with
    | zero =>
      intro j b hj hb
      exact lm_out (by rw [f21_l4_e]; simp only []; rw [sel_ilt' (by omega)]; rfl)
    | succ r ih =>
      intro j b hj hb
      have hw := word2_range (nums_ok s) (a := b)
      have hst : mod (f21_l4_t n (k : Int) s ((b : Int), (j : Int))) = if word2 (nums s) b < 65536 - 65536 % n then some (.inr (.inl (word2 (nums s) b % n, ((b + 2 : Nat) : Int)))) else some (.inl (((b + 2 : Nat) : Int), ((j + 1 : Nat) : Int))) := by
        rw [f21_l4_e]
        simp only []
        rw [sel_ilt (by omega), take_m' (by omega) (by omega) (by omega) hs, Option.bind_some]
        simp only []
        have e2 : (2 : Int).toNat = 2 := rfl
        have hz : ssz (strOfNums (tk (nums s) b (2 : Int).toNat)) = 2 := by rw [ssz_eq, size_str, tk_len]; rfl
        rw [hz, sel_ilt (by decide), sel_ilt (by decide), sel_bno, sel_ieq' (by omega)]
        have b0 : bt (strOfNums (tk (nums s) b (2 : Int).toNat)) 0 = (nums s).getD b 0 := by rw [bt_nums, nums_str (tk_ok (nums_ok s)), e2]; exact tk_get (by decide)
        have b1 : bt (strOfNums (tk (nums s) b (2 : Int).toNat)) 1 = (nums s).getD (b + 1) 0 := by rw [bt_nums, nums_str (tk_ok (nums_ok s)), e2]; exact tk_get (by decide)
        rw [b0, b1, radd_bytes (nums_ok s).getD (nums_ok s).getD]
        have em : irem 65536 n = 65536 % n := by unfold irem; rw [Int.tmod_eq_emod_of_nonneg (by omega)]
        have em2 : irem ((nums s).getD b 0 + 256 * (nums s).getD (b + 1) 0) n = word2 (nums s) b % n := by show Int.tmod (word2 (nums s) b) n = _; rw [Int.tmod_eq_emod_of_nonneg hw.1]
        have hmod := Int.emod_lt_of_pos 65536 (show 0 < n from by omega)
        have hmod0 := Int.emod_nonneg 65536 (show n ≠ 0 from by omega)
        rw [em, em2, isub64 (by omega) (by omega), iadd64 (by omega) (by omega)]
        show sel (ilt (word2 (nums s) b) _) _ _ = _
        split
        · rename_i h; rw [sel_ilt h]; rfl
        · rename_i h; rw [sel_ilt' (by omega)]; rfl
      unfold tryN
      split
      · rename_i h
        rw [if_pos h] at hst
        rw [if_pos rfl]
        exact lm_out hst
      · rename_i h
        rw [if_neg h] at hst
        rw [← ih (j + 1) (b + 2) (by omega) (by omega)]
        exact lm_next hst
  have := key k 0 a (by omega) (by omega)
  rw [show ((0 : Nat) : Int) = 0 from rfl] at this
  rw [this, Option.bind_some, Int.toNat_natCast]
  have h03 : ∀ (r b : Nat), (tryN (nums s) n r b).2.2 = 0 ∨ ((tryN (nums s) n r b).2.2 = 3 ∧ (tryN (nums s) n r b).2.1 = 0) := by
    intro r
    induction r with
    | zero => intro b; exact .inr ⟨rfl, rfl⟩
    | succ r ih =>
      intro b
      unfold tryN
      split
      · exact .inl rfl
      · exact ih _
  rcases h03 k a with h | ⟨h, h'⟩
  · rw [if_pos h, h]; rfl
  · rw [if_neg (by rw [h]; decide), h, h']; rfl
end Go.Proofs.Ytjpnpdidgaeegaa
