/- A part of the proof that the laws of this seat hold for every input; no conditions of its own. -/
import Derived.Test.YtjpnpdidgaeegaaOT
open Go Vam Vam.Pg Go.Proofs
set_option linter.unusedVariables false
set_option linter.unusedSimpArgs false
namespace Go.Proofs.Ytjpnpdidgaeegaa
/-! ### Lists held against each other -/
theorem ints {a b : List Int} (ha : a.length < 1000000) : f12_m a b = some (decide (a = b)) := by
  rw [f12_e, llen_eq, llen_eq, sel_bno]
  by_cases hl : a.length = b.length
  · rw [sel_ieq (by omega)]
    have := eq_rounds (t := f12_l4_t a b) (fun i => (i : Int)) a.length (fun i => a.getD i 0 = b.getD i 0) (.inl ()) (.inr ()) (fun i hi _ he => by
        rw [f12_l4_e, llen_eq, llen_eq, sel_ilt (by omega), sel_ile (by omega), sel_ilt (by omega), sel_bno, gd_int, gd_int, Int.toNat_natCast, sel_ieq he, iadd64 (by omega) (by omega)]; rfl)
      (fun i hi _ he => by
        rw [f12_l4_e, llen_eq, llen_eq, sel_ilt (by omega), sel_ile (by omega), sel_ilt (by omega), sel_bno, gd_int, gd_int, Int.toNat_natCast, sel_ieq' he])
      (fun _ => by rw [f12_l4_e, llen_eq, sel_ilt' (by omega)])
    by_cases h : ∀ i, i < a.length → a.getD i 0 = b.getD i 0
    · have h1 : f12_l4_m a b 0 = some (.inr ()) := this.1 h
      rw [h1, decide_eq_true (list_ext_getD hl h)]; rfl
    · have h1 : f12_l4_m a b 0 = some (.inl ()) := this.2 h
      rw [h1, decide_eq_false (fun e => h (fun i _ => by rw [e]))]; rfl
  · rw [sel_ieq' (by omega), decide_eq_false (fun e => hl (by rw [e]))]
theorem bas_ext {a b : List ByteArray} (h : a.length = b.length) (hi : ∀ i, i < a.length → gd .str a i = gd .str b i) : a = b := by
  apply List.ext_getElem h
  intro i h1 h2
  have := hi i h1
  rwa [gd_lt (e := .str) h1, gd_lt (e := .str) h2] at this
theorem texts {a b : List ByteArray} (ha : a.length < 1000000) : f13_m a b = some (decide (a = b)) := by
  rw [f13_e, llen_eq, llen_eq, sel_bno]
  by_cases hl : a.length = b.length
  · rw [sel_ieq (by omega)]
    have := eq_rounds (t := f13_l4_t a b) (fun i => (i : Int)) a.length (fun i => gd .str a i = gd .str b i) (.inl ()) (.inr ()) (fun i hi _ he => by
        rw [f13_l4_e, llen_eq, llen_eq, sel_ilt (by omega), sel_ile (by omega), sel_ilt (by omega), sel_bno, Int.toNat_natCast, sel_t (seq_t.2 he), iadd64 (by omega) (by omega)]; rfl)
      (fun i hi _ he => by
        rw [f13_l4_e, llen_eq, llen_eq, sel_ilt (by omega), sel_ile (by omega), sel_ilt (by omega), sel_bno, Int.toNat_natCast, sel_f (seq_f.2 he)])
      (fun _ => by rw [f13_l4_e, llen_eq, sel_ilt' (by omega)])
    by_cases h : ∀ i, i < a.length → gd .str a i = gd .str b i
    · have h1 : f13_l4_m a b 0 = some (.inr ()) := this.1 h
      rw [h1, decide_eq_true (bas_ext hl h)]; rfl
    · have h1 : f13_l4_m a b 0 = some (.inl ()) := this.2 h
      rw [h1, decide_eq_false (fun e => h (fun i _ => by rw [e]))]; rfl
  · rw [sel_ieq' (by omega), decide_eq_false (fun e => hl (by rw [e]))]

/-! ### Shuffles -/
def swap (l : List Int) (i j : Nat) : List Int := (l.set i (l.getD j 0)).set j (l.getD i 0)
theorem swap_len {l : List Int} {i j : Nat} : (swap l i j).length = l.length := by simp [swap]
theorem swap_get {l : List Int} {i j k : Nat} (hi : i < l.length) (hj : j < l.length) : (swap l i j).getD k 0 = l.getD (if k = j then i else if k = i then j else k) 0 := by
  unfold swap
  rw [getD_set, getD_set, List.length_set]
  by_cases h1 : k = j
  · subst h1; simp [hj]
  · by_cases h2 : k = i
    · subst h2; simp [hi, h1, Ne.symm h1]
    · simp [h1, h2, Ne.symm h1, Ne.symm h2]
def iota (n : Nat) : List Int := (List.range n).map fun (i : Nat) => (i : Int)
theorem iota_len {n : Nat} : (iota n).length = n := by simp [iota]
theorem iota_get {n i : Nat} (h : i < n) : (iota n).getD i 0 = (i : Int) := getD_map_range h
def shufN (T : List Int) (tries : Int) : Nat → Nat → List Int → Nat × Int × List Int
  | 0, a, l => (a, 0, l)
  | i + 1, a, l => if (below T ((i : Int) + 2) tries a).2.2 = 0 then shufN T tries i (below T ((i : Int) + 2) tries a).1 (swap l (i + 1) (below T ((i : Int) + 2) tries a).2.1.toNat)
      else ((below T ((i : Int) + 2) tries a).1, (below T ((i : Int) + 2) tries a).2.2, [])
def shuf (T : List Int) (n tries : Int) (a : Nat) : Nat × Int × List Int :=
  if 0 ≤ n ∧ n ≤ 64 ∧ 1 ≤ tries ∧ tries ≤ 16 then shufN T tries (n.toNat - 1) a (iota n.toNat) else (a, 1, [])
theorem tryN_v {T : List Int} {n : Int} (hT : BOk T) (hn : 1 ≤ n) : ∀ {k a : Nat}, ((tryN T n k a).2.2 = 0 ∨ (tryN T n k a).2.2 = 3) ∧ 0 ≤ (tryN T n k a).2.1 ∧ (tryN T n k a).2.1 < n := by
  intro k
  induction k with
  | zero => intro a; exact ⟨.inr rfl, by simp [tryN]; omega⟩
  | succ k ih =>
    intro a
    unfold tryN
    split
    · exact ⟨.inl rfl, Int.emod_nonneg _ (by omega), Int.emod_lt_of_pos _ (by omega)⟩
    · exact ih
theorem below_v {T : List Int} {n tries : Int} {a : Nat} (hT : BOk T) (hn : 1 ≤ n ∧ n ≤ 65536) (ht : 1 ≤ tries ∧ tries ≤ 16) : ((below T n tries a).2.2 = 0 ∨ (below T n tries a).2.2 = 3) ∧ 0 ≤ (below T n tries a).2.1 ∧ (below T n tries a).2.1 < n ∧ (below T n tries a).1 ≤ a + 32 := by
  unfold below
  rw [if_pos ⟨hn.1, hn.2, ht.1, ht.2⟩]
  obtain ⟨h1, h2⟩ := @tryN_v T n hT hn.1 tries.toNat a
  have := @tryN_at T n tries.toNat a
  exact ⟨h1, h2.1, h2.2, by omega⟩
theorem shufL {s : ByteArray} (hs : s.size < 9223372036854775808) {tries : Int} (ht : 1 ≤ tries ∧ tries ≤ 16) {N : Nat} (hN : N ≤ 64) : ∀ (i : Nat) (a : Nat) (l : List Int), l.length = N → (i < N ∨ i = 0) → a + 40 * i < 4611686018427387904 →
    f8_l10_m tries N s ((a : Int), l, (i : Int)) = some (if (shufN (nums s) tries i a l).2.1 = 0 then .inr ((((shufN (nums s) tries i a l).1 : Nat) : Int), (shufN (nums s) tries i a l).2.2) else .inl ((shufN (nums s) tries i a l).2.1, (((shufN (nums s) tries i a l).1 : Nat) : Int))) := by
  intro i
  induction i with
  | zero =>
    intro a l hl hi ha
    exact lm_out (by rw [f8_l10_e]; simp only []; rw [sel_ile' (by omega)]; rfl)
  | succ i ih =>
    intro a l hl hi ha
    obtain ⟨h0, h1, h2, h3⟩ := @below_v (nums s) ((i : Int) + 2) tries a (nums_ok s) (by omega) ht
    have e1 : iadd .i64 ((i + 1 : Nat) : Int) 1 = (i : Int) + 2 := by rw [iadd64 (by omega) (by omega)]; omega
    unfold shufN
    by_cases he : (below (nums s) ((i : Int) + 2) tries a).2.2 = 0
    · rw [if_pos he, ← ih _ _ (by rw [swap_len]; exact hl) (by omega) (by omega)]
      refine lm_next ?_
      rw [f8_l10_e]
      simp only []
      rw [sel_ile (by omega), e1, below_m (by omega) hs, Option.bind_some]
      simp only [Nat.zero_add, gd_int]
      rw [he, sel_bno, sel_ieq rfl, sel_ile h1, sel_ilt (by omega), sel_nlt (by omega), sel_ile (by omega), sel_ilt (by omega), sel_nlt (by rw [Int.toNat_natCast]; omega), sel_nlt (by rw [List.length_set]; omega), isub64 (by omega) (by omega)]
      have e2 : f8_s0 ((a : Int), l, ((i + 1 : Nat) : Int)) ((((below (nums s) ((i : Int) + 2) tries a).1 : Nat) : Int), (below (nums s) ((i : Int) + 2) tries a).2.1, 0) = swap l (i + 1) (below (nums s) ((i : Int) + 2) tries a).2.1.toNat := by
        unfold f8_s0 swap
        simp only [Nat.zero_add, Int.toNat_natCast, gd_int]
      rw [e2, show ((i + 1 : Nat) : Int) - 1 = (i : Int) from by omega]
    · rw [if_neg he]
      have he3 : (below (nums s) ((i : Int) + 2) tries a).2.2 = 3 := by rcases h0 with h | h; exact absurd h he; exact h
      simp only []
      rw [if_neg he]
      refine lm_out ?_
      rw [f8_l10_e]
      simp only []
      rw [sel_ile (by omega), e1, below_m (by omega) hs, Option.bind_some]
      simp only []
      rw [sel_bno, sel_ieq' he]
theorem iotaL {n : Nat} (hn : n ≤ 64) {a b : Int} {s : ByteArray} {c : Int} : f8_l5_m a b n (n : Int) s c (List.replicate n 0, 0) = some (iota n) := by
  have h := lm_count (t := f8_l5_t a b n (n : Int) s c) (fun i => ((iota n).take i ++ List.replicate (n - i) 0, (i : Int))) n (iota n) (fun i hi => by
    rw [f8_l5_e]
    have e := fill_set (@iota_len n) hi
    rw [iota_get hi] at e
    have hl : ((iota n).take i ++ List.replicate (n - i) 0).length = n := by simp [iota_len]; omega
    simp only [Nat.zero_add, Int.toNat_natCast]
    rw [sel_ilt (by omega), sel_ile (by omega), sel_ilt (by omega), sel_nlt (by omega), e, iadd64 (by omega) (by omega)]
    rfl) (by
      rw [f8_l5_e]
      simp only []
      rw [sel_ilt' (by omega), Nat.sub_self, List.replicate_zero, List.append_nil, List.take_of_length_le (by rw [iota_len]; exact Nat.le_refl _)])
  exact h
theorem shufN_len {T : List Int} {tries : Int} : ∀ {i a : Nat} {l : List Int}, (shufN T tries i a l).2.1 = 0 → (shufN T tries i a l).2.2.length = l.length := by
  intro i
  induction i with
  | zero => intro a l _; rfl
  | succ i ih =>
    intro a l h
    unfold shufN at h ⊢
    split at h
    · rename_i he; rw [if_pos he, ih h, swap_len]
    · rename_i he; exact absurd h he
theorem shufN_err {T : List Int} (hT : BOk T) {tries : Int} (ht : 1 ≤ tries ∧ tries ≤ 16) : ∀ {i a : Nat} {l : List Int}, i ≤ 64 → ((shufN T tries i a l).2.1 = 0 ∨ ((shufN T tries i a l).2.1 = 3 ∧ (shufN T tries i a l).2.2 = [])) ∧ (shufN T tries i a l).1 ≤ a + 32 * i := by
  intro i
  induction i with
  | zero => intro a l _; exact ⟨.inl rfl, by simp [shufN]⟩
  | succ i ih =>
    intro a l hi
    obtain ⟨h0, h1, h2, h3⟩ := @below_v T ((i : Int) + 2) tries a hT (by omega) ht
    unfold shufN
    split
    · have := @ih (below T ((i : Int) + 2) tries a).1 (swap l (i + 1) (below T ((i : Int) + 2) tries a).2.1.toNat) (by omega)
      exact ⟨this.1, by omega⟩
    · rename_i he
      refine ⟨.inr ⟨by rcases h0 with h | h; exact absurd h he; exact h, rfl⟩, ?_⟩
      simp only []; omega
theorem shuffle {s : ByteArray} (hs : s.size < 9223372036854775808) {n tries : Int} {a : Nat} (ha : a < 1000000) :
    f8_m s (a : Int) n tries = some ((((shuf (nums s) n tries a).1 : Nat) : Int), (shuf (nums s) n tries a).2.1, (shuf (nums s) n tries a).2.2) := by
  rw [f8_e]
  unfold shuf
  rcases Int.lt_or_le n 0 with h | h1
  · rw [sel_ilt h, if_neg (by omega)]
  rw [sel_ilt' h1]
  rcases Int.lt_or_le 64 n with h | h2
  · rw [sel_ilt h, if_neg (by omega)]
  rw [sel_ilt' h2]
  rcases Int.lt_or_le tries 1 with h | h3
  · rw [sel_ilt h, if_neg (by omega)]
  rw [sel_ilt' h3]
  rcases Int.lt_or_le 16 tries with h | h4
  · rw [sel_ilt h, if_neg (by omega)]
  rw [sel_ilt' h4, if_pos ⟨h1, h2, h3, h4⟩]
  obtain ⟨k, rfl⟩ := Int.eq_ofNat_of_zero_le h1
  rw [sel_ile (by omega), sel_ile (show Int.mul 8 (k : Int) ≤ _ from by rw [show Int.mul 8 (k : Int) = 8 * (k : Int) from rfl]; omega), Int.toNat_natCast, iotaL (by omega), Option.bind_some]
  have key : f8_l10_m tries k s ((a : Int), iota k, isub .i64 (k : Int) 1) = f8_l10_m tries k s ((a : Int), iota k, ((k - 1 : Nat) : Int)) := by
    rcases Nat.eq_zero_or_pos k with h | h
    · subst h
      have e1 : f8_l10_m tries 0 s ((a : Int), iota 0, isub .i64 ((0 : Nat) : Int) 1) = some (.inr ((a : Int), iota 0)) := lm_out (by rw [f8_l10_e]; rfl)
      have e2 : f8_l10_m tries 0 s ((a : Int), iota 0, ((0 - 1 : Nat) : Int)) = some (.inr ((a : Int), iota 0)) := lm_out (by rw [f8_l10_e]; rfl)
      rw [e1, e2]
    · rw [isub64 (by omega) (by omega), show (k : Int) - 1 = ((k - 1 : Nat) : Int) from by omega]
  rw [key, shufL hs ⟨h3, h4⟩ (by omega) (k - 1) a (iota k) iota_len (by omega) (by omega), Option.bind_some]
  obtain ⟨h5, h6⟩ := @shufN_err (nums s) (nums_ok s) tries ⟨h3, h4⟩ (k - 1) a (iota k) (by omega)
  rcases h5 with h | ⟨h, h'⟩
  · rw [if_pos h]
    have hl := shufN_len h
    rw [iota_len] at hl
    show sel (nle (0 + k) _) _ _ = _
    rw [sel_nle (by simp only []; omega), List.drop_zero, List.take_of_length_le (by simp only []; omega), h]
  · rw [if_neg (by rw [h]; decide), h, h']; rfl

/-! ### The reference's shuffle -/
theorem shufL' {s : ByteArray} (hs : s.size < 9223372036854775808) {tries : Int} (ht : 1 ≤ tries ∧ tries ≤ 16) {N : Nat} (hN : N ≤ 64) : ∀ (i : Nat) (a : Nat) (l : List Int), l.length = N → (i < N ∨ i = 0) → a + 40 * i < 4611686018427387904 →
    f14_l9_m tries s ((a : Int), N, l, (i : Int)) = some (if (shufN (nums s) tries i a l).2.1 = 0 then .inr ((shufN (nums s) tries i a l).2.2, (((shufN (nums s) tries i a l).1 : Nat) : Int), N) else .inl ((shufN (nums s) tries i a l).2.1, (((shufN (nums s) tries i a l).1 : Nat) : Int))) := by
  intro i
  induction i with
  | zero =>
    intro a l hl hi ha
    exact lm_out (by rw [f14_l9_e]; simp only []; rw [sel_ile' (by omega)]; rfl)
  | succ i ih =>
    intro a l hl hi ha
    obtain ⟨h0, h1, h2, h3⟩ := @below_v (nums s) ((i : Int) + 2) tries a (nums_ok s) (by omega) ht
    have e1 : iadd .i64 ((i + 1 : Nat) : Int) 1 = (i : Int) + 2 := by rw [iadd64 (by omega) (by omega)]; omega
    unfold shufN
    by_cases he : (below (nums s) ((i : Int) + 2) tries a).2.2 = 0
    · rw [if_pos he, ← ih _ _ (by rw [swap_len]; exact hl) (by omega) (by omega)]
      refine lm_next ?_
      rw [f14_l9_e]
      simp only []
      rw [sel_ile (by omega), e1, below_m' (by omega) hs, Option.bind_some]
      simp only [Nat.zero_add, gd_int]
      rw [he, sel_bno, sel_ieq rfl, sel_ile h1, sel_ilt (by omega), sel_nlt (by omega), sel_ile (by omega), sel_ilt (by omega), sel_nlt (by rw [Int.toNat_natCast]; omega), sel_nlt (by rw [List.length_set]; omega), isub64 (by omega) (by omega)]
      have e2 : f14_s0 ((a : Int), N, l, ((i + 1 : Nat) : Int)) ((((below (nums s) ((i : Int) + 2) tries a).1 : Nat) : Int), (below (nums s) ((i : Int) + 2) tries a).2.1, 0) = swap l (i + 1) (below (nums s) ((i : Int) + 2) tries a).2.1.toNat := by
        unfold f14_s0 swap
        simp only [Nat.zero_add, Int.toNat_natCast, gd_int]
      rw [e2, show ((i + 1 : Nat) : Int) - 1 = (i : Int) from by omega]
    · rw [if_neg he]
      simp only []
      rw [if_neg he]
      refine lm_out ?_
      rw [f14_l9_e]
      simp only []
      rw [sel_ile (by omega), e1, below_m' (by omega) hs, Option.bind_some]
      simp only []
      rw [sel_bno, sel_ieq' he]
theorem iotaL' {n : Nat} (hn : n ≤ 64) {a c : Int} {s : ByteArray} : f14_l5_m (n : Int) a s c ([], 0) = some (iota n) := by
  have h := lm_count (t := f14_l5_t (n : Int) a s c) (fun i => ((iota n).take i, (i : Int))) n (iota n) (fun i hi => by
    rw [f14_l5_e]
    have e := take_app1 (show i < (iota n).length from by rw [iota_len]; exact hi)
    rw [iota_get hi] at e
    have hl : ((iota n).take (i + 1)).length = i + 1 := by rw [List.length_take, iota_len]; omega
    simp only []
    rw [sel_ilt (by omega), e, sel_nle (by omega), sel_nle (by omega), iadd64 (by omega) (by omega)]
    rfl) (by
      rw [f14_l5_e]
      simp only []
      rw [sel_ilt' (by omega), List.take_of_length_le (by rw [iota_len]; exact Nat.le_refl _)])
  exact h
theorem tries_m {n : Int} : f20_m n = some (decide (1 ≤ n ∧ n ≤ 16)) := by
  rw [f20_e]
  rcases Int.lt_or_le n 1 with h | h
  · rw [sel_ile' h, decide_eq_false (by omega)]
  · rw [sel_ile h]
    congr 1
    rcases Int.lt_or_le 16 n with h' | h'
    · rw [ile_f.2 h', decide_eq_false (by omega)]
    · rw [ile_t.2 h', decide_eq_true ⟨h, h'⟩]
theorem shuffle' {s : ByteArray} (hs : s.size < 9223372036854775808) {n tries : Int} {a : Nat} (ha : a < 1000000) :
    f14_m s (a : Int) n tries = some ((((shuf (nums s) n tries a).1 : Nat) : Int), (shuf (nums s) n tries a).2.1, (shuf (nums s) n tries a).2.2) := by
  rw [f14_e]
  unfold shuf
  rcases Int.lt_or_le n 0 with h | h1
  · rw [sel_ilt h, if_neg (by omega)]
  rw [sel_ilt' h1]
  rcases Int.lt_or_le 64 n with h | h2
  · rw [sel_ilt h, if_neg (by omega)]
  rw [sel_ilt' h2, tries_m, Option.bind_some, sel_bno]
  by_cases h3 : 1 ≤ tries ∧ tries ≤ 16
  · rw [decide_eq_true h3, sel_tt, if_pos ⟨h1, h2, h3.1, h3.2⟩]
    obtain ⟨k, rfl⟩ := Int.eq_ofNat_of_zero_le h1
    rw [iotaL' (by omega), Option.bind_some, iota_len, Int.toNat_natCast]
    have key : f14_l9_m tries s ((a : Int), k, iota k, isub .i64 (k : Int) 1) = f14_l9_m tries s ((a : Int), k, iota k, ((k - 1 : Nat) : Int)) := by
      rcases Nat.eq_zero_or_pos k with h | h
      · subst h
        have e1 : f14_l9_m tries s ((a : Int), 0, iota 0, isub .i64 ((0 : Nat) : Int) 1) = some (.inr (iota 0, (a : Int), 0)) := lm_out (by rw [f14_l9_e]; rfl)
        have e2 : f14_l9_m tries s ((a : Int), 0, iota 0, ((0 - 1 : Nat) : Int)) = some (.inr (iota 0, (a : Int), 0)) := lm_out (by rw [f14_l9_e]; rfl)
        rw [e1, e2]
      · rw [isub64 (by omega) (by omega), show (k : Int) - 1 = ((k - 1 : Nat) : Int) from by omega]
    rw [key, shufL' hs h3 (by omega) (k - 1) a (iota k) iota_len (by omega) (by omega), Option.bind_some]
    obtain ⟨h5, h6⟩ := @shufN_err (nums s) (nums_ok s) tries h3 (k - 1) a (iota k) (by omega)
    rcases h5 with h | ⟨h, h'⟩
    · rw [if_pos h]
      have hl := shufN_len h
      rw [iota_len] at hl
      show sel (nle (0 + k) _) _ _ = _
      rw [sel_nle (by simp only []; omega), List.drop_zero, List.take_of_length_le (by simp only []; omega), h]
    · rw [if_neg (by rw [h]; decide), h, h']; rfl
  · rw [decide_eq_false h3, sel_ff, if_neg (fun h => h3 ⟨h.2.2.1, h.2.2.2⟩)]
end Go.Proofs.Ytjpnpdidgaeegaa
