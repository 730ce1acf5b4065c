/- A part of the proof that the laws of this seat hold for every input; no conditions of its own. -/
import Derived.Test.YtjpnpdidgaeegaaOP
open Go Vam Vam.Pg Go.Proofs
set_option linter.unusedVariables false
set_option linter.unusedSimpArgs false
namespace Go.Proofs.Ytjpnpdidgaeegaa
/-! ### Orders -/
/-- The i-th may stand where it stands. -/
def goodAt (l : List Int) (i : Nat) : Prop := (0 ≤ l.getD i 0 ∧ l.getD i 0 < l.length) ∧ ∀ j, j < i → l.getD j 0 ≠ l.getD i 0
instance (l : List Int) (i : Nat) : Decidable (goodAt l i) := by unfold goodAt; infer_instance
def may (l : List Int) : Prop := ∀ i, i < l.length → goodAt l i
instance (l : List Int) : Decidable (may l) := by unfold may; infer_instance
def hasN (l : List Int) : Nat → List Bool
  | 0 => List.replicate l.length false
  | i + 1 => (hasN l i).set (l.getD i 0).toNat true
def seenN (l : List Int) : Nat → List Int
  | 0 => List.replicate l.length 0
  | i + 1 => (seenN l i).set (l.getD i 0).toNat 1
def invN (l : List Int) : Nat → List Int
  | 0 => List.replicate l.length 0
  | i + 1 => (invN l i).set (l.getD i 0).toNat (i : Int)
def inv (l : List Int) : List Int := invN l l.length
theorem hasN_len {l : List Int} : ∀ {i : Nat}, (hasN l i).length = l.length := by
  intro i; induction i with
  | zero => simp [hasN]
  | succ i ih => simp [hasN, ih]
theorem seenN_len {l : List Int} : ∀ {i : Nat}, (seenN l i).length = l.length := by
  intro i; induction i with
  | zero => simp [seenN]
  | succ i ih => simp [seenN, ih]
theorem invN_len {l : List Int} : ∀ {i : Nat}, (invN l i).length = l.length := by
  intro i; induction i with
  | zero => simp [invN]
  | succ i ih => simp [invN, ih]
theorem inv_len {l : List Int} : (inv l).length = l.length := invN_len
theorem hasN_get {l : List Int} {k : Nat} (hk : k < l.length) : ∀ {i : Nat}, (hasN l i).getD k false = true ↔ ∃ j, j < i ∧ (l.getD j 0).toNat = k := by
  intro i
  induction i with
  | zero =>
    constructor
    · intro h
      unfold hasN at h; rw [getD_replicate'] at h; cases h
    · rintro ⟨j, h, _⟩; omega
  | succ i ih =>
    unfold hasN
    rw [getD_set', hasN_len]
    by_cases e : (l.getD i 0).toNat = k
    · rw [if_pos ⟨e, hk⟩]; exact ⟨fun _ => ⟨i, by omega, e⟩, fun _ => rfl⟩
    · rw [if_neg (fun h => e h.1), ih]
      constructor
      · rintro ⟨j, h1, h2⟩; exact ⟨j, by omega, h2⟩
      · rintro ⟨j, h1, h2⟩
        rcases Nat.lt_or_ge j i with h | h
        · exact ⟨j, h, h2⟩
        · rw [show j = i from by omega] at h2; exact absurd h2 e
theorem seenN_get {l : List Int} {k : Nat} (hk : k < l.length) : ∀ {i : Nat}, 0 < (seenN l i).getD k 0 ↔ ∃ j, j < i ∧ (l.getD j 0).toNat = k := by
  intro i
  induction i with
  | zero =>
    constructor
    · intro h
      have : (seenN l 0).getD k 0 = 0 := by unfold seenN; simp [List.getD_eq_getElem?_getD, List.getElem?_replicate, hk]
      omega
    · rintro ⟨j, h, _⟩; omega
  | succ i ih =>
    unfold seenN
    rw [getD_set, seenN_len]
    by_cases e : (l.getD i 0).toNat = k
    · rw [if_pos ⟨e, hk⟩]; exact ⟨fun _ => ⟨i, by omega, e⟩, fun _ => by decide⟩
    · rw [if_neg (fun h => e h.1), ih]
      constructor
      · rintro ⟨j, h1, h2⟩; exact ⟨j, by omega, h2⟩
      · rintro ⟨j, h1, h2⟩
        rcases Nat.lt_or_ge j i with h | h
        · exact ⟨j, h, h2⟩
        · rw [show j = i from by omega] at h2; exact absurd h2 e
/-- Was the i-th one there already? -/
theorem dup_iff {l : List Int} {i : Nat} (hi : i < l.length) (hb : ∀ j, j < i → goodAt l j) (h0 : 0 ≤ l.getD i 0) : (∃ j, j < i ∧ (l.getD j 0).toNat = (l.getD i 0).toNat) ↔ ¬ ∀ j, j < i → l.getD j 0 ≠ l.getD i 0 := by
  constructor
  · rintro ⟨j, h1, h2⟩ h
    have := (hb j h1).1
    exact h j h1 (by omega)
  · intro h
    have h : ∃ j, ¬ (j < i → l.getD j 0 ≠ l.getD i 0) := Classical.not_forall.1 h
    obtain ⟨j, hj⟩ := h
    have h1 : j < i := Classical.byContradiction fun h => hj (fun h' => absurd h' h)
    exact ⟨j, h1, by rw [Classical.not_not.1 (fun h' => hj (fun _ => h'))]⟩
theorem inverse {l : List Int} (hl : l.length < 1000000) : f10_m l = some (if may l then inv l else [], decide (may l)) := by
  have hT : (l.length : Int) = llen l := rfl
  rw [f10_e, llen_eq, sel_ile (by omega), sel_ile (show Int.mul 8 (l.length : Int) ≤ _ from by rw [show Int.mul 8 (l.length : Int) = 8 * (l.length : Int) from rfl]; omega),
    sel_ile (show Int.mul 1 (l.length : Int) ≤ _ from by rw [show Int.mul 1 (l.length : Int) = 1 * (l.length : Int) from rfl]; omega), Int.toNat_natCast]
  have := eq_rounds (t := f10_l4_t l l.length (l.length : Int)) (fun i => (invN l i, hasN l i, (i : Int))) l.length (goodAt l) (.inl ()) (.inr (inv l)) (fun i hi hb' hg => by
      have h1 := hg.1
      have h3 : (hasN l i).getD (l.getD i 0).toNat false = false := by
        cases h : (hasN l i).getD (l.getD i 0).toNat false
        · rfl
        · exact absurd ((hasN_get (by omega)).1 h) (fun e => (dup_iff hi hb' h1.1).1 e hg.2)
      rw [f10_l4_e]
      simp only [gd_int, gd_bool, Nat.zero_add, Int.toNat_natCast, llen_eq]
      rw [sel_ilt (by omega), sel_ile (by omega), sel_ilt (by omega), sel_ilt' (by omega), sel_ile' (by omega), sel_ile (by omega), sel_ilt (by omega), sel_nlt (by rw [hasN_len]; omega), h3, sel_ff, sel_nlt (by rw [invN_len]; omega), iadd64 (by omega) (by omega)]
      rfl)
    (fun i hi hb hg => by
      rw [f10_l4_e]
      simp only [gd_int, gd_bool, Nat.zero_add, Int.toNat_natCast, llen_eq]
      rw [sel_ilt (by omega), sel_ile (by omega), sel_ilt (by omega)]
      rcases Int.lt_or_le (l.getD i 0) 0 with h1 | h1
      · rw [sel_ilt h1]
      rw [sel_ilt' h1]
      rcases Int.lt_or_le (l.getD i 0) (l.length : Int) with h2 | h2
      · have h3 : (hasN l i).getD (l.getD i 0).toNat false = true := (hasN_get (by omega)).2 ((dup_iff hi hb h1).2 fun h => hg ⟨⟨h1, h2⟩, h⟩)
        rw [sel_ile' h2, sel_ile h1, sel_ilt h2, sel_nlt (by rw [hasN_len]; omega), h3, sel_tt]
      · rw [sel_ile h2])
    (fun _ => by
      rw [f10_l4_e]
      simp only []
      rw [sel_ilt' (by omega)]; rfl)
  by_cases h : may l
  · have h1 : f10_l4_m l l.length (l.length : Int) (List.replicate l.length 0, List.replicate l.length false, 0) = some (.inr (inv l)) := this.1 h
    rw [h1, if_pos h, decide_eq_true h, Option.bind_some]
    show sel (nle (0 + l.length) (inv l).length) _ _ = _
    rw [inv_len, sel_nle (by omega), List.drop_zero, List.take_of_length_le (by rw [inv_len]; exact Nat.le_refl _)]
  · have h1 : f10_l4_m l l.length (l.length : Int) (List.replicate l.length 0, List.replicate l.length false, 0) = some (.inl ()) := this.2 h
    rw [h1, if_neg h, decide_eq_false h]; rfl

theorem may_m {l : List Int} (hl : l.length < 1000000) : f16_m l = some (decide (may l)) := by
  rw [f16_e, llen_eq, sel_ile (by omega), sel_ile (show Int.mul 8 (l.length : Int) ≤ _ from by rw [show Int.mul 8 (l.length : Int) = 8 * (l.length : Int) from rfl]; omega), Int.toNat_natCast]
  have := eq_rounds (t := f16_l3_t l l.length) (fun i => (seenN l i, (i : Int))) l.length (goodAt l) (.inl ()) (.inr ()) (fun i hi hb' hg => by
      have h1 := hg.1
      have h3 : ¬ 0 < (seenN l i).getD (l.getD i 0).toNat 0 := fun h => (dup_iff hi hb' h1.1).1 ((seenN_get (by omega)).1 h) hg.2
      rw [f16_l3_e]
      simp only [gd_int, Nat.zero_add, Int.toNat_natCast, llen_eq]
      rw [sel_ilt (by omega), sel_ile (by omega), sel_ilt' (by omega), sel_ile' (by omega), sel_ile (by omega), sel_ilt (by omega), sel_nlt (by rw [seenN_len]; omega), sel_ilt' (by omega), iadd64 (by omega) (by omega)]
      rfl)
    (fun i hi hb hg => by
      rw [f16_l3_e]
      simp only [gd_int, Nat.zero_add, Int.toNat_natCast, llen_eq]
      rw [sel_ilt (by omega), sel_ile (by omega)]
      rcases Int.lt_or_le (l.getD i 0) 0 with h1 | h1
      · rw [sel_ilt h1]
      rw [sel_ilt' h1]
      rcases Int.lt_or_le (l.getD i 0) (l.length : Int) with h2 | h2
      · have h3 : 0 < (seenN l i).getD (l.getD i 0).toNat 0 := (seenN_get (by omega)).2 ((dup_iff hi hb h1).2 fun h => hg ⟨⟨h1, h2⟩, h⟩)
        rw [sel_ile' h2, sel_ile h1, sel_ilt h2, sel_nlt (by rw [seenN_len]; omega), sel_ilt h3]
      · rw [sel_ile h2])
    (fun _ => by
      rw [f16_l3_e]
      simp only [llen_eq]
      rw [sel_ilt' (by omega)])
  by_cases h : may l
  · have h1 : f16_l3_m l l.length (List.replicate l.length 0, 0) = some (.inr ()) := this.1 h
    rw [h1, decide_eq_true h]; rfl
  · have h1 : f16_l3_m l l.length (List.replicate l.length 0, 0) = some (.inl ()) := this.2 h
    rw [h1, decide_eq_false h]; rfl
theorem inverse' {l : List Int} (hl : l.length < 1000000) (hm : may l) : f17_m l = some (inv l) := by
  rw [f17_e, llen_eq, sel_ile (by omega), sel_ile (show Int.mul 8 (l.length : Int) ≤ _ from by rw [show Int.mul 8 (l.length : Int) = 8 * (l.length : Int) from rfl]; omega), Int.toNat_natCast]
  have h := lm_count (t := f17_l3_t l l.length) (fun i => (invN l i, (i : Int))) l.length (inv l) (fun i hi => by
      have h1 := (hm i hi).1
      rw [f17_l3_e]
      simp only [gd_int, Nat.zero_add, Int.toNat_natCast, llen_eq]
      rw [sel_ilt (by omega), sel_ile (by omega), sel_ile (by omega), sel_ilt (by omega), sel_nlt (by rw [invN_len]; omega), iadd64 (by omega) (by omega)]
      rfl)
    (by
      rw [f17_l3_e]
      simp only [llen_eq]
      rw [sel_ilt' (by omega)]; rfl)
  have h : f17_l3_m l l.length (List.replicate l.length 0, 0) = some (inv l) := h
  rw [h, Option.bind_some]
  show sel (nle (0 + l.length) (inv l).length) _ _ = _
  rw [inv_len, sel_nle (by omega), List.drop_zero, List.take_of_length_le (by rw [inv_len]; exact Nat.le_refl _)]
abbrev e0 : ByteArray := ByteArray.mk #[]
def lay (l : List Int) (items : List ByteArray) : List ByteArray := (List.range l.length).map fun i => items.getD (l.getD i 0).toNat e0
theorem lay_len {l : List Int} {items : List ByteArray} : (lay l items).length = l.length := by simp [lay]
theorem lay_get {l : List Int} {items : List ByteArray} {i : Nat} (h : i < l.length) : (lay l items).getD i e0 = items.getD (l.getD i 0).toNat e0 := getD_map_range' h
theorem lay_m {l : List Int} {items : List ByteArray} (hl : l.length < 1000000) : f11_m l items = some (if may l ∧ items.length = l.length then lay l items else [], decide (may l ∧ items.length = l.length)) := by
  rw [f11_e, inverse hl, Option.bind_some, sel_bno]
  by_cases hm : may l
  · simp only [hm, true_and, decide_true, sel_tt, if_true]
    rw [llen_eq, llen_eq, sel_bno]
    by_cases hi : items.length = l.length
    · rw [sel_ieq (by omega), sel_ile (by omega), sel_ile (show Int.mul 16 (l.length : Int) ≤ _ from by rw [show Int.mul 16 (l.length : Int) = 16 * (l.length : Int) from rfl]; omega), Int.toNat_natCast]
      have h := lm_count (t := f11_l6_t items l.length l (l.length : Int)) (fun i => ((lay l items).take i ++ List.replicate (l.length - i) e0, (i : Int))) l.length (lay l items) (fun i hi => by
          have h1 := (hm i hi).1
          have e := fill_set' (d := e0) (@lay_len l items) hi
          rw [lay_get hi] at e
          have hl2 : ((lay l items).take i ++ List.replicate (l.length - i) e0).length = l.length := by simp [lay_len]; omega
          rw [f11_l6_e]
          simp only [gd_int, gd_str, Nat.zero_add, Int.toNat_natCast, llen_eq]
          rw [sel_ilt (by omega), sel_ile (by omega), sel_ilt (by omega), sel_ile (by omega), sel_ilt (by omega), sel_ilt (by omega), sel_nlt (by omega), e, iadd64 (by omega) (by omega)]
          rfl)
        (by
          rw [f11_l6_e]
          simp only []
          rw [sel_ilt' (by omega), Nat.sub_self, List.replicate_zero, List.append_nil, List.take_of_length_le (by rw [lay_len]; exact Nat.le_refl _)])
      have h : f11_l6_m items l.length l (l.length : Int) (List.replicate l.length e0, 0) = some (lay l items) := h
      rw [h, Option.bind_some, sel_nle (by rw [lay_len]; omega), List.drop_zero, List.take_of_length_le (by rw [lay_len]; exact Nat.le_refl _), if_pos hi, decide_eq_true hi]
    · rw [sel_ieq' (by omega), if_neg hi, decide_eq_false hi]
  · simp only [hm, false_and, decide_false, sel_ff, if_false]
theorem lay_m' {l : List Int} {items : List ByteArray} (hl : l.length < 1000000) (hm : may l) (hi : items.length = l.length) : f18_m l items = some (lay l items) := by
  rw [f18_e]
  have h := lm_count (t := f18_l3_t l items) (fun i => ((lay l items).take i, (i : Int))) l.length (lay l items) (fun i hi => by
      have h1 := (hm i hi).1
      have e := take_app1' (d := e0) (show i < (lay l items).length from by rw [lay_len]; exact hi)
      rw [lay_get hi] at e
      have hl2 : ((lay l items).take (i + 1)).length = i + 1 := by rw [List.length_take, lay_len]; omega
      rw [f18_l3_e]
      simp only [gd_int, gd_str, Int.toNat_natCast, llen_eq]
      rw [sel_ilt (by omega), sel_ile (by omega), sel_ile (by omega), sel_ilt (by omega), e, sel_nle (by omega), sel_nle (by omega), iadd64 (by omega) (by omega)]
      rfl)
    (by
      rw [f18_l3_e]
      simp only [llen_eq]
      rw [sel_ilt' (by omega), List.take_of_length_le (by rw [lay_len]; exact Nat.le_refl _)])
  have h : f18_l3_m l items ([], 0) = some (lay l items) := h
  rw [h]; rfl

/-! ### Inverses -/
theorem inj_of {l : List Int} (h : may l) {i j : Nat} (hi : i < l.length) (hj : j < l.length) (e : l.getD i 0 = l.getD j 0) : i = j := by
  rcases Nat.lt_trichotomy i j with h1 | h1 | h1
  · exact absurd e ((h j hj).2 i h1)
  · exact h1
  · exact absurd e.symm ((h i hi).2 j h1)
theorem may_of {l : List Int} (h1 : ∀ i, i < l.length → 0 ≤ l.getD i 0 ∧ l.getD i 0 < l.length) (h2 : ∀ i j, i < j → j < l.length → l.getD i 0 ≠ l.getD j 0) : may l :=
  fun i hi => ⟨h1 i hi, fun j hj => h2 j i hj hi⟩
theorem invN_get {l : List Int} (h : may l) : ∀ {i k : Nat}, i ≤ l.length → k < i → (invN l i).getD (l.getD k 0).toNat 0 = (k : Int) := by
  intro i
  induction i with
  | zero => intro k _ h; omega
  | succ i ih =>
    intro k hi hk
    have hk0 := (h k (by omega)).1
    unfold invN
    rw [getD_set, invN_len]
    rcases Nat.lt_or_ge k i with h1 | h1
    · have h2 : (l.getD i 0).toNat ≠ (l.getD k 0).toNat := by
        intro e
        have hi0 := (h i (by omega)).1
        have := inj_of h (i := i) (j := k) (by omega) (by omega) (by omega)
        omega
      rw [if_neg (fun e => h2 e.1)]; exact ih (by omega) h1
    · have : k = i := by omega
      subst this
      rw [if_pos ⟨rfl, by omega⟩]
theorem inv_get {l : List Int} (h : may l) {k : Nat} (hk : k < l.length) : (inv l).getD (l.getD k 0).toNat 0 = (k : Int) := invN_get h (Nat.le_refl _) hk
theorem onto_of {l : List Int} (h : may l) {v : Nat} (hv : v < l.length) : ∃ k, k < l.length ∧ l.getD k 0 = (v : Int) := by
  obtain ⟨k, h1, h2⟩ := onto (n := l.length) (f := fun k => (l.getD k 0).toNat) (fun k hk => by have := (h k hk).1; show (l.getD k 0).toNat < _; omega)
    (fun i j hij hj e => by
      have e : (l.getD i 0).toNat = (l.getD j 0).toNat := e
      have h1 := (h i (by omega)).1; have h2 := (h j hj).1
      have := inj_of h (i := i) (j := j) (by omega) hj (by omega)
      omega) hv
  have := (h k h1).1
  have h2 : (l.getD k 0).toNat = v := h2
  exact ⟨k, h1, by omega⟩
theorem inv_spec {l : List Int} (h : may l) {v : Nat} (hv : v < l.length) : ∃ k, k < l.length ∧ l.getD k 0 = (v : Int) ∧ (inv l).getD v 0 = (k : Int) := by
  obtain ⟨k, h1, h2⟩ := onto_of h hv
  refine ⟨k, h1, h2, ?_⟩
  have := inv_get h h1
  rw [h2, Int.toNat_natCast] at this
  exact this
theorem inv_may {l : List Int} (h : may l) : may (inv l) := by
  apply may_of
  · intro i hi
    rw [inv_len] at hi ⊢
    obtain ⟨k, h1, h2, h3⟩ := inv_spec h hi
    rw [h3]; omega
  · intro i j hij hj e
    rw [inv_len] at hj
    obtain ⟨k, h1, h2, h3⟩ := inv_spec h (show i < l.length from by omega)
    obtain ⟨k', h1', h2', h3'⟩ := inv_spec h hj
    rw [h3, h3'] at e
    have : k = k' := by omega
    subst this
    omega
theorem inv_inv {l : List Int} (h : may l) : inv (inv l) = l := by
  apply list_ext_getD
  · rw [inv_len, inv_len]
  · intro i hi
    rw [inv_len, inv_len] at hi
    obtain ⟨k, h1, h2, h3⟩ := inv_spec (inv_may h) (v := i) (by rw [inv_len]; exact hi)
    rw [inv_len] at h1
    obtain ⟨k', h1', h2', h3'⟩ := inv_spec h h1
    rw [h3] 
    rw [h2] at h3'
    have : k' = i := by omega
    subst this
    exact h2'.symm
theorem lay_back {l : List Int} (h : may l) {items : List ByteArray} (hi : items.length = l.length) : lay (inv l) (lay l items) = items := by
  apply list_ext_getD' e0
  · rw [lay_len, inv_len, hi]
  · intro i hi'
    rw [lay_len, inv_len] at hi'
    obtain ⟨k, h1, h2, h3⟩ := inv_spec h hi'
    rw [lay_get (by rw [inv_len]; exact hi'), h3, Int.toNat_natCast, lay_get h1, h2, Int.toNat_natCast]

/-! ### What is shuffled is an order -/
theorem iota_may {n : Nat} : may (iota n) := by
  apply may_of
  · intro i hi; rw [iota_len] at hi ⊢; rw [iota_get hi]; omega
  · intro i j hij hj; rw [iota_len] at hj; rw [iota_get hj, iota_get (by omega)]; omega
theorem swap_may {l : List Int} (h : may l) {i j : Nat} (hi : i < l.length) (hj : j < l.length) : may (swap l i j) := by
  have hs : ∀ k, k < l.length → (if k = j then i else if k = i then j else k) < l.length := by intro k hk; split; exact hi; split; exact hj; exact hk
  apply may_of
  · intro k hk
    rw [swap_len] at hk ⊢
    rw [swap_get hi hj]
    exact (h _ (hs k hk)).1
  · intro k m hkm hm e
    rw [swap_len] at hm
    rw [swap_get hi hj, swap_get hi hj] at e
    have := inj_of h (hs k (by omega)) (hs m hm) e
    split at this <;> split at this <;> first | omega | (split at this <;> first | omega | (split at this <;> omega))
theorem shufN_may {T : List Int} (hT : BOk T) {tries : Int} (ht : 1 ≤ tries ∧ tries ≤ 16) : ∀ {i a : Nat} {l : List Int}, (i < l.length ∨ i = 0) → i ≤ 64 → may l → (shufN T tries i a l).2.1 = 0 → may (shufN T tries i a l).2.2 := by
  intro i
  induction i with
  | zero => intro a l _ _ hm _; exact hm
  | succ i ih =>
    intro a l hi h64 hm h
    obtain ⟨h0, h1, h2, h3⟩ := @below_v T ((i : Int) + 2) tries a hT (by omega) ht
    unfold shufN at h ⊢
    split at h
    · rename_i he
      rw [if_pos he]
      exact ih (by rw [swap_len]; omega) (by omega) (swap_may hm (by omega) (by omega)) h
    · rename_i he; exact absurd h he
theorem shuf_may {T : List Int} (hT : BOk T) {n tries : Int} {a : Nat} (h : (shuf T n tries a).2.1 = 0) : may (shuf T n tries a).2.2 ∧ ((shuf T n tries a).2.2.length : Int) = n := by
  unfold shuf at h ⊢
  split at h
  · rename_i hc
    rw [if_pos hc]
    exact ⟨shufN_may hT ⟨hc.2.2.1, hc.2.2.2⟩ (by rw [iota_len]; omega) (by omega) iota_may h, by rw [shufN_len h, iota_len]; omega⟩
  · cases h
theorem shuf_err {T : List Int} (hT : BOk T) {n tries : Int} {a : Nat} (hc : 0 ≤ n ∧ n ≤ 64 ∧ 1 ≤ tries ∧ tries ≤ 16) : (shuf T n tries a).2.1 = 0 ∨ ((shuf T n tries a).2.1 = 3 ∧ (shuf T n tries a).2.2 = []) := by
  unfold shuf
  rw [if_pos hc]
  exact (shufN_err hT ⟨hc.2.2.1, hc.2.2.2⟩ (by omega)).1
end Go.Proofs.Ytjpnpdidgaeegaa
