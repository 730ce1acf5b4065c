/- A part of the proof that the laws of this seat hold for every input; no conditions of its own. -/
import Derived.Test.YtjpnpdidgaeegaaOQ
open Go Vam Vam.Pg Go.Proofs
set_option linter.unusedVariables false
set_option linter.unusedSimpArgs false
namespace Go.Proofs.Ytjpnpdidgaeegaa
/-! ### What wakes -/
theorem wakes : f7_m = some true := by
  have h1 := @shuffle e0 (by decide) 3 1 0 (by decide)
  have h2 : shuf (nums e0) 3 1 0 = (4, 0, [1, 2, 0]) := by kernel_rfl
  have h1 : f8_m e0 0 3 1 = some (4, 0, [1, 2, 0]) := by rw [h2] at h1; exact h1
  have h3 : f10_m [1, 2, 0] = some ([2, 0, 1], true) := by
    rw [inverse (by decide), if_pos (by decide), decide_eq_true (by decide)]; kernel_rfl
  have h4 : f11_m [1, 2, 0] [ByteArray.mk #[97], ByteArray.mk #[98], ByteArray.mk #[99]] = some ([ByteArray.mk #[98], ByteArray.mk #[99], ByteArray.mk #[97]], true) := by
    rw [lay_m (by decide), if_pos (by decide), decide_eq_true (by decide)]; kernel_rfl
  have h5 : f10_m [0, 0] = some ([], false) := by
    rw [inverse (by decide), if_neg (by decide), decide_eq_false (by decide)]
  rw [f7_e, f9_e, Option.bind_some, h1, Option.bind_some, h3, Option.bind_some, h4, Option.bind_some, h5, Option.bind_some]
  simp only []
  rw [sel_ieq rfl, ints (by decide), decide_eq_true rfl, Option.bind_some, sel_tt, sel_tt, ints (by decide), decide_eq_true rfl, Option.bind_some, sel_tt, sel_tt, texts (by decide), decide_eq_true rfl, Option.bind_some, sel_tt]
  rfl
theorem at0 : ((0 : Nat) : Int) = 0 := rfl
theorem shuffle0 {s : ByteArray} (hs : s.size < 9223372036854775808) {n tries : Int} : f8_m s 0 n tries = some ((((shuf (nums s) n tries 0).1 : Nat) : Int), (shuf (nums s) n tries 0).2.1, (shuf (nums s) n tries 0).2.2) := shuffle (a := 0) hs (by decide)
theorem shuffle0' {s : ByteArray} (hs : s.size < 9223372036854775808) {n tries : Int} : f14_m s 0 n tries = some ((((shuf (nums s) n tries 0).1 : Nat) : Int), (shuf (nums s) n tries 0).2.1, (shuf (nums s) n tries 0).2.2) := shuffle' (a := 0) hs (by decide)
theorem shuf_len {T : List Int} (hT : BOk T) {n tries : Int} {a : Nat} : (shuf T n tries a).2.2.length ≤ 64 := by
  unfold shuf
  split
  · rename_i hc
    rcases (shufN_err hT ⟨hc.2.2.1, hc.2.2.2⟩ (i := n.toNat - 1) (a := a) (l := iota n.toNat) (by omega)).1 with h | ⟨h, h'⟩
    · rw [shufN_len h, iota_len]; omega
    · rw [h']; decide
  · exact Nat.zero_le _

/-! ### The laws -/
theorem back {s : ByteArray} {items : List ByteArray} : f3_m s items = some true := by
  rw [f3_e, wakes]
  rcases Int.lt_or_le 300 (ssz s) with h | h
  · rw [sel_ilt h]; rfl
  rw [sel_ilt' h]
  rcases Int.lt_or_le 64 (llen items) with h2 | h2
  · rw [sel_ilt h2]; rfl
  rw [sel_ilt' h2, f9_e, Option.bind_some]
  rw [ssz_eq] at h; rw [llen_eq] at h2 ⊢
  rw [shuffle0 (by omega), Option.bind_some]
  simp only []
  rw [sel_bno]
  rcases shuf_err (nums_ok s) (n := (items.length : Int)) (tries := 16) (a := 0) (by omega) with h3 | ⟨h3, h4⟩
  · obtain ⟨hm, hl⟩ := shuf_may (nums_ok s) h3
    rw [h3, sel_ieq rfl]
    generalize hL : (shuf (nums s) (items.length : Int) 16 0).2.2 = l at hm hl ⊢
    have hil : items.length = l.length := by omega
    have e1 : f10_m l = some (inv l, true) := by rw [inverse (by omega), if_pos hm, decide_eq_true hm]
    have e2 : f10_m (inv l) = some (l, true) := by rw [inverse (by rw [inv_len]; omega), if_pos (inv_may hm), decide_eq_true (inv_may hm), inv_inv hm]
    have e3 : f11_m l items = some (lay l items, true) := by rw [lay_m (by omega), if_pos ⟨hm, hil⟩, decide_eq_true ⟨hm, hil⟩]
    have e4 : f11_m (inv l) (lay l items) = some (items, true) := by
      have hc : may (inv l) ∧ (lay l items).length = (inv l).length := ⟨inv_may hm, by rw [lay_len, inv_len]⟩
      rw [lay_m (by rw [inv_len]; omega), if_pos hc, decide_eq_true hc, lay_back hm hil]
    rw [e1, Option.bind_some]
    simp only []
    rw [e2, Option.bind_some, e3, Option.bind_some]
    simp only []
    rw [e4, Option.bind_some]
    simp only [sel_tt]
    rw [ints (by omega), decide_eq_true rfl, Option.bind_some, sel_tt, texts (by omega), decide_eq_true rfl, Option.bind_some, sel_tt]
    rfl
  · rw [h3, sel_ieq' (by decide), sel_ieq rfl]; rfl
theorem tells {s : ByteArray} {n l : List Int} {items : List ByteArray} : f5_m s n l items = some true := by
  rw [f5_e, wakes]
  simp only [gd_int]
  rcases Int.lt_or_le 3000 (ssz s) with h | h
  · rw [sel_ilt h]; rfl
  rw [sel_ilt' h]
  rcases Int.lt_or_le 100 (llen l) with h2 | h2
  · rw [sel_ilt h2]; rfl
  rw [sel_ilt' h2]
  rcases Int.lt_or_le 100 (llen items) with h3 | h3
  · rw [sel_ilt h3]; rfl
  rw [sel_ilt' h3, f9_e, Option.bind_some]
  rw [ssz_eq] at h; rw [llen_eq] at h2 h3
  have hsl := @shuf_len (nums s) (nums_ok s) (n.getD 0 0) (n.getD 1 0) 0
  rw [shuffle0 (by omega), Option.bind_some, shuffle0' (by omega), Option.bind_some]
  simp only []
  rw [ints (by omega), decide_eq_true rfl, Option.bind_some, sel_bno, sel_tt, sel_bno, sel_ieq rfl, f15_e, Option.bind_some, sel_bno, sel_ieq rfl]
  have ea : List.append [] l = l := rfl
  have eb : List.append [] items = items := rfl
  rw [ea, eb, sel_nle (by omega), sel_nle (by omega), sel_nle (by omega), sel_nle (by omega), may_m (by omega), Option.bind_some, inverse (by omega), Option.bind_some, lay_m (by omega), Option.bind_some]
  simp only []
  have ei : f12_m l l = some true := by rw [ints (by omega), decide_eq_true rfl]
  have et : f13_m items items = some true := by rw [texts (by omega), decide_eq_true rfl]
  have ebx : ∀ b : Bool, bno (bxn b b) = false := by intro b; cases b <;> rfl
  by_cases hm : may l
  · have einv : f17_m l = some (inv l) := inverse' (by omega) hm
    have eii : f12_m (inv l) (inv l) = some true := by rw [ints (by rw [inv_len]; omega), decide_eq_true rfl]
    by_cases hi : items.length = l.length
    · have hc : may l ∧ items.length = l.length := ⟨hm, hi⟩
      have hie : ieq (llen l) (llen items) = true := ieq_t.2 (by rw [llen_eq, llen_eq]; omega)
      have ell : f13_m (lay l items) (lay l items) = some true := by rw [texts (by rw [lay_len]; omega), decide_eq_true rfl]
      have elay := @lay_m' l items (by omega) hm hi
      simp only [if_pos hm, decide_eq_true hm, if_pos hc, decide_eq_true hc, ebx, sel_ff, sel_tt, hie, ei, et, Option.bind_some, einv, eii, elay, ell, bno, bxn, Bool.not_true, beq_self_eq_true]
    · have hc : ¬ (may l ∧ items.length = l.length) := fun h => hi h.2
      have hie : ieq (llen l) (llen items) = false := ieq_f.2 (by rw [llen_eq, llen_eq]; omega)
      have hz : ilt 0 (llen ([] : List ByteArray)) = false := rfl
      simp only [if_pos hm, decide_eq_true hm, if_neg hc, decide_eq_false hc, ebx, sel_ff, sel_tt, hie, ei, et, Option.bind_some, einv, eii, hz, bno, bxn, Bool.not_true, Bool.not_false, beq_self_eq_true]
  · have hc : ¬ (may l ∧ items.length = l.length) := fun h => hm h.1
    have hz : ilt 0 (llen ([] : List ByteArray)) = false := rfl
    have hz' : ilt 0 (llen ([] : List Int)) = false := rfl
    simp only [if_neg hm, decide_eq_false hm, if_neg hc, decide_eq_false hc, ebx, sel_ff, sel_tt, ei, et, Option.bind_some, hz, hz', bno, bxn, Bool.not_true, Bool.not_false, beq_self_eq_true]
theorem mod65 {x : Int} (hx : 0 ≤ x ∧ x < 256) : ∃ k : Nat, irem (icv .i64 x) 65 = (k : Int) ∧ k ≤ 64 := by
  rw [icv64 (by omega) (by omega)]
  unfold irem
  rw [Int.tmod_eq_emod_of_nonneg (by omega)]
  exact ⟨(x % 65).toNat, by omega, by omega⟩
theorem tryN_one {T : List Int} {n : Int} {a : Nat} (h : (tryN T n 1 a).2.2 = 0) : (tryN T n 1 a).1 = a + 2 := by
  unfold tryN at h ⊢
  split at h
  · rename_i hc; rw [if_pos hc]
  · cases h
theorem shufN_at {T : List Int} (hT : BOk T) : ∀ {i a : Nat} {l : List Int}, i ≤ 64 → (shufN T 1 i a l).2.1 = 0 → (shufN T 1 i a l).1 = a + 2 * i := by
  intro i
  induction i with
  | zero => intro a l _ _; rfl
  | succ i ih =>
    intro a l hi h
    have hb : (below T ((i : Int) + 2) 1 a) = tryN T ((i : Int) + 2) 1 a := by unfold below; rw [if_pos (by omega)]; rfl
    unfold shufN at h ⊢
    split at h
    · rename_i he
      rw [if_pos he, ih (by omega) h]
      rw [hb] at he ⊢
      rw [tryN_one he]; omega
    · rename_i he; exact absurd h he
theorem shuffles {s : ByteArray} {x : Int} (hx : 0 ≤ x ∧ x < 256) : f6_m s x = some true := by
  rw [f6_e, wakes]
  rcases Int.lt_or_le 300 (ssz s) with h | h
  · rw [sel_ilt h]; rfl
  rw [sel_ilt' h, f9_e, Option.bind_some]
  rw [ssz_eq] at h
  obtain ⟨k, hk, hk2⟩ := mod65 hx
  rw [hk, shuffle0 (by omega), Option.bind_some]
  simp only []
  rw [sel_bno]
  rcases shuf_err (nums_ok s) (n := (k : Int)) (tries := 1) (a := 0) (by omega) with h3 | ⟨h3, h4⟩
  · obtain ⟨hm, hl⟩ := shuf_may (nums_ok s) h3
    have hat : (shuf (nums s) (k : Int) 1 0).1 = 2 * (k - 1) := by
      unfold shuf at h3 ⊢
      rw [if_pos (by omega)] at h3 ⊢
      rw [shufN_at (nums_ok s) (by omega) h3]; omega
    have e1 : imul .i64 2 (mx 0 (isub .i64 (k : Int) 1)) = ((2 * (k - 1) : Nat) : Int) := by
      rw [isub64 (by omega) (by omega)]
      have : mx 0 ((k : Int) - 1) = ((k - 1 : Nat) : Int) := by unfold mx; split <;> omega
      rw [this, imul64 (by omega) (by omega)]; omega
    rw [h3, sel_ieq rfl, llen_eq, sel_ieq hl, may_m (by omega), decide_eq_true hm, Option.bind_some, sel_tt, f15_e, Option.bind_some, hat, e1, sel_ieq rfl]
    rfl
  · rw [h3, h4, sel_ieq' (by decide), sel_ieq rfl, sel_ieq (show llen ([] : List Int) = 0 from rfl)]; rfl

/-! ### A tape for each order -/
theorem ints_iota {n : Nat} (hn : n ≤ 64) {w : List Int} : f4_l9_m (n : Int) w ([], 0) = some (iota n) := by
  have h := lm_count (t := f4_l9_t (n : Int) w) (fun i => ((iota n).take i, (i : Int))) n (iota n) (fun i hi => by
    rw [f4_l9_e]
    have e := take_app1 (show i < (iota n).length from by rw [iota_len]; exact hi)
    rw [iota_get hi] at e
    have hl : ((iota n).take (i + 1)).length = i + 1 := by rw [List.length_take, iota_len]; omega
    simp only []
    rw [sel_ilt (by omega), e, sel_nle (by omega), sel_nle (by omega), iadd64 (by omega) (by omega)]
    rfl) (by
      rw [f4_l9_e]
      simp only []
      rw [sel_ilt' (by omega), List.take_of_length_le (by rw [iota_len]; exact Nat.le_refl _)])
  exact h
/-- The place of the one that is wanted. -/
theorem find {N W ws : List Int} {i J : Nat} {p : Int} (hJ : J ≤ i) (hi : i < N.length) (hw : i < W.length) (h64 : i ≤ 64) (hN : N.getD J 0 = W.getD i 0) (hno : ∀ j, j < J → N.getD j 0 ≠ W.getD i 0) :
    f4_l17_m p W (i : Int) N N.length ws 0 = some ((J : Int), N.length, ws) :=
  lm_count (t := f4_l17_t p W (i : Int) N N.length ws) (fun j => (j : Int)) J _ (fun j hj => by
    rw [f4_l17_e]
    simp only [gd_int, Nat.zero_add, Int.toNat_natCast, llen_eq]
    rw [sel_ilt (by omega), sel_ile (by omega), sel_ilt (by omega), sel_nlt (by omega), sel_ile (by omega), sel_ilt (by omega), sel_bno, sel_ieq' (hno j hj), iadd64 (by omega) (by omega)]
    rfl) (by
    rw [f4_l17_e]
    simp only [gd_int, Nat.zero_add, Int.toNat_natCast, llen_eq]
    rcases Nat.lt_or_ge J i with h | h
    · rw [sel_ilt (by omega), sel_ile (by omega), sel_ilt (by omega), sel_nlt (by omega), sel_ile (by omega), sel_ilt (by omega), sel_bno, sel_ieq hN]
    · rw [sel_ilt' (by omega)])
theorem eachL {W : List Int} (hW : may W) (h64 : W.length ≤ 64) {p : Int} : ∀ (i : Nat) (N ws : List Int), N.length = W.length → (i < W.length ∨ i = 0) → may N → (∀ m, i < m → m < W.length → N.getD m 0 = W.getD m 0) → ws.length ≤ 1000 - 2 * i →
    ∃ R, f4_l14_m p W (N.length, N, ws, (i : Int)) = some (ws ++ R) ∧ BOk R ∧ R.length = 2 * i ∧ ∀ (T : List Int) (a : Nat), (∀ m, m < 2 * i → T.getD (a + m) 0 = R.getD m 0) → shufN T 1 i a N = (a + 2 * i, 0, W) := by
  intro i
  induction i with
  | zero =>
    intro N ws hl _ hN hm _
    refine ⟨[], lm_out (by rw [f4_l14_e]; simp only []; rw [sel_ile' (by omega), List.append_nil]), BOk.nil, rfl, fun T a _ => ?_⟩
    have : N = W := by
      apply list_ext_getD hl
      intro j hj
      rcases Nat.eq_zero_or_pos j with h | h
      · subst h
        obtain ⟨k, h1, h2⟩ := onto_of hN (v := (W.getD 0 0).toNat) (by have := (hW 0 (by omega)).1; omega)
        have h3 := (hW 0 (by omega)).1
        rcases Nat.eq_zero_or_pos k with h4 | h4
        · subst h4; omega
        · have := hm k h4 (by omega)
          have h5 := inj_of hW (i := k) (j := 0) (by omega) (by omega) (by omega)
          omega
      · exact hm j h (by omega)
    rw [this]; rfl
  | succ i ih =>
    intro N ws hl hi hN hm hws
    have hi : i + 1 < W.length := by omega
    have hwi := (hW (i + 1) hi).1
    obtain ⟨J, hJ1, hJ2⟩ := onto_of hN (v := (W.getD (i + 1) 0).toNat) (by omega)
    have hJ3 : N.getD J 0 = W.getD (i + 1) 0 := by omega
    have hJ : J ≤ i + 1 := by
      rcases Nat.lt_or_ge (i + 1) J with h | h
      · have := hm J h (by omega)
        have h5 := inj_of hW (i := J) (j := i + 1) (by omega) hi (by omega)
        omega
      · exact h
    have hf := @find N W ws (i + 1) J p hJ (by omega) hi (by omega) hJ3 (fun j hj e => by
      have := inj_of hN (i := j) (j := J) (by omega) hJ1 (by omega)
      omega)
    obtain ⟨R, h1, h2, h3, h4⟩ := ih (swap N (i + 1) J) (ws ++ [(J : Int), 0]) (by rw [swap_len]; exact hl) (by omega) (swap_may hN (by omega) hJ1) (fun m hm1 hm2 => by
        rw [swap_get (by omega) hJ1]
        by_cases e : m = J
        · rw [if_pos e]
          have : m = i + 1 := by omega
          rw [this, ← hJ3, ← e, this]
        · rw [if_neg e]
          by_cases e' : m = i + 1
          · rw [if_pos e', hJ3, e']
          · rw [if_neg e']; exact hm m (by omega) hm2) (by rw [List.length_append]; simp; omega)
    rw [swap_len] at h1
    refine ⟨[(J : Int), 0] ++ R, ?_, BOk.append (BOk.cons (by omega) (BOk.cons (by omega) BOk.nil)) h2, by rw [List.length_append, h3]; simp; omega, fun T a hT => ?_⟩
    · rw [← List.append_assoc, ← h1]
      refine lm_next ?_
      rw [f4_l14_e]
      simp only []
      rw [sel_ile (by omega), hf, Option.bind_some]
      have e2 : f4_s0 (N.length, N, ws, ((i + 1 : Nat) : Int)) ((J : Int), N.length, ws) = swap N (i + 1) J := by
        unfold f4_s0 swap
        simp only [Nat.zero_add, Int.toNat_natCast, gd_int]
      have e3 : List.append ws [icv .u8 (J : Int), 0] = ws ++ [(J : Int), 0] := by
        rw [icv8, show (J : Int) % 256 = J from by omega]; rfl
      simp only [Nat.zero_add, gd_int, Int.toNat_natCast, e2, e3]
      rw [sel_ile (by omega), sel_ilt (by omega), sel_nlt (by omega), sel_ile (by omega), sel_ilt (by omega), sel_nlt (by omega), sel_nlt (by rw [List.length_set]; omega), sel_nle (by rw [List.length_append]; simp; omega), sel_nle (by rw [List.length_append]; simp; omega),
        isub64 (by omega) (by omega), show ((i + 1 : Nat) : Int) - 1 = (i : Int) from by omega]
    · have t0 : T.getD a 0 = (J : Int) := hT 0 (by omega)
      have t1 : T.getD (a + 1) 0 = 0 := hT 1 (by omega)
      have hw : word2 T a = (J : Int) := by unfold word2; rw [t0, t1]; omega
      have hmod := Int.emod_lt_of_pos 65536 (show 0 < (i : Int) + 2 from by omega)
      have hb : below T ((i : Int) + 2) 1 a = (a + 2, (J : Int), 0) := by
        unfold below
        rw [if_pos (by omega)]
        show tryN T ((i : Int) + 2) 1 a = _
        unfold tryN
        rw [hw, if_pos (by omega), Int.emod_eq_of_lt (by omega) (by omega)]
      unfold shufN
      rw [hb]
      simp only [if_true, Int.toNat_natCast]
      rw [h4 T (a + 2) (fun m hm => by
        have := hT (m + 2) (by omega)
        rw [show a + (m + 2) = a + 2 + m from by omega] at this
        rw [this]
        show (((J : Int) :: 0 :: R)).getD (m + 2) 0 = _
        simp)]
      rw [show a + 2 + 2 * i = a + 2 * (i + 1) from by omega]
theorem each {s : ByteArray} {x : Int} (hx : 0 ≤ x ∧ x < 256) : f4_m s x = some true := by
  rw [f4_e, wakes]
  rcases Int.lt_or_le 300 (ssz s) with h | h
  · rw [sel_ilt h]; rfl
  rw [sel_ilt' h]
  rw [ssz_eq] at h
  obtain ⟨k, hk, hk2⟩ := mod65 hx
  rw [hk, shuffle0' (by omega), Option.bind_some]
  simp only []
  rw [sel_bno]
  rcases shuf_err (nums_ok s) (n := (k : Int)) (tries := 1) (a := 0) (by omega) with h3 | ⟨h3, h4⟩
  · obtain ⟨hm, hl⟩ := shuf_may (nums_ok s) h3
    rw [h3, sel_ieq rfl]
    generalize hL : (shuf (nums s) (k : Int) 1 0).2.2 = W at hm hl ⊢
    have hl : W.length = k := by omega
    rw [ints_iota hk2, Option.bind_some]
    obtain ⟨R, h5, h6, h7, h8⟩ := eachL hm (by omega) (p := (k : Int)) (k - 1) (iota k) [] (by rw [iota_len, hl]) (by omega) iota_may (fun m h1 h2 => by omega) (by simp)
    have e1 : f4_l14_m (k : Int) W ((iota k).length, iota k, [], isub .i64 (k : Int) 1) = some R := by
      rcases Nat.eq_zero_or_pos k with h | h
      · subst h
        have : R = [] := List.length_eq_zero_iff.1 (by omega)
        subst this
        exact lm_out (by rw [f4_l14_e]; rfl)
      · rw [isub64 (by omega) (by omega), show (k : Int) - 1 = ((k - 1 : Nat) : Int) from by omega, h5]; rfl
    rw [e1, Option.bind_some, f9_e, Option.bind_some, shuffle0 (by rw [size_str]; omega), Option.bind_some]
    have e2 : shuf (nums (strOfNums R)) (k : Int) 1 0 = (0 + 2 * (k - 1), 0, W) := by
      unfold shuf
      rw [if_pos (by omega), nums_str h6, Int.toNat_natCast]
      exact h8 R 0 (fun m hm => by rw [Nat.zero_add])
    simp only [e2]
    rw [sel_ieq rfl, ints (by omega), decide_eq_true rfl, Option.bind_some, sel_tt]
    rfl
  · rw [h3, sel_ieq' (by decide)]; rfl
end Go.Proofs.Ytjpnpdidgaeegaa
