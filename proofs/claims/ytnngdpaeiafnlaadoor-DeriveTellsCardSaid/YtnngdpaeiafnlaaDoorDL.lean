/- A part of the proof that the laws of this seat hold for every input; no conditions of its own. -/
import Derived.Test.YtnngdpaeiafnlaaDoorDQ
import Derived.Test.YtnngdpaeiafnlaaDoorV0
open Go Vam Vam.Pg Go.Proofs
set_option linter.unusedVariables false
set_option linter.unusedSimpArgs false
set_option maxRecDepth 100000
namespace Go.Proofs.YtnngdpaeiafnlaaDoor
/-! ### Wakes -/
theorem kAB : kd (ByteArray.mk #[97]) [ByteArray.mk #[98]] ≠ kd (ByteArray.mk #[97, 98]) [] := by decide +kernel
theorem lieq_f {a b : List Int} (h : a ≠ b) : lieq a b = false := by
  cases e : lieq a b with
  | false => rfl
  | true => exact absurd (lieq_t.1 e) h
theorem wakes : f8_m = some true := by
  rw [f8_e, key (by decide) (by simp) (by decide), id_ (by decide) (by simp) (by decide), pack (by simp) (by decide), key (by decide) (by simp) (by decide), nonce (by decide), round]
  simp only [Option.bind_some, List.drop_zero]
  rw [show strOfNums (pk [ByteArray.mk #[], ByteArray.mk #[97]] [ByteArray.mk #[], ByteArray.mk #[97]].length) = ByteArray.mk #[0, 0, 0, 0, 1, 0, 0, 0, 97] from nums_inj (by rw [nums_str (pk_ok _)]; decide),
    seq_self, sel_tt, seq_self, sel_tt, lieq_f kAB, sel_bno, sel_ff, show nn 2 1 = [2, 0, 0, 0, 1, 0, 0, 0, 0, 0, 0, 0] from by decide, lieq_self, sel_tt,
    show strOfNums (le 258 8) = ByteArray.mk #[2, 1, 0, 0, 0, 0, 0, 0] from nums_inj (by rw [nums_str le_ok]; decide), seq_self]

/-! ### Little numbers, packs: they tell what they are made of -/
theorem leB_nat {n i : Nat} (h : n < 18446744073709551616) (hi : i < 8) : leB (n : Int) i = ((n / 256 ^ i % 256 : Nat) : Int) := by
  unfold leB shr
  rw [icv8]
  have e : min (8 * (i : Int)).toNat IntKind.u64.bits = 8 * i := by
    show min (8 * (i : Int)).toNat 64 = _
    omega
  rw [e, show (2 : Int) ^ (8 * i) = ((2 ^ (8 * i) : Nat) : Int) from by simp, Nat.pow_mul, show (2 : Nat) ^ 8 = 256 from rfl, ← Int.natCast_ediv]
  omega
theorem le_inj {n m k : Nat} (hk : k ≤ 8) (hn : n < 18446744073709551616) (hm : m < 18446744073709551616) (h : le (n : Int) k = le (m : Int) k) : n % 256 ^ k = m % 256 ^ k := by
  have hd : ∀ i, i < k → n / 256 ^ i % 256 = m / 256 ^ i % 256 := fun i hi => by
    have := congrArg (fun l => List.getD l i 0) h
    simp only [le_at hi, leB_nat hn (show i < 8 by omega), leB_nat hm (show i < 8 by omega)] at this
    omega
  have : ∀ j, j ≤ k → n % 256 ^ j = m % 256 ^ j := by
    intro j
    induction j with
    | zero => intro _; rw [Nat.pow_zero]; omega
    | succ j ih =>
      intro hj
      rw [Nat.pow_succ, Nat.mod_mul, Nat.mod_mul, ih (by omega), hd j (by omega)]
  exact this k (Nat.le_refl _)
theorem le4_inj {n m : Nat} (hn : n < 4294967296) (hm : m < 4294967296) (h : le (n : Int) 4 = le (m : Int) 4) : n = m := by
  have := le_inj (k := 4) (by decide) (by omega) (by omega) h
  omega
theorem le8_inj {n m : Nat} (hn : n < 18446744073709551616) (hm : m < 18446744073709551616) (h : le (n : Int) 8 = le (m : Int) 8) : n = m := by
  have := le_inj (k := 8) (by decide) hn hm h
  omega
def pl : List ByteArray → List Int
  | [] => []
  | s :: r => one (nums s) ++ pl r
theorem pk_app {a b : List ByteArray} : ∀ j, pk (a ++ b) (a.length + j) = pk a a.length ++ pk b j := by
  have h0 : ∀ j, j ≤ a.length → pk (a ++ b) j = pk a j := by
    intro j
    induction j with
    | zero => intro _; rfl
    | succ j ih =>
      intro h
      rw [pk, pk, ih (by omega)]
      congr 3
      simp only [List.getD_eq_getElem?_getD, List.getElem?_append_left (show j < a.length by omega)]
  intro j
  induction j with
  | zero => rw [Nat.add_zero, h0 _ (Nat.le_refl _), pk, List.append_nil]
  | succ j ih =>
    rw [← Nat.add_assoc, pk, ih, pk, List.append_assoc]
    congr 4
    simp only [List.getD_eq_getElem?_getD, List.getElem?_append_right (show a.length ≤ a.length + j by omega)]
    congr 2
    omega
theorem pk_pl : ∀ (a : List ByteArray), pk a a.length = pl a
  | [] => rfl
  | s :: r => by
    have := pk_app (a := [s]) (b := r) r.length
    rw [show ([s] ++ r : List ByteArray) = s :: r from rfl, show [s].length + r.length = (s :: r).length from by simp; omega] at this
    rw [this, pk1, pl, pk_pl r]
theorem pl_inj : ∀ {a b : List ByteArray}, (∀ s, s ∈ a → s.size < 4294967296) → (∀ s, s ∈ b → s.size < 4294967296) → pl a = pl b → a = b
  | [], [], _, _, _ => rfl
  | [], s :: r, _, _, h => by
    have := congrArg List.length h
    rw [pl, pl, List.length_append, one_len] at this
    simp at this
    omega
  | s :: r, [], _, _, h => by
    have := congrArg List.length h
    rw [pl, pl, List.length_append, one_len] at this
    simp at this
  | s :: r, t :: q, ha, hb, h => by
    rw [pl, pl, one, one, List.append_assoc, List.append_assoc] at h
    obtain ⟨h1, h2⟩ := List.append_inj h (by rw [le_len, le_len])
    have hs := ha s List.mem_cons_self
    have ht := hb t List.mem_cons_self
    have e := le4_inj (by rw [nums_len]; exact hs) (by rw [nums_len]; exact ht) h1
    obtain ⟨h3, h4⟩ := List.append_inj h2 e
    rw [nums_inj h3, pl_inj (fun x hx => ha x (List.mem_cons_of_mem _ hx)) (fun x hx => hb x (List.mem_cons_of_mem _ hx)) h4]
theorem cat_at {ps : List ByteArray} {i : Nat} (h : i < ps.length) : (nums (ps.getD i (ByteArray.mk #[]))).length ≤ (cat ps ps.length).length := by
  have h1 := cat_mono (ps := ps) (show i + 1 ≤ ps.length by omega)
  rw [cat, List.length_append] at h1
  omega
theorem cat_mem {ps : List ByteArray} {s : ByteArray} (h : s ∈ ps) : s.size ≤ (cat ps ps.length).length := by
  obtain ⟨i, hi, e⟩ := List.mem_iff_getElem.1 h
  have := cat_at hi
  rw [List.getD_eq_getElem?_getD, List.getElem?_eq_getElem hi, Option.getD_some, e, nums_len] at this
  exact this
end Go.Proofs.YtnngdpaeiafnlaaDoor
