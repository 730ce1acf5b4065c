/- States of a function's run; one operation; operations in the text's order. -/
import Derived.Test.YtnngdpaeiafnlaaDoorVO
namespace Vam
open Go Pg
set_option linter.unusedVariables false
set_option linter.unusedSimpArgs false

def tmPut : Tm → Nat → SV → Tm
  | [], t, x => [(t, x)]
  | (u, y) :: r, t, x => match Nat.beq t u with
    | true => (t, x) :: r
    | false => match Nat.ble t u with
      | true => (t, x) :: (u, y) :: r
      | false => (u, y) :: tmPut r t x

theorem tmGet_cons_eq {t : Nat} {x : SV} {r : Tm} : tmGet ((t, x) :: r) t = some x := by
  have h : Nat.beq t t = true := Nat.beq_refl t
  simp only [tmGet, h]
theorem tmGet_cons_ne {t u : Nat} {x : SV} {r : Tm} (hn : t ≠ u) : tmGet ((t, x) :: r) u = tmGet r u := by
  have h : Nat.beq t u = false := Bool.eq_false_iff.2 fun h => hn (Nat.eq_of_beq_eq_true h)
  simp only [tmGet, h]
theorem tmGet_put : ∀ {l : Tm} {t u : Nat} {x : SV}, tmGet (tmPut l t x) u = if t = u then some x else tmGet l u := by
  intro l
  induction l with
  | nil =>
    intro t u x
    simp only [tmPut]
    by_cases h : t = u
    · subst h; rw [tmGet_cons_eq, if_pos rfl]
    · rw [tmGet_cons_ne h, if_neg h]
  | cons p r ih =>
    obtain ⟨i, A⟩ := p
    intro t u x
    simp only [tmPut]
    split
    · rename_i e
      have e := Nat.eq_of_beq_eq_true e
      subst e
      by_cases h : t = u
      · subst h; rw [tmGet_cons_eq, if_pos rfl]
      · rw [tmGet_cons_ne h, tmGet_cons_ne h, if_neg h]
    · split
      · by_cases h : t = u
        · subst h; rw [tmGet_cons_eq, if_pos rfl]
        · rw [tmGet_cons_ne h, if_neg h]
      · rename_i e _ _
        have e : t ≠ i := fun h => by rw [h, Nat.beq_refl] at e; cases e
        by_cases h : i = u
        · subst h; rw [tmGet_cons_eq, if_neg e, tmGet_cons_eq]
        · rw [tmGet_cons_ne h, tmGet_cons_ne h, ih]

theorem tmPut_cons {u t : Nat} {y x : SV} {r : Tm} : tmPut ((u, y) :: r) t x = if t = u then (t, x) :: r else if t ≤ u then (t, x) :: (u, y) :: r else (u, y) :: tmPut r t x := by
  simp only [tmPut]
  by_cases h1 : t = u
  · subst h1; rw [Nat.beq_refl]; simp
  · have : Nat.beq t u = false := Bool.eq_false_iff.2 fun h => h1 (Nat.eq_of_beq_eq_true h)
    rw [this, if_neg h1]
    by_cases h2 : t ≤ u
    · rw [Nat.ble_eq_true_of_le h2, if_pos h2]
    · have : Nat.ble t u = false := Bool.eq_false_iff.2 fun h => h2 (Nat.le_of_ble_eq_true h)
      rw [this, if_neg h2]
theorem hput_cons {u t : Nat} {y x : Blk} {r : Hp} : hput ((u, y) :: r) t x = if t = u then (t, x) :: r else if t ≤ u then (t, x) :: (u, y) :: r else (u, y) :: hput r t x := by
  simp only [hput]
  by_cases h1 : t = u
  · subst h1; rw [Nat.beq_refl]; simp
  · have : Nat.beq t u = false := Bool.eq_false_iff.2 fun h => h1 (Nat.eq_of_beq_eq_true h)
    rw [this, if_neg h1]
    by_cases h2 : t ≤ u
    · rw [Nat.ble_eq_true_of_le h2, if_pos h2]
    · have : Nat.ble t u = false := Bool.eq_false_iff.2 fun h => h2 (Nat.le_of_ble_eq_true h)
      rw [this, if_neg h2]

theorem tmPut_comm : ∀ {l : Tm} {t u : Nat} {x y : SV}, t ≠ u → tmPut (tmPut l t x) u y = tmPut (tmPut l u y) t x := by
  intro l
  induction l with
  | nil =>
    intro t u x y h
    have h' : u ≠ t := Ne.symm h
    rcases Nat.lt_or_gt_of_ne h with h1 | h1
    · rw [show tmPut [] t x = [(t, x)] from rfl, show tmPut [] u y = [(u, y)] from rfl, tmPut_cons, tmPut_cons, if_neg h', if_neg h, if_neg (by omega), if_pos (by omega)]; rfl
    · rw [show tmPut [] t x = [(t, x)] from rfl, show tmPut [] u y = [(u, y)] from rfl, tmPut_cons, tmPut_cons, if_neg h', if_neg h, if_pos (by omega), if_neg (by omega)]; rfl
  | cons p r ih =>
    obtain ⟨i, A⟩ := p
    intro t u x y h
    have h' : u ≠ t := Ne.symm h
    rw [tmPut_cons, tmPut_cons (t := u)]
    rcases Nat.lt_trichotomy t i with h1 | h1 | h1 <;> rcases Nat.lt_trichotomy u i with h2 | h2 | h2 <;> rcases Nat.lt_or_gt_of_ne h with h3 | h3 <;> first | omega | skip
    all_goals
      first
        | rw [if_pos (show t = i by omega)]
        | (rw [if_neg (show ¬ t = i by omega)]; first | rw [if_pos (show t ≤ i by omega)] | rw [if_neg (show ¬ t ≤ i by omega)])
    all_goals
      first
        | rw [if_pos (show u = i by omega)]
        | (rw [if_neg (show ¬ u = i by omega)]; first | rw [if_pos (show u ≤ i by omega)] | rw [if_neg (show ¬ u ≤ i by omega)])
    all_goals simp only [tmPut_cons]
    all_goals
      first
        | (simp [show ¬ t = i by omega, show ¬ u = i by omega, h, h', show ¬ t ≤ i by omega, show ¬ u ≤ i by omega, ih h]; done)
        | (simp_all; done)
        | (repeat' split) <;> first | rfl | omega | (simp_all; done) | (exfalso; omega)
theorem hput_comm : ∀ {l : Hp} {t u : Nat} {x y : Blk}, t ≠ u → hput (hput l t x) u y = hput (hput l u y) t x := by
  intro l
  induction l with
  | nil =>
    intro t u x y h
    have h' : u ≠ t := Ne.symm h
    rcases Nat.lt_or_gt_of_ne h with h1 | h1
    · rw [show hput [] t x = [(t, x)] from rfl, show hput [] u y = [(u, y)] from rfl, hput_cons, hput_cons, if_neg h', if_neg h, if_neg (by omega), if_pos (by omega)]; rfl
    · rw [show hput [] t x = [(t, x)] from rfl, show hput [] u y = [(u, y)] from rfl, hput_cons, hput_cons, if_neg h', if_neg h, if_pos (by omega), if_neg (by omega)]; rfl
  | cons p r ih =>
    obtain ⟨i, A⟩ := p
    intro t u x y h
    have h' : u ≠ t := Ne.symm h
    rw [hput_cons, hput_cons (t := u)]
    rcases Nat.lt_trichotomy t i with h1 | h1 | h1 <;> rcases Nat.lt_trichotomy u i with h2 | h2 | h2 <;> rcases Nat.lt_or_gt_of_ne h with h3 | h3 <;> first | omega | skip
    all_goals
      first
        | rw [if_pos (show t = i by omega)]
        | (rw [if_neg (show ¬ t = i by omega)]; first | rw [if_pos (show t ≤ i by omega)] | rw [if_neg (show ¬ t ≤ i by omega)])
    all_goals
      first
        | rw [if_pos (show u = i by omega)]
        | (rw [if_neg (show ¬ u = i by omega)]; first | rw [if_pos (show u ≤ i by omega)] | rw [if_neg (show ¬ u ≤ i by omega)])
    all_goals simp only [hput_cons]
    all_goals
      first
        | (simp [show ¬ t = i by omega, show ¬ u = i by omega, h, h', show ¬ t ≤ i by omega, show ¬ u ≤ i by omega, ih h]; done)
        | (simp_all; done)
        | (repeat' split) <;> first | rfl | omega | (simp_all; done) | (exfalso; omega)

theorem hput_keys : ∀ {U H : Hp} {b : Nat} {B : Blk}, b ∉ keys U → upd (hput H b B) U = hput (upd H U) b B := by
  intro U
  induction U with
  | nil => intro H b B _; rfl
  | cons p U ih =>
    obtain ⟨c, A⟩ := p
    intro H b B h
    simp only [keys, List.map_cons, List.mem_cons, not_or] at h
    simp only [upd]
    rw [hput_comm h.1, ih h.2]

theorem upd_comm : ∀ {V U H : Hp}, (∀ b, b ∈ keys U → b ∉ keys V) → upd (upd H U) V = upd (upd H V) U := by
  intro V
  induction V with
  | nil => intro U H _; rfl
  | cons p V ih =>
    obtain ⟨c, A⟩ := p
    intro U H h
    simp only [upd]
    rw [← hput_keys (fun hc => h c hc (by simp [keys])), ih (fun b hb hb2 => h b hb (by simp only [keys, List.map_cons, List.mem_cons]; exact .inr hb2))]

/-! ### Blocks hidden -/
def mem (b : Nat) : List Nat → Bool
  | [] => false
  | c :: r => match Nat.beq b c with
    | true => true
    | false => mem b r
theorem mem_iff {b : Nat} : ∀ {l : List Nat}, mem b l = true ↔ b ∈ l := by
  intro l
  induction l with
  | nil => simp [mem]
  | cons c r ih =>
    simp only [mem, List.mem_cons]
    by_cases h : b = c
    · subst h; rw [Nat.beq_refl]; simp
    · have : Nat.beq b c = false := Bool.eq_false_iff.2 fun e => h (Nat.eq_of_beq_eq_true e)
      rw [this]; simp [ih, h]

def maskH (M : List Nat) : Hp → Hp
  | [] => []
  | (i, B) :: r => match mem i M with
    | true => maskH M r
    | false => (i, B) :: maskH M r

theorem hg_mask {M : List Nat} : ∀ {H : Hp} {b : Nat}, hg (maskH M H) b = if b ∈ M then none else hg H b := by
  intro H
  induction H with
  | nil => intro b; simp [maskH, hg]
  | cons p r ih =>
    obtain ⟨i, A⟩ := p
    intro b
    simp only [maskH]
    split
    · rename_i e
      have e := mem_iff.1 e
      rw [ih]
      by_cases h : i = b
      · subst h; rw [if_pos e, if_pos e]
      · rw [hg_cons_ne h]
    · rename_i e
      have e : i ∉ M := fun h => by rw [mem_iff.2 h] at e; cases e
      by_cases h : i = b
      · subst h; rw [hg_cons_eq, hg_cons_eq, if_neg e]
      · rw [hg_cons_ne h, hg_cons_ne h, ih]

theorem maskH_hput {M : List Nat} {b : Nat} {B : Blk} (hb : b ∈ M) : ∀ {H : Hp}, maskH M (hput H b B) = maskH M H := by
  intro H
  have hm := mem_iff.2 hb
  induction H with
  | nil => simp [hput, maskH, hm]
  | cons p r ih =>
    obtain ⟨i, A⟩ := p
    rw [hput_cons]
    split
    · rename_i e; subst e; simp [maskH, hm]
    · split
      · simp [maskH, hm]
      · simp only [maskH, ih]

theorem maskH_upd {M : List Nat} : ∀ {U H : Hp}, (∀ b, b ∈ keys U → b ∈ M) → maskH M (upd H U) = maskH M H := by
  intro U
  induction U with
  | nil => intro H _; rfl
  | cons p U ih =>
    obtain ⟨c, A⟩ := p
    intro H h
    simp only [upd]
    rw [ih fun b hb => h b (by simp only [keys, List.map_cons, List.mem_cons]; exact .inr hb), maskH_hput (h c (by simp [keys]))]
end Vam
