/- Trees that certify a run; loops as rounds; states weakened. -/
import Derived.Test.YtnngdpaeiafnlaaDoorVX
namespace Vam
open Go Pg
set_option linter.unusedVariables false
set_option linter.unusedSimpArgs false

theorem nbq_t {a b : Nat} : Nat.beq a b = true ↔ a = b := ⟨Nat.eq_of_beq_eq_true, fun h => by subst h; exact Nat.beq_refl _⟩
theorem nbq_f {a b : Nat} : Nat.beq a b = false ↔ ¬ a = b := by rw [← nbq_t]; cases Nat.beq a b <;> simp
theorem nbl_t {a b : Nat} : Nat.ble a b = true ↔ a ≤ b := ⟨Nat.le_of_ble_eq_true, Nat.ble_eq_true_of_le⟩
theorem nbl_f {a b : Nat} : Nat.ble a b = false ↔ b < a := by rw [← Nat.not_le, ← nbl_t]; cases Nat.ble a b <;> simp
theorem and_f {a b : Bool} : (a && b) = false ↔ a = false ∨ b = false := by cases a <;> cases b <;> simp
theorem or_t {a b : Bool} : (a || b) = true ↔ a = true ∨ b = true := by cases a <;> cases b <;> simp
theorem or_f {a b : Bool} : (a || b) = false ↔ a = false ∧ b = false := by cases a <;> cases b <;> simp
theorem bt_range' (s : ByteArray) (i : Int) : 0 ≤ bt s i ∧ bt s i < 256 := bt_range

/-! ### Trees -/
/-- A run's tree: its tests, calls and loops; at its ends what it comes to, and what that is as plain data. -/
inductive DT (α β : Type) : Type 1 where
  | leaf (v : α) (o : β)
  | dead
  | ask (c : Bool) (t f : DT α β)
  | sure (c b : Bool) (t : DT α β)
  | need (c b : Bool) (t : DT α β)
  | pick (d : Bool) (t : DT α β)
  | call {Z : Type} (f : FuncId) (as : List AV) (H : Hp) (F : Option Z) (r : Z → SV) (H' : Z → Hp) (k : Z → DT α β)
  | call2 {Z Y : Type} (f : FuncId) (as : List AV) (H : Hp) (F : Option (Z ⊕ Y)) (r : Z → SV) (H' : Z → Hp) (r2 : Y → SV) (H2 : Y → Hp) (k : Z → DT α β) (k2 : Y → DT α β)
  | loop {Z : Type} (c : Code) (σ : St) (F : Option Z) (e : Ex) (τ : Z → St) (k : Z → DT α β)
  | loop2 {Z Y : Type} (c : Code) (σ : St) (F : Option (Z ⊕ Y)) (e : Ex) (τ : Z → St) (e2 : Ex) (τ2 : Y → St) (k : Z → DT α β) (k2 : Y → DT α β)
  | loop3 {Z Y X : Type} (c : Code) (σ : St) (F : Option (Z ⊕ (Y ⊕ X))) (e : Ex) (τ : Z → St) (e2 : Ex) (τ2 : Y → St) (e3 : Ex) (τ3 : X → St) (k : Z → DT α β) (k2 : Y → DT α β) (k3 : X → DT α β)

/-- A tree is a program's tree. -/
def vc {α β : Type} : Pg α → DT α β → Prop
  | _, .dead => True
  | .ret a, .leaf v _ => a = v
  | .ask c k, .ask c' t f => c = c' ∧ vc (k true) t ∧ vc (k false) f
  | .ask c k, .sure c' b t => c = c' ∧ vc (k b) t
  | .ask c k, .need c' b t => c = c' ∧ vc (k b) t
  | .pick k, .pick d t => vc (k d) t
  | .call f as H k, .call f' as' H0 F r H' kk => (f = f' ∧ as = as' ∧ H = H0) ∧ ∀ z, vc (k (r z) (H' z)) (kk z)
  | .call f as H k, .call2 f' as' H0 F r H' r2 H2 kk k2 => (f = f' ∧ as = as' ∧ H = H0) ∧ (∀ z, vc (k (r z) (H' z)) (kk z)) ∧ ∀ z, vc (k (r2 z) (H2 z)) (k2 z)
  | .loop c σ k, .loop c' σ' F e τ kk => (c = c' ∧ σ = σ') ∧ ∀ z, vc (k e (τ z)) (kk z)
  | .loop c σ k, .loop2 c' σ' F e τ e2 τ2 kk k2 => (c = c' ∧ σ = σ') ∧ (∀ z, vc (k e (τ z)) (kk z)) ∧ ∀ z, vc (k e2 (τ2 z)) (k2 z)
  | .loop c σ k, .loop3 c' σ' F e τ e2 τ2 e3 τ3 kk k2 k3 => (c = c' ∧ σ = σ') ∧ (∀ z, vc (k e (τ z)) (kk z)) ∧ (∀ z, vc (k e2 (τ2 z)) (k2 z)) ∧ ∀ z, vc (k e3 (τ3 z)) (k3 z)
  | _, _ => False

/-- The same of a tree alone. -/
def vcT {α β : Type} : DT α β → Prop
  | .dead => True
  | .leaf v _ => v = v
  | .ask c t f => c = c ∧ vcT t ∧ vcT f
  | .sure c b t => c = c ∧ vcT t
  | .need c b t => c = c ∧ vcT t
  | .pick d t => vcT t
  | .call f as H F r H' kk => (f = f ∧ as = as ∧ H = H) ∧ ∀ z, vcT (kk z)
  | .call2 f as H F r H' r2 H2 kk k2 => (f = f ∧ as = as ∧ H = H) ∧ (∀ z, vcT (kk z)) ∧ ∀ z, vcT (k2 z)
  | .loop c σ F e τ kk => (c = c ∧ σ = σ) ∧ ∀ z, vcT (kk z)
  | .loop2 c σ F e τ e2 τ2 kk k2 => (c = c ∧ σ = σ) ∧ (∀ z, vcT (kk z)) ∧ ∀ z, vcT (k2 z)
  | .loop3 c σ F e τ e2 τ2 e3 τ3 kk k2 k3 => (c = c ∧ σ = σ) ∧ (∀ z, vcT (kk z)) ∧ (∀ z, vcT (k2 z)) ∧ ∀ z, vcT (k3 z)

theorem vcT_true {α β : Type} : ∀ t : DT α β, vcT t := by
  intro t
  induction t with
  | leaf => exact rfl
  | dead => trivial
  | ask c t f h1 h2 => exact ⟨rfl, h1, h2⟩
  | sure c b t h => exact ⟨rfl, h⟩
  | need c b t h => exact ⟨rfl, h⟩
  | pick d t h => exact h
  | call f as H F r H' k h => exact ⟨⟨rfl, rfl, rfl⟩, h⟩
  | call2 f as H F r H' r2 H2 k k2 h h2 => exact ⟨⟨rfl, rfl, rfl⟩, h, h2⟩
  | loop c σ F e τ k h => exact ⟨⟨rfl, rfl⟩, h⟩
  | loop2 c σ F e τ e2 τ2 k k2 h h2 => exact ⟨⟨rfl, rfl⟩, h, h2⟩
  | loop3 c σ F e τ e2 τ2 e3 τ3 k k2 k3 h h2 h3 => exact ⟨⟨rfl, rfl⟩, h, h2, h3⟩

/-- What is owed for a tree: what is known without asking, what calls and loops come to, what ends are. -/
def obl {α β : Type} (C : FuncId → List AV → Hp → SV → Hp → Prop) (L : Code → St → Ex → St → Prop) (Rel : α → β → Prop) : DT α β → Prop
  | .dead => True
  | .leaf v o => Rel v o
  | .ask c t f => (c = true → obl C L Rel t) ∧ (c = false → obl C L Rel f)
  | .sure c b t => c = b ∧ obl C L Rel t
  | .need c b t => c = b → obl C L Rel t
  | .pick d t => obl C L Rel t
  | .call f as H F r H' k => (∀ z, F = some z → C f as H (r z) (H' z)) ∧ ∀ z, F = some z → obl C L Rel (k z)
  | .call2 f as H F r H' r2 H2 k k2 => ((∀ z, F = some (.inl z) → C f as H (r z) (H' z)) ∧ ∀ z, F = some (.inr z) → C f as H (r2 z) (H2 z)) ∧ (∀ z, F = some (.inl z) → obl C L Rel (k z)) ∧ ∀ z, F = some (.inr z) → obl C L Rel (k2 z)
  | .loop c σ F e τ k => (∀ z, F = some z → L c σ e (τ z)) ∧ ∀ z, F = some z → obl C L Rel (k z)
  | .loop2 c σ F e τ e2 τ2 k k2 => ((∀ z, F = some (.inl z) → L c σ e (τ z)) ∧ ∀ z, F = some (.inr z) → L c σ e2 (τ2 z)) ∧ (∀ z, F = some (.inl z) → obl C L Rel (k z)) ∧ ∀ z, F = some (.inr z) → obl C L Rel (k2 z)
  | .loop3 c σ F e τ e2 τ2 e3 τ3 k k2 k3 => ((∀ z, F = some (.inl z) → L c σ e (τ z)) ∧ (∀ z, F = some (.inr (.inl z)) → L c σ e2 (τ2 z)) ∧ ∀ z, F = some (.inr (.inr z)) → L c σ e3 (τ3 z)) ∧
      (∀ z, F = some (.inl z) → obl C L Rel (k z)) ∧ (∀ z, F = some (.inr (.inl z)) → obl C L Rel (k2 z)) ∧ ∀ z, F = some (.inr (.inr z)) → obl C L Rel (k3 z)

/-- What a tree comes to, plainly. -/
def mod {α β : Type} : DT α β → Option β
  | .dead => none
  | .leaf _ o => some o
  | .ask c t f => sel c (mod t) (mod f)
  | .sure c b t => mod t
  | .need c b t => match b with
    | true => sel c (mod t) none
    | false => sel c none (mod t)
  | .pick d t => mod t
  | .call f as H F r H' k => F.bind fun z => mod (k z)
  | .call2 f as H F r H' r2 H2 k k2 => F.bind fun z => match z with
    | .inl z => mod (k z)
    | .inr z => mod (k2 z)
  | .loop c σ F e τ k => F.bind fun z => mod (k z)
  | .loop2 c σ F e τ e2 τ2 k k2 => F.bind fun z => match z with
    | .inl z => mod (k z)
    | .inr z => mod (k2 z)
  | .loop3 c σ F e τ e2 τ2 e3 τ3 k k2 k3 => F.bind fun z => match z with
    | .inl z => mod (k z)
    | .inr (.inl z) => mod (k2 z)
    | .inr (.inr z) => mod (k3 z)

theorem tree_sound {α β : Type} {C : FuncId → List AV → Hp → SV → Hp → Prop} {L : Code → St → Ex → St → Prop} {Rel : α → β → Prop} {o : β} : ∀ {t : DT α β} {p : Pg α}, vc p t → obl C L Rel t → mod t = some o → ∃ v, Yd C L p v ∧ Rel v o := by
  intro t
  induction t with
  | leaf v o' =>
    intro p hv ho hm
    simp only [mod, Option.some.injEq] at hm
    subst hm
    cases p with
    | ret a => exact ⟨v, hv, ho⟩
    | _ => exact hv.elim
  | dead => intro p hv ho hm; cases hm
  | ask c t f iht ihf =>
    intro p hv ho hm
    cases p with
    | ask c' k =>
      obtain ⟨rfl, h1, h2⟩ := hv
      simp only [mod] at hm
      cases hc : c' with
      | true => subst hc; exact iht (p := k true) h1 (ho.1 rfl) hm
      | false => subst hc; exact ihf (p := k false) h2 (ho.2 rfl) hm
    | _ => exact hv.elim
  | sure c b t ih =>
    intro p hv ho hm
    cases p with
    | ask c' k =>
      obtain ⟨rfl, h1⟩ := hv
      obtain ⟨rfl, ho⟩ := ho
      exact ih (p := k c') h1 ho hm
    | _ => exact hv.elim
  | need c b t ih =>
    intro p hv ho hm
    cases p with
    | ask c' k =>
      obtain ⟨rfl, h1⟩ := hv
      simp only [mod] at hm
      cases b with
      | true =>
        cases hc : c' with
        | true => subst hc; exact ih (p := k true) h1 (ho rfl) hm
        | false => subst hc; cases hm
      | false =>
        cases hc : c' with
        | true => subst hc; cases hm
        | false => subst hc; exact ih (p := k false) h1 (ho rfl) hm
    | _ => exact hv.elim
  | pick d t ih =>
    intro p hv ho hm
    cases p with
    | pick k => obtain ⟨v, h1, h2⟩ := ih hv ho hm; exact ⟨v, ⟨d, h1⟩, h2⟩
    | _ => exact hv.elim
  | call f as H F r H' k ih =>
    intro p hv ho hm
    cases p with
    | call f' as' H0 k' =>
      obtain ⟨⟨rfl, rfl, rfl⟩, hv⟩ := hv
      simp only [mod, Option.bind_eq_some_iff] at hm
      obtain ⟨z, hz, hm⟩ := hm
      obtain ⟨v, h1, h2⟩ := ih z (hv z) (ho.2 z hz) hm
      exact ⟨v, ⟨_, _, ho.1 z hz, h1⟩, h2⟩
    | _ => exact hv.elim
  | call2 f as H F r H' r2 H2 k k2 ih ih2 =>
    intro p hv ho hm
    cases p with
    | call f' as' H0 k' =>
      obtain ⟨⟨rfl, rfl, rfl⟩, hv, hv2⟩ := hv
      simp only [mod, Option.bind_eq_some_iff] at hm
      obtain ⟨z, hz, hm⟩ := hm
      cases z with
      | inl z => obtain ⟨v, h1, h2⟩ := ih z (hv z) (ho.2.1 z hz) hm; exact ⟨v, ⟨_, _, ho.1.1 z hz, h1⟩, h2⟩
      | inr z => obtain ⟨v, h1, h2⟩ := ih2 z (hv2 z) (ho.2.2 z hz) hm; exact ⟨v, ⟨_, _, ho.1.2 z hz, h1⟩, h2⟩
    | _ => exact hv.elim
  | loop c σ F e τ k ih =>
    intro p hv ho hm
    cases p with
    | loop c' σ' k' =>
      obtain ⟨⟨rfl, rfl⟩, hv⟩ := hv
      simp only [mod, Option.bind_eq_some_iff] at hm
      obtain ⟨z, hz, hm⟩ := hm
      obtain ⟨v, h1, h2⟩ := ih z (hv z) (ho.2 z hz) hm
      exact ⟨v, ⟨_, _, ho.1 z hz, h1⟩, h2⟩
    | _ => exact hv.elim
  | loop2 c σ F e τ e2 τ2 k k2 ih ih2 =>
    intro p hv ho hm
    cases p with
    | loop c' σ' k' =>
      obtain ⟨⟨rfl, rfl⟩, hv, hv2⟩ := hv
      simp only [mod, Option.bind_eq_some_iff] at hm
      obtain ⟨z, hz, hm⟩ := hm
      cases z with
      | inl z => obtain ⟨v, h1, h2⟩ := ih z (hv z) (ho.2.1 z hz) hm; exact ⟨v, ⟨_, _, ho.1.1 z hz, h1⟩, h2⟩
      | inr z => obtain ⟨v, h1, h2⟩ := ih2 z (hv2 z) (ho.2.2 z hz) hm; exact ⟨v, ⟨_, _, ho.1.2 z hz, h1⟩, h2⟩
    | _ => exact hv.elim
  | loop3 c σ F e τ e2 τ2 e3 τ3 k k2 k3 ih ih2 ih3 =>
    intro p hv ho hm
    cases p with
    | loop c' σ' k' =>
      obtain ⟨⟨rfl, rfl⟩, hv, hv2, hv3⟩ := hv
      simp only [mod, Option.bind_eq_some_iff] at hm
      obtain ⟨z, hz, hm⟩ := hm
      cases z with
      | inl z => obtain ⟨v, h1, h2⟩ := ih z (hv z) (ho.2.1 z hz) hm; exact ⟨v, ⟨_, _, ho.1.1 z hz, h1⟩, h2⟩
      | inr z =>
        cases z with
        | inl z => obtain ⟨v, h1, h2⟩ := ih2 z (hv2 z) (ho.2.2.1 z hz) hm; exact ⟨v, ⟨_, _, ho.1.2.1 z hz, h1⟩, h2⟩
        | inr z => obtain ⟨v, h1, h2⟩ := ih3 z (hv3 z) (ho.2.2.2 z hz) hm; exact ⟨v, ⟨_, _, ho.1.2.2 z hz, h1⟩, h2⟩
    | _ => exact hv.elim

section
variable {α β : Type} {C : FuncId → List AV → Hp → SV → Hp → Prop} {L : Code → St → Ex → St → Prop} {Rel : α → β → Prop}
theorem oDead : obl C L Rel .dead := trivial
theorem oLeaf {v : α} {o : β} (h : Rel v o) : obl C L Rel (.leaf v o) := h
theorem oAsk {c : Bool} {t f : DT α β} (h : c = true → obl C L Rel t) (h' : c = false → obl C L Rel f) : obl C L Rel (.ask c t f) := ⟨h, h'⟩
theorem oSure {c b : Bool} {t : DT α β} (h : c = b) (h' : obl C L Rel t) : obl C L Rel (.sure c b t) := ⟨h, h'⟩
theorem oNeed {c b : Bool} {t : DT α β} (h' : c = b → obl C L Rel t) : obl C L Rel (.need c b t) := h'
theorem oPick {d : Bool} {t : DT α β} (h' : obl C L Rel t) : obl C L Rel (.pick d t) := h'
theorem oCall {Z : Type} {f : FuncId} {as : List AV} {H : Hp} {F : Option Z} {r : Z → SV} {H' : Z → Hp} {k : Z → DT α β} (h : ∀ z, F = some z → C f as H (r z) (H' z)) (h' : ∀ z, F = some z → obl C L Rel (k z)) : obl C L Rel (.call f as H F r H' k) := ⟨h, h'⟩
theorem oCall2 {Z Y : Type} {f : FuncId} {as : List AV} {H : Hp} {F : Option (Z ⊕ Y)} {r : Z → SV} {H' : Z → Hp} {r2 : Y → SV} {H2 : Y → Hp} {k : Z → DT α β} {k2 : Y → DT α β}
    (h : ∀ z, F = some (.inl z) → C f as H (r z) (H' z)) (h2 : ∀ z, F = some (.inr z) → C f as H (r2 z) (H2 z)) (h' : ∀ z, F = some (.inl z) → obl C L Rel (k z)) (h2' : ∀ z, F = some (.inr z) → obl C L Rel (k2 z)) : obl C L Rel (.call2 f as H F r H' r2 H2 k k2) := ⟨⟨h, h2⟩, h', h2'⟩
theorem oLoop {Z : Type} {c : Code} {σ : St} {F : Option Z} {e : Ex} {τ : Z → St} {k : Z → DT α β} (h : ∀ z, F = some z → L c σ e (τ z)) (h' : ∀ z, F = some z → obl C L Rel (k z)) : obl C L Rel (.loop c σ F e τ k) := ⟨h, h'⟩
theorem oLoop2 {Z Y : Type} {c : Code} {σ : St} {F : Option (Z ⊕ Y)} {e e2 : Ex} {τ : Z → St} {τ2 : Y → St} {k : Z → DT α β} {k2 : Y → DT α β}
    (h : ∀ z, F = some (.inl z) → L c σ e (τ z)) (h2 : ∀ z, F = some (.inr z) → L c σ e2 (τ2 z)) (h' : ∀ z, F = some (.inl z) → obl C L Rel (k z)) (h2' : ∀ z, F = some (.inr z) → obl C L Rel (k2 z)) : obl C L Rel (.loop2 c σ F e τ e2 τ2 k k2) := ⟨⟨h, h2⟩, h', h2'⟩
theorem oLoop3 {Z Y X : Type} {c : Code} {σ : St} {F : Option (Z ⊕ (Y ⊕ X))} {e e2 e3 : Ex} {τ : Z → St} {τ2 : Y → St} {τ3 : X → St} {k : Z → DT α β} {k2 : Y → DT α β} {k3 : X → DT α β}
    (h : ∀ z, F = some (.inl z) → L c σ e (τ z)) (h2 : ∀ z, F = some (.inr (.inl z)) → L c σ e2 (τ2 z)) (h3 : ∀ z, F = some (.inr (.inr z)) → L c σ e3 (τ3 z))
    (h' : ∀ z, F = some (.inl z) → obl C L Rel (k z)) (h2' : ∀ z, F = some (.inr (.inl z)) → obl C L Rel (k2 z)) (h3' : ∀ z, F = some (.inr (.inr z)) → obl C L Rel (k3 z)) : obl C L Rel (.loop3 c σ F e τ e2 τ2 e3 τ3 k k2 k3) := ⟨⟨h, h2, h3⟩, h', h2', h3'⟩
end

/-! ### Rounds -/
inductive LR {X Y : Type} (f : X → Option (X ⊕ Y)) : X → Y → Prop
  | out {x : X} {y : Y} (h : f x = some (.inr y)) : LR f x y
  | next {x x' : X} {y : Y} (h : f x = some (.inl x')) (r : LR f x' y) : LR f x y
theorem LR.det {X Y : Type} {f : X → Option (X ⊕ Y)} {x : X} {y z : Y} (h : LR f x y) (k : LR f x z) : y = z := by
  induction h with
  | out h => cases k with
    | out k => rw [h] at k; simpa using k
    | next k r => rw [h] at k; cases k
  | next h r ih => cases k with
    | out k => rw [h] at k; cases k
    | next k r' =>
      rw [h] at k
      simp only [Option.some.injEq, Sum.inl.injEq] at k
      subst k
      exact ih r'
open Classical in
/-- What rounds come to; none, if they never end or may not go on. -/
noncomputable def lrun {X Y : Type} (f : X → Option (X ⊕ Y)) (x : X) : Option Y := if h : ∃ y, LR f x y then some h.choose else none
theorem lrun_some {X Y : Type} {f : X → Option (X ⊕ Y)} {x : X} {y : Y} : lrun f x = some y ↔ LR f x y := by
  unfold lrun
  split
  · rename_i h
    constructor
    · intro e; simp only [Option.some.injEq] at e; rw [← e]; exact h.choose_spec
    · intro k; exact congrArg some (h.choose_spec.det k)
  · rename_i h
    constructor
    · intro e; cases e
    · intro k; exact absurd ⟨y, k⟩ h
theorem lrun_next {X Y : Type} {f : X → Option (X ⊕ Y)} {x x' : X} (h : f x = some (.inl x')) : lrun f x = lrun f x' := by
  cases e : lrun f x' with
  | some y => exact lrun_some.2 (.next h (lrun_some.1 e))
  | none =>
    cases e' : lrun f x with
    | none => rfl
    | some y =>
      cases lrun_some.1 e' with
      | out k => rw [h] at k; cases k
      | next k r =>
        rw [h] at k
        simp only [Option.some.injEq, Sum.inl.injEq] at k
        subst k
        rw [lrun_some.2 r] at e; cases e
theorem lrun_out {X Y : Type} {f : X → Option (X ⊕ Y)} {x : X} {y : Y} (h : f x = some (.inr y)) : lrun f x = some y := lrun_some.2 (.out h)
/-- Rounds that are counted: S i is the state ahead of round i. -/
theorem lrun_count {X Y : Type} {f : X → Option (X ⊕ Y)} (S : Nat → X) (n : Nat) (y : Y) (hs : ∀ i, i < n → f (S i) = some (.inl (S (i + 1)))) (ho : f (S n) = some (.inr y)) : lrun f (S 0) = some y := by
  have : ∀ k i, i + k = n → lrun f (S i) = some y := by
    intro k
    induction k with
    | zero => intro i hi; have : i = n := by omega
              subst this; exact lrun_out ho
    | succ k ih => intro i hi; rw [lrun_next (hs i (by omega))]; exact ih (i + 1) (by omega)
  exact this n 0 (by omega)

/-! ### States towards others: nil slices as data, as rows of their own -/
def twL (T x : Lf) : Lf :=
  match x with
  | .v (.slice none 0 0) => match T with
    | .dat (.sl k) _ => .dat (.sl k) []
    | .own b o i n s => .own b 0 0 0 s
    | _ => x
  | x => x
def twLs : List Lf → List Lf → List Lf
  | T :: Ts, x :: xs => twL T x :: twLs Ts xs
  | _, xs => xs
def twA : AV → AV → AV
  | .one T, .one x => .one (twL T x)
  | .agg Ts, .agg xs => .agg (twLs Ts xs)
  | _, x => x
def twAs : List AV → List AV → List AV
  | T :: Ts, x :: xs => twA T x :: twAs Ts xs
  | _, xs => xs
def twS : SV → SV → SV
  | .av T, .av x => .av (twA T x)
  | .tup Ts, .tup xs => .tup (twAs Ts xs)
  | _, x => x
def twTm (T : Tm) : Tm → Tm
  | [] => []
  | (t, x) :: r => match tmGet T t with
    | some X => (t, twS X x) :: twTm T r
    | none => (t, x) :: twTm T r
def twB (T : Option Blk) (B : Blk) : Blk :=
  match B with
  | .cells ty l => match T with
    | some (.cells _ Ts) => .cells ty (twLs Ts l)
    | _ => B
  | B => B
def twH (T : Hp) : Hp → Hp
  | [] => []
  | (b, B) :: r => (b, twB (hg T b) B) :: twH T r
def addE : List (Nat × TypeId × K) → Hp → Hp
  | [], H => H
  | (b, ty, k) :: r, H => hput (addE r H) b (.row ty k [])
def emOk : List (Nat × TypeId × K) → Hp → Bool
  | [], _ => true
  | (b, ty, k) :: r, H => emOk r H && (hg (addE r H) b).isNone

section
variable {S : Nat → Prop} {m : Mp} {w : World}
theorem twL_rep {T x : Lf} {cs : List Value} (h : RepL S m w x cs) : RepL S m w (twL T x) cs := by
  unfold twL
  split
  · have e := h.1
    subst e
    split
    · exact ⟨none, 0, rfl, Nat.le_refl _, fun h => absurd rfl h⟩
    · exact ⟨none, 0, rfl, Nat.le_refl _, .inl rfl⟩
    · exact h
  · exact h
theorem twL_wide {T x : Lf} : (twL T x).wide = x.wide := by
  unfold twL
  split
  · split <;> rfl
  · rfl
theorem twLs_rep : ∀ {Ts xs : List Lf} {cs : List Value}, RepLs S m w xs cs → RepLs S m w (twLs Ts xs) cs := by
  intro Ts
  induction Ts with
  | nil => intro xs cs h; exact h
  | cons T Ts ih =>
    intro xs cs h
    cases xs with
    | nil => exact h
    | cons x xs => obtain ⟨c1, c2, e, h1, h2⟩ := h; exact ⟨c1, c2, e, twL_rep h1, ih h2⟩
theorem twA_rep {T x : AV} {v : Value} (h : RepA S m w x v) : RepA S m w (twA T x) v := by
  cases T with
  | one T =>
    cases x with
    | one x =>
      simp only [twA, RepA] at h ⊢
      rw [twL_wide]
      split at h
      · rename_i hw; rw [if_pos hw]; obtain ⟨cs, e, h1⟩ := h; exact ⟨cs, e, twL_rep h1⟩
      · rename_i hw; rw [if_neg hw]; exact twL_rep h
    | agg l => exact h
  | agg Ts =>
    cases x with
    | one x => exact h
    | agg l => obtain ⟨cs, e, h1⟩ := h; exact ⟨cs, e, twLs_rep h1⟩
theorem twAs_rep : ∀ {Ts xs : List AV} {vs : List Value}, RepAs S m w xs vs → RepAs S m w (twAs Ts xs) vs := by
  intro Ts
  induction Ts with
  | nil => intro xs cs h; exact h
  | cons T Ts ih =>
    intro xs cs h
    cases xs with
    | nil => exact h
    | cons x xs => obtain ⟨c1, c2, e, h1, h2⟩ := h; exact ⟨c1, c2, e, twA_rep h1, ih h2⟩
theorem twS_rep {T x : SV} {v : Value} (h : RepS S m w x v) : RepS S m w (twS T x) v := by
  cases T <;> cases x <;> first | exact h | exact twA_rep h | (obtain ⟨vs, e, h1⟩ := h; exact ⟨vs, e, twAs_rep h1⟩)
theorem twTm_get {T : Tm} : ∀ {tm : Tm} {t : Nat} {y : SV}, tmGet (twTm T tm) t = some y → ∃ x, tmGet tm t = some x ∧ (y = x ∨ ∃ X, y = twS X x) := by
  intro tm
  induction tm with
  | nil => intro t y h; cases h
  | cons p tm ih =>
    obtain ⟨u, x⟩ := p
    intro t y h
    simp only [twTm] at h
    split at h
    · rename_i X hX
      by_cases e : u = t
      · subst e
        rw [tmGet_cons_eq] at h ⊢
        simp only [Option.some.injEq] at h
        exact ⟨x, rfl, .inr ⟨X, h.symm⟩⟩
      · rw [tmGet_cons_ne e] at h ⊢
        exact ih h
    · by_cases e : u = t
      · subst e
        rw [tmGet_cons_eq] at h ⊢
        simp only [Option.some.injEq] at h
        exact ⟨x, rfl, .inl h.symm⟩
      · rw [tmGet_cons_ne e] at h ⊢
        exact ih h
theorem twTm_rep {T tm : Tm} {a : Array Value} (h : RepT S m w tm a) : RepT S m w (twTm T tm) a := by
  intro t y hy
  obtain ⟨x, hx, e⟩ := twTm_get hy
  obtain ⟨v, h1, h2⟩ := h t x hx
  refine ⟨v, h1, ?_⟩
  rcases e with rfl | ⟨X, rfl⟩
  · exact h2
  · exact twS_rep h2
theorem twB_live {T : Option Blk} {B : Blk} : (twB T B).live = B.live := by
  unfold twB
  split
  · split <;> rfl
  · rfl
theorem twB_rep {T : Option Blk} {B : Blk} {p : Option (Nat × Nat)} (h : SimB S m w B p) : SimB S m w (twB T B) p := by
  unfold twB
  split
  · split
    · obtain ⟨c, cs, fr, e1, e2, e3, e4, e5⟩ := h
      exact ⟨c, cs, fr, e1, e2, e3, e4, twLs_rep e5⟩
    · exact h
  · exact h
theorem hg_twH {T : Hp} : ∀ {H : Hp} {b : Nat}, hg (twH T H) b = (hg H b).map (twB (hg T b)) := by
  intro H
  induction H with
  | nil => intro b; rfl
  | cons p H ih =>
    obtain ⟨i, B⟩ := p
    intro b
    by_cases e : i = b
    · subst e; simp only [twH, hg_cons_eq, Option.map_some]
    · simp only [twH, hg_cons_ne e]; exact ih
theorem twH_sim {T H : Hp} (h : SimH S m w H) : SimH S m w (twH T H) := by
  refine ⟨fun b B hb => ?_, fun b b' B B' p p' h1 h2 l1 l2 => ?_⟩
  · rw [hg_twH] at hb
    simp only [Option.map_eq_some_iff] at hb
    obtain ⟨B0, h0, rfl⟩ := hb
    exact twB_rep (h.blk b B0 h0)
  · rw [hg_twH] at h1 h2
    simp only [Option.map_eq_some_iff] at h1 h2
    obtain ⟨B0, k1, rfl⟩ := h1
    obtain ⟨B1, k2, rfl⟩ := h2
    rw [twB_live] at l1 l2
    exact h.inj b b' B0 B1 p p' k1 k2 l1 l2
theorem twH_dom {T H : Hp} (h : Dom m H) : Dom m (twH T H) := by
  intro b hb
  rw [hg_twH] at hb
  exact h b (by simpa using hb)
theorem twH_tr {S0 : Nat → Prop} {m0 : Mp} {w0 : World} {H0 T H : Hp} (h : Tr S0 m0 w0 H0 S m w H) : Tr S0 m0 w0 H0 S m w (twH T H) := by
  refine ⟨h.mv, h.frame, fun b B p hb hl hp => ?_⟩
  rw [hg_twH] at hb
  simp only [Option.map_eq_some_iff] at hb
  obtain ⟨B0, k1, rfl⟩ := hb
  rw [twB_live] at hl
  exact h.own b B0 p k1 hl hp
theorem put_sim {H : Hp} {b : Nat} {ty : TypeId} {k : K} (h : SimH S m w H) (hD : Dom m H) (hb : hg H b = none) : SimH S m w (hput H b (.row ty k [])) := by
  have hmb := hD b hb
  refine ⟨fun c B hc => ?_, fun c c' B B' p p' h1 h2 l1 l2 q1 q2 => ?_⟩
  · rw [hg_hput] at hc
    split at hc
    · rename_i e
      subst e
      simp only [Option.some.injEq] at hc
      subst hc
      exact .inl ⟨hmb, rfl⟩
    · exact h.blk c B hc
  · rw [hg_hput] at h1 h2
    split at h1
    · rename_i e; subst e; rw [hmb] at q1; cases q1
    · split at h2
      · rename_i e; subst e; rw [hmb] at q2; cases q2
      · exact h.inj c c' B B' p p' h1 h2 l1 l2 q1 q2
theorem put_dom {H : Hp} {b : Nat} {B : Blk} (hD : Dom m H) : Dom m (hput H b B) := by
  intro c hc
  rw [hg_hput] at hc
  split at hc
  · cases hc
  · exact hD c hc
theorem put_tr {S0 : Nat → Prop} {m0 : Mp} {w0 : World} {H0 H : Hp} {b : Nat} {B : Blk} (h : Tr S0 m0 w0 H0 S m w H) (hD : Dom m H) (hb : hg H b = none) : Tr S0 m0 w0 H0 S m w (hput H b B) := by
  refine ⟨h.mv, h.frame, fun c B' p hc hl hp => ?_⟩
  rw [hg_hput] at hc
  split at hc
  · rename_i e; subst e; rw [hD _ hb] at hp; cases hp
  · exact h.own c B' p hc hl hp
theorem addE_all {S0 : Nat → Prop} {m0 : Mp} {w0 : World} {H0 H : Hp} : ∀ {em : List (Nat × TypeId × K)}, emOk em H = true → SimH S m w H → Dom m H → Tr S0 m0 w0 H0 S m w H → SimH S m w (addE em H) ∧ Dom m (addE em H) ∧ Tr S0 m0 w0 H0 S m w (addE em H) := by
  intro em
  induction em with
  | nil => intro _ h1 h2 h3; exact ⟨h1, h2, h3⟩
  | cons p em ih =>
    obtain ⟨b, ty, k⟩ := p
    intro h h1 h2 h3
    simp only [emOk, Bool.and_eq_true] at h
    obtain ⟨g1, g2, g3⟩ := ih h.1 h1 h2 h3
    have hb : hg (addE em H) b = none := by simpa using h.2
    exact ⟨put_sim g1 g2 hb, put_dom g2, put_tr g3 g2 hb⟩
end

/-- Towards a state. -/
def twSt (τ : St) (em : List (Nat × TypeId × K)) (σ : St) : St := ⟨twTm τ.tm σ.tm, twH τ.hp (addE em σ.hp)⟩
theorem wk_tw1 {N : Nat} {G : Nat → Option AV} {K0 : List Nat} {σ τ : St} (em : List (Nat × TypeId × K)) (h : emOk em σ.hp = true) : Wk N G K0 σ (twSt τ em σ) := by
  rintro X hX rfl rfl rfl a w ⟨S, m, h1, h2, h3, h4, h5, h6, h7⟩
  obtain ⟨g1, g2, g3⟩ := addE_all h h1 h2 h7
  exact ⟨S, m, twH_sim g1, twH_dom g2, twTm_rep h3, h4, h5, h6, twH_tr g3⟩
theorem wk_tw {N : Nat} {G : Nat → Option AV} {K0 : List Nat} {σ τ : St} (R : Rn) (keep : List Nat) (em : List (Nat × TypeId × K)) (h1 : (rnOk R && keepsK R K0 && emOk em (nrm R keep σ).hp) = true)
    (h4 : twSt τ em (nrm R keep σ) = τ) : Wk N G K0 σ τ := by
  simp only [Bool.and_eq_true] at h1
  have := (nrm_wk (N := N) (G := G) (σ := σ) (keep := keep) h1.1.1 h1.1.2).trans (wk_tw1 (τ := τ) em h1.2)
  rw [h4] at this
  exact this

/-! ### A loop out of its round's tree -/
def RelL {X Y : Type} (N : Nat) (G : Nat → Option AV) (K0 : List Nat) (D : X → St) (E : Y → Ex × St) : Ex × St → X ⊕ Y → Prop
  | (e, σ), .inl x => e = .normal ∧ Wk N G K0 σ (D x)
  | (e, σ), .inr y => e = (E y).1 ∧ e ≠ .normal ∧ Wk N G K0 σ (E y).2
theorem relN {X Y : Type} {N : Nat} {G : Nat → Option AV} {K0 : List Nat} {D : X → St} {E : Y → Ex × St} {σ : St} {x : X} (h : Wk N G K0 σ (D x)) : RelL N G K0 D E (.normal, σ) (.inl x) := ⟨rfl, h⟩
theorem relR {X Y : Type} {N : Nat} {G : Nat → Option AV} {K0 : List Nat} {D : X → St} {E : Y → Ex × St} {σ : St} {y : Y} (he : (E y).1 = .ret) (h : Wk N G K0 σ (E y).2) : RelL N G K0 D E (.ret, σ) (.inr y) := ⟨he.symm, by rintro ⟨⟩, h⟩
theorem relE {X Y : Type} {N : Nat} {G : Nat → Option AV} {K0 : List Nat} {D : X → St} {E : Y → Ex × St} {σ : St} {y : Y} {i : Nat} (he : (E y).1 = .exit i) (h : Wk N G K0 σ (E y).2) : RelL N G K0 D E (.exit i, σ) (.inr y) := ⟨he.symm, by rintro ⟨⟩, h⟩

/-- A round's run, at its end but some temporaries. -/
def execK (P : Program) (G : Nat → Option AV) (N : Nat) (hn : Hn) (keep : List Nat) (c : Code) (σ : St) : Pg (Ex × St) :=
  (exec P G N hn c σ).bind fun p => .ret (p.1, ⟨keepTm keep p.2.tm, p.2.hp⟩)
theorem wk_keep {N : Nat} {G : Nat → Option AV} {K0 : List Nat} {σ : St} {l : List Nat} : Wk N G K0 σ ⟨keepTm l σ.tm, σ.hp⟩ := by
  rintro X hX rfl rfl rfl a w h
  exact keep_good h
theorem lp_tree {P : Program} {G : Nat → Option AV} {N : Nat} {K0 : List Nat} {hn : Hn} {X Y : Type} {d : Nat} {c : Code} {D : X → St} {E : Y → Ex × St} {t : X → DT (Ex × St) (X ⊕ Y)}
    {keep : List Nat} (hv : ∀ x, vc (execK P G N hn keep c (D x)) (t x) = vcT (t x)) (ho : ∀ x, obl (Snd P G) (Lp P G N K0 hn d) (RelL N G K0 D E) (t x))
    {σ : St} {x : X} {z : Y} (h : lrun (fun x => mod (t x)) x = some z) (hw : Wk N G K0 σ (D x)) : Lp P G N K0 hn (d + 1) c σ (E z).1 (E z).2 := by
  have hr := lrun_some.1 h
  clear h
  have key : ∃ τ, Iter (fun σ e σ' => Yd (Snd P G) (Lp P G N K0 hn d) (exec P G N hn c σ) (e, σ')) (Wk N G K0) (D x) (E z).1 τ ∧ Wk N G K0 τ (E z).2 := by
    clear hw
    induction hr with
    | out h =>
      rename_i x y
      obtain ⟨⟨e, τ⟩, h1, h2⟩ := tree_sound (by rw [hv]; exact vcT_true _) (ho x) h
      obtain ⟨⟨e1, τ1⟩, h6, h5⟩ := yd_bind.1 h1
      obtain ⟨rfl, rfl⟩ := Prod.mk.inj (yd_ret.1 h5)
      obtain ⟨e2, h3, h4⟩ := h2
      dsimp only at e2 h3
      subst e2
      exact ⟨τ1, .out h6 h3, wk_keep.trans h4⟩
    | next h r ih =>
      rename_i x x' y
      obtain ⟨⟨e, τ⟩, h1, h2⟩ := tree_sound (by rw [hv]; exact vcT_true _) (ho x) h
      obtain ⟨⟨e1, τ1⟩, h6, h5⟩ := yd_bind.1 h1
      obtain ⟨rfl, rfl⟩ := Prod.mk.inj (yd_ret.1 h5)
      obtain ⟨e2, h4⟩ := h2
      dsimp only at e2
      subst e2
      obtain ⟨τ', k1, k2⟩ := ih
      exact ⟨τ', .next h6 (wk_keep.trans h4) k1, k2⟩
  obtain ⟨τ, k1, k2⟩ := key
  exact ⟨D x, τ, hw, k1, k2⟩

/-! ### A function out of its tree -/
theorem rnS_any {f : Nat → Option Nat} {S : Nat → Prop} {m m0 : Mp} {w : World} (hf : ∀ b c, f b = some c → ∀ p, m b = some p → m0 c = some p) {x : SV} {v : Value} (hr : RepS S m w x v) : RepS S m0 w ((rnS f x).getD .any) v := by
  cases h : rnS f x with
  | none => trivial
  | some y => exact rnS_rep hf h hr
theorem wks_tw {K0 : List Nat} {p q : SV × Hp} (R : Rn) (em : List (Nat × TypeId × K)) (h1 : (rnOk R && keepsK R K0 && emOk em (rnHp R p.2)) = true)
    (e : (twS q.1 ((rnS (fwd R) p.1).getD .any), twH q.2 (addE em (rnHp R p.2))) = q) : WkS K0 p q := by
  intro X S m w v hX hK k1 k2 k3 k4
  subst hK
  simp only [Bool.and_eq_true] at h1
  obtain ⟨m2, q1, q2, q3, q4⟩ := nrm_core (X := X) h1.1.1 h1.1.2 hX k1 k2 k3
  obtain ⟨g1, g2, g3⟩ := addE_all h1.2 q2 q3 q4
  rw [← e]
  exact ⟨m2, twH_sim g1, twH_dom g2, twH_tr g3, twS_rep (rnS_any q1 k4)⟩
def RelF {Z : Type} (K0 : List Nat) (RT : Z → SV × Hp) : SV × Hp → Z → Prop := fun p z => WkS K0 p (RT z)

theorem snd_tree {P : Program} {G : Nat → Option AV} {f : FuncId} {fn : Func} {as : List AV} {L : Hp} {hn : Hn} {Z : Type} (d : Nat) (RT : Z → SV × Hp) (hm : P.follows .mixedOrders = true) (hf : P.funcs[f]? = some fn) (hname : (fn.name == "runtime.NumGoroutine") = false) (hb : fn.body.isSome = true)
    (hN : Nat.ble as.length fn.ntmps = true) (hok : codeOk P hn (bodyOf fn) = true) {t : DT (SV × Hp) Z} (hv : vc (runR P G fn hn as L) t = vcT t) (ho : obl (Snd P G) (Lp P G fn.ntmps (keys L) hn d) (RelF (keys L) RT) t)
    {z : Z} (h : mod t = some z) : Snd P G f as L (RT z).1 (RT z).2 := by
  obtain ⟨p, h1, h2⟩ := tree_sound (by rw [hv]; exact vcT_true _) ho h
  exact snd_run d hm hf hname hb hN hok h1 h2
end Vam
