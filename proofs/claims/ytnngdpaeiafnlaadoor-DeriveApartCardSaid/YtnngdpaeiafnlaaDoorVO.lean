/- Names of blocks renamed; a function's contract; a call in a caller's heap. -/
import Derived.Test.YtnngdpaeiafnlaaDoorVN
namespace Vam
open Go Pg
set_option linter.unusedVariables false
set_option linter.unusedSimpArgs false

/-! ### Renaming -/
def rnL (f : Nat → Option Nat) : Lf → Option Lf
  | .ptr b o i s r => (f b).map fun c => .ptr c o i s r
  | .own b o i n s => (f b).map fun c => .own c o i n s
  | x => some x
def rnLs (f : Nat → Option Nat) : List Lf → Option (List Lf)
  | [] => some []
  | x :: l => (rnL f x).bind fun y => (rnLs f l).map fun r => y :: r
def rnA (f : Nat → Option Nat) : AV → Option AV
  | .one x => (rnL f x).map .one
  | .agg l => (rnLs f l).map .agg
def rnAs (f : Nat → Option Nat) : List AV → Option (List AV)
  | [] => some []
  | x :: l => (rnA f x).bind fun y => (rnAs f l).map fun r => y :: r
def rnS (f : Nat → Option Nat) : SV → Option SV
  | .av x => (rnA f x).map .av
  | .tup l => (rnAs f l).map .tup
  | .un => some .un
  | .any => some .any
def rnB (f : Nat → Option Nat) : Blk → Option Blk
  | .cells ty l => (rnLs f l).map (.cells ty)
  | .row ty e l => some (.row ty e l)
  | .dead => some .dead

abbrev Rn := List (Nat × Nat)
/-- The second name of a first one; the first one of a second. -/
def fwd : Rn → Nat → Option Nat
  | [], _ => none
  | (c, b) :: r, x => match Nat.beq c x with
    | true => some b
    | false => fwd r x
def bwd : Rn → Nat → Option Nat
  | [], _ => none
  | (c, b) :: r, x => match Nat.beq b x with
    | true => some c
    | false => bwd r x
def rnOk : Rn → Bool
  | [] => true
  | (c, b) :: r => (fwd r c).isNone && ((bwd r b).isNone && rnOk r)

theorem fwd_bwd : ∀ {R : Rn} {c b : Nat}, rnOk R = true → fwd R c = some b → bwd R b = some c := by
  intro R
  induction R with
  | nil => intro c b _ h; cases h
  | cons p R ih =>
    obtain ⟨c0, b0⟩ := p
    intro c b hok h
    simp only [rnOk, Bool.and_eq_true, Option.isNone_iff_eq_none] at hok
    simp only [fwd] at h
    simp only [bwd]
    split at h
    · rename_i e
      simp only [Option.some.injEq] at h; subst h
      rw [Nat.beq_refl]
      exact congrArg some (Nat.eq_of_beq_eq_true e)
    · have h2 := ih hok.2.2 h
      split
      · rename_i e
        have e := Nat.eq_of_beq_eq_true e
        subst e
        rw [hok.2.1] at h2; cases h2
      · exact h2
theorem bwd_fwd : ∀ {R : Rn} {c b : Nat}, rnOk R = true → bwd R b = some c → fwd R c = some b := by
  intro R
  induction R with
  | nil => intro c b _ h; cases h
  | cons p R ih =>
    obtain ⟨c0, b0⟩ := p
    intro c b hok h
    simp only [rnOk, Bool.and_eq_true, Option.isNone_iff_eq_none] at hok
    simp only [bwd] at h
    simp only [fwd]
    split at h
    · rename_i e
      simp only [Option.some.injEq] at h; subst h
      rw [Nat.beq_refl]
      exact congrArg some (Nat.eq_of_beq_eq_true e)
    · have h2 := ih hok.2.2 h
      split
      · rename_i e
        have e := Nat.eq_of_beq_eq_true e
        subst e
        rw [hok.1] at h2; cases h2
      · exact h2

section
variable {S : Nat → Prop} {m m0 : Mp} {w : World} {f : Nat → Option Nat}

theorem rnL_rep (hf : ∀ b c, f b = some c → ∀ p, m b = some p → m0 c = some p) {x y : Lf} {cs : List Value} (h : rnL f x = some y) (hr : RepL S m w x cs) : RepL S m0 w y cs := by
  cases x with
  | v x => simp only [rnL, Option.some.injEq] at h; subst h; exact hr
  | dat k x => simp only [rnL, Option.some.injEq] at h; subst h; exact hr
  | ptr b o i s r =>
    simp only [rnL, Option.map_eq_some_iff] at h
    obtain ⟨c, h1, rfl⟩ := h
    obtain ⟨c', base, g1, g2⟩ := hr
    exact ⟨c', base, hf b c h1 _ g1, g2⟩
  | own b o i n s =>
    simp only [rnL, Option.map_eq_some_iff] at h
    obtain ⟨c, h1, rfl⟩ := h
    obtain ⟨a, cap, g1, g2, g3⟩ := hr
    refine ⟨a, cap, g1, g2, g3.imp id ?_⟩
    rintro ⟨c', base, ty, sz, k1, k2, k3, k4⟩
    exact ⟨c', base, ty, sz, hf b c h1 _ k1, k2, k3, k4⟩
  | fp k x o => simp only [rnL, Option.some.injEq] at h; subst h; exact hr

theorem rnLs_rep (hf : ∀ b c, f b = some c → ∀ p, m b = some p → m0 c = some p) : ∀ {x y : List Lf} {cs : List Value}, rnLs f x = some y → RepLs S m w x cs → RepLs S m0 w y cs := by
  intro x
  induction x with
  | nil => intro y cs h hr; simp only [rnLs, Option.some.injEq] at h; subst h; exact hr
  | cons x l ih =>
    intro y cs h hr
    simp only [rnLs, Option.bind_eq_some_iff, Option.map_eq_some_iff] at h
    obtain ⟨y', h1, r, h2, rfl⟩ := h
    obtain ⟨c1, c2, e, g1, g2⟩ := hr
    exact ⟨c1, c2, e, rnL_rep hf h1 g1, ih h2 g2⟩

theorem rnL_wide {x y : Lf} (h : rnL f x = some y) : y.wide = x.wide := by
  cases x <;> simp only [rnL, Option.some.injEq, Option.map_eq_some_iff] at h <;> first | (subst h; rfl) | (obtain ⟨_, _, rfl⟩ := h; rfl)

theorem rnA_rep (hf : ∀ b c, f b = some c → ∀ p, m b = some p → m0 c = some p) {x y : AV} {v : Value} (h : rnA f x = some y) (hr : RepA S m w x v) : RepA S m0 w y v := by
  cases x with
  | one x =>
    simp only [rnA, Option.map_eq_some_iff] at h
    obtain ⟨y', h1, rfl⟩ := h
    have hw := rnL_wide h1
    simp only [RepA] at hr ⊢
    rw [hw]
    split at hr
    · rename_i e; rw [if_pos e]; obtain ⟨cs, e1, h2⟩ := hr; exact ⟨cs, e1, rnL_rep hf h1 h2⟩
    · rename_i e; rw [if_neg e]; exact rnL_rep hf h1 hr
  | agg l =>
    simp only [rnA, Option.map_eq_some_iff] at h
    obtain ⟨y', h1, rfl⟩ := h
    obtain ⟨cs, e1, h2⟩ := hr
    exact ⟨cs, e1, rnLs_rep hf h1 h2⟩

theorem rnAs_rep (hf : ∀ b c, f b = some c → ∀ p, m b = some p → m0 c = some p) : ∀ {x y : List AV} {vs : List Value}, rnAs f x = some y → RepAs S m w x vs → RepAs S m0 w y vs := by
  intro x
  induction x with
  | nil => intro y vs h hr; simp only [rnAs, Option.some.injEq] at h; subst h; exact hr
  | cons x l ih =>
    intro y vs h hr
    simp only [rnAs, Option.bind_eq_some_iff, Option.map_eq_some_iff] at h
    obtain ⟨y', h1, r, h2, rfl⟩ := h
    obtain ⟨v, vs', e, g1, g2⟩ := hr
    exact ⟨v, vs', e, rnA_rep hf h1 g1, ih h2 g2⟩

theorem rnS_rep (hf : ∀ b c, f b = some c → ∀ p, m b = some p → m0 c = some p) {x y : SV} {v : Value} (h : rnS f x = some y) (hr : RepS S m w x v) : RepS S m0 w y v := by
  cases x with
  | av x => simp only [rnS, Option.map_eq_some_iff] at h; obtain ⟨y', h1, rfl⟩ := h; exact rnA_rep hf h1 hr
  | tup l =>
    simp only [rnS, Option.map_eq_some_iff] at h
    obtain ⟨y', h1, rfl⟩ := h
    obtain ⟨vs, e, h2⟩ := hr
    exact ⟨vs, e, rnAs_rep hf h1 h2⟩
  | un => simp only [rnS, Option.some.injEq] at h; subst h; exact hr
  | any => simp only [rnS, Option.some.injEq] at h; subst h; exact hr

theorem rnB_rep (hf : ∀ b c, f b = some c → ∀ p, m b = some p → m0 c = some p) {x y : Blk} {p : Option (Nat × Nat)} (h : rnB f x = some y) (hr : SimB S m w x p) : SimB S m0 w y p := by
  cases x with
  | cells ty l =>
    simp only [rnB, Option.map_eq_some_iff] at h
    obtain ⟨l', h1, rfl⟩ := h
    obtain ⟨c, cs, fr, e1, e2, e3, e4, e5⟩ := hr
    exact ⟨c, cs, fr, e1, e2, e3, e4, rnLs_rep hf h1 e5⟩
  | row ty e l => simp only [rnB, Option.some.injEq] at h; subst h; exact hr
  | dead => simp only [rnB, Option.some.injEq] at h; subst h; trivial

theorem rnB_live {x y : Blk} (h : rnB f x = some y) : y.live = x.live := by
  cases x <;> simp only [rnB, Option.some.injEq, Option.map_eq_some_iff] at h <;> first | (subst h; rfl) | (obtain ⟨_, _, rfl⟩ := h; rfl)
end

/-! ### A function's contract -/
/-- The call of a function (with or without a body of its own) comes back with what R says. -/
def CallsF (P : Program) (f : FuncId) (vs : Array Value) (w : World) (R : Value → World → Prop) : Prop :=
  ((callFunc f vs).run P w = .ok (.enter f vs) w ∧ Calls P f vs w fun e w' => match e with
    | .returned v => R v w'
    | _ => False) ∨
  ∃ v w', (callFunc f vs).run P w = .ok (.value v) w' ∧ R v w'

theorem CallsF.mono {P : Program} {f : FuncId} {vs : Array Value} {w : World} {R R' : Value → World → Prop} (h : CallsF P f vs w R) (hr : ∀ v w', R v w' → R' v w') : CallsF P f vs w R' := by
  rcases h with ⟨h1, h2⟩ | ⟨v, w', h1, h2⟩
  · exact .inl ⟨h1, Calls.mono h2 fun e w' he => by
      cases e with
      | returned v => exact hr v w' he
      | panicked => exact he
      | outgrown => exact he⟩
  · exact .inr ⟨v, w', h1, hr v w' h2⟩

def Snd (P : Program) (G : Nat → Option AV) (f : FuncId) (as : List AV) (L : Hp) (r : SV) (L' : Hp) : Prop :=
  ∀ (S : Nat → Prop) (m : Mp) (w : World) (vs : List Value), RepG S m w G → RepAs S m w as vs → SimH S m w L → Dom m L →
    CallsF P f vs.toArray w fun v w' => ∃ S' m', Tr S m w L S' m' w' L' ∧ SimH S' m' w' L' ∧ Dom m' L' ∧ RepS S' m' w' r v

/-- The callee's heap out of the caller's. -/
def subHp (R : Rn) (H : Hp) : Rn → Option Hp
  | [] => some []
  | (c, b) :: r => match hg H b with
    | some B => (rnB (bwd R) B).bind fun B' => (subHp R H r).map fun t => (c, B') :: t
    | none => subHp R H r
/-- The caller's blocks out of the callee's. -/
def outHp (R : Rn) : Hp → Option Hp
  | [] => some []
  | (c, B) :: r => (fwd R c).bind fun b => (rnB (fwd R) B).bind fun B' => (outHp R r).map fun t => (b, B') :: t

def nodupK : Hp → Bool
  | [] => true
  | (c, _) :: r => (hg r c).isNone && nodupK r
/-- All names of the first one are in the second one. -/
def keysIn : Hp → Hp → Bool
  | [], _ => true
  | (c, _) :: r, L => (hg L c).isSome && keysIn r L

theorem subHp_get {R : Rn} {H : Hp} : ∀ {r : Rn} {L : Hp}, subHp R H r = some L → ∀ c B', hg L c = some B' → ∃ b B, (c, b) ∈ r ∧ hg H b = some B ∧ rnB (bwd R) B = some B' := by
  intro r
  induction r with
  | nil => intro L h c B' hc; simp only [subHp, Option.some.injEq] at h; subst h; cases hc
  | cons p r ih =>
    obtain ⟨c0, b0⟩ := p
    intro L h c B' hc
    simp only [subHp] at h
    split at h
    · rename_i B hB
      simp only [Option.bind_eq_some_iff, Option.map_eq_some_iff] at h
      obtain ⟨B1, h1, t, h2, rfl⟩ := h
      by_cases e : c0 = c
      · subst e
        rw [hg_cons_eq] at hc
        simp only [Option.some.injEq] at hc; subst hc
        exact ⟨b0, B, List.mem_cons_self .., hB, h1⟩
      · rw [hg_cons_ne e] at hc
        obtain ⟨b, B2, g1, g2⟩ := ih h2 c B' hc
        exact ⟨b, B2, List.mem_cons_of_mem _ g1, g2⟩
    · obtain ⟨b, B2, g1, g2⟩ := ih h c B' hc
      exact ⟨b, B2, List.mem_cons_of_mem _ g1, g2⟩

theorem subHp_none {R : Rn} {H : Hp} : ∀ {r : Rn} {L : Hp}, subHp R H r = some L → ∀ c, hg L c = none → ∀ b, (c, b) ∈ r → hg H b = none := by
  intro r
  induction r with
  | nil => intro L h c hc b hb; cases hb
  | cons p r ih =>
    obtain ⟨c0, b0⟩ := p
    intro L h c hc b hb
    simp only [subHp] at h
    split at h
    · rename_i B hB
      simp only [Option.bind_eq_some_iff, Option.map_eq_some_iff] at h
      obtain ⟨B1, h1, t, h2, rfl⟩ := h
      by_cases e : c0 = c
      · subst e; rw [hg_cons_eq] at hc; cases hc
      · rw [hg_cons_ne e] at hc
        rcases List.mem_cons.1 hb with hb | hb
        · exact absurd (Prod.mk.inj hb).1.symm e
        · exact ih h2 c hc b hb
    · rename_i hB
      rcases List.mem_cons.1 hb with hb | hb
      · rw [(Prod.mk.inj hb).2]; exact hB
      · exact ih h c hc b hb

theorem fwd_mem : ∀ {R : Rn} {c b : Nat}, fwd R c = some b → (c, b) ∈ R := by
  intro R
  induction R with
  | nil => intro c b h; cases h
  | cons p R ih =>
    obtain ⟨c0, b0⟩ := p
    intro c b h
    simp only [fwd] at h
    split at h
    · rename_i e
      simp only [Option.some.injEq] at h; subst h
      rw [Nat.eq_of_beq_eq_true e]; exact List.mem_cons_self ..
    · exact List.mem_cons_of_mem _ (ih h)
theorem mem_fwd : ∀ {R : Rn} {c b : Nat}, rnOk R = true → (c, b) ∈ R → fwd R c = some b := by
  intro R
  induction R with
  | nil => intro c b _ h; cases h
  | cons p R ih =>
    obtain ⟨c0, b0⟩ := p
    intro c b hok h
    simp only [rnOk, Bool.and_eq_true, Option.isNone_iff_eq_none] at hok
    simp only [fwd]
    rcases List.mem_cons.1 h with h | h
    · obtain ⟨rfl, rfl⟩ := Prod.mk.inj h; rw [Nat.beq_refl]
    · have h2 := ih hok.2.2 h
      split
      · rename_i e
        have e := Nat.eq_of_beq_eq_true e
        subst e
        rw [hok.1] at h2; cases h2
      · exact h2

theorem outHp_mem {R : Rn} : ∀ {L U : Hp}, outHp R L = some U → ∀ b B', (b, B') ∈ U → ∃ c B, (c, B) ∈ L ∧ fwd R c = some b ∧ rnB (fwd R) B = some B' := by
  intro L
  induction L with
  | nil => intro U h b B' hb; simp only [outHp, Option.some.injEq] at h; subst h; cases hb
  | cons p L ih =>
    obtain ⟨c0, B0⟩ := p
    intro U h b B' hb
    simp only [outHp, Option.bind_eq_some_iff, Option.map_eq_some_iff] at h
    obtain ⟨b0, h1, B1, h2, t, h3, rfl⟩ := h
    rcases List.mem_cons.1 hb with hb | hb
    · obtain ⟨rfl, rfl⟩ := Prod.mk.inj hb
      exact ⟨c0, B0, List.mem_cons_self .., h1, h2⟩
    · obtain ⟨c, B, g1, g2⟩ := ih h3 b B' hb
      exact ⟨c, B, List.mem_cons_of_mem _ g1, g2⟩
theorem outHp_keys {R : Rn} : ∀ {L U : Hp}, outHp R L = some U → ∀ c, c ∈ keys L → ∃ b, fwd R c = some b ∧ b ∈ keys U := by
  intro L
  induction L with
  | nil => intro U h c hc; simp [keys] at hc
  | cons p L ih =>
    obtain ⟨c0, B0⟩ := p
    intro U h c hc
    simp only [outHp, Option.bind_eq_some_iff, Option.map_eq_some_iff] at h
    obtain ⟨b0, h1, B1, h2, t, h3, rfl⟩ := h
    simp only [keys, List.map_cons, List.mem_cons] at hc ⊢
    rcases hc with rfl | hc
    · exact ⟨b0, h1, .inl rfl⟩
    · obtain ⟨b, g1, g2⟩ := ih h3 c hc
      exact ⟨b, g1, .inr g2⟩

theorem nodupK_get : ∀ {L : Hp} {c : Nat} {B : Blk}, nodupK L = true → (c, B) ∈ L → hg L c = some B := by
  intro L
  induction L with
  | nil => intro c B _ h; cases h
  | cons p L ih =>
    obtain ⟨c0, B0⟩ := p
    intro c B hok h
    simp only [nodupK, Bool.and_eq_true, Option.isNone_iff_eq_none] at hok
    rcases List.mem_cons.1 h with h | h
    · obtain ⟨rfl, rfl⟩ := Prod.mk.inj h; exact hg_cons_eq
    · have h2 := ih hok.2 h
      rw [hg_cons_ne (fun e => by subst e; rw [hok.1] at h2; cases h2)]
      exact h2
theorem hg_mem : ∀ {L : Hp} {c : Nat} {B : Blk}, hg L c = some B → (c, B) ∈ L := by
  intro L
  induction L with
  | nil => intro c B h; cases h
  | cons p L ih =>
    obtain ⟨c0, B0⟩ := p
    intro c B h
    by_cases e : c0 = c
    · subst e; rw [hg_cons_eq] at h; simp only [Option.some.injEq] at h; subst h; exact List.mem_cons_self ..
    · rw [hg_cons_ne e] at h; exact List.mem_cons_of_mem _ (ih h)
theorem keysIn_get : ∀ {A L : Hp} {c : Nat} {B : Blk}, keysIn A L = true → (c, B) ∈ A → ∃ B', hg L c = some B' := by
  intro A
  induction A with
  | nil => intro L c B _ h; cases h
  | cons p A ih =>
    obtain ⟨c0, B0⟩ := p
    intro L c B hok h
    simp only [keysIn, Bool.and_eq_true] at hok
    rcases List.mem_cons.1 h with h | h
    · obtain ⟨rfl, rfl⟩ := Prod.mk.inj h; exact Option.isSome_iff_exists.1 hok.1
    · exact ih hok.2 h

/-- The call's own node: the callee's view, then back. -/
def ecall (H : Hp) (f : FuncId) (R : Rn) (xs : List AV) : Pg (SV × Hp) :=
  (sure (rnOk R)).bind fun _ => (opt (rnAs (bwd R) xs)).bind fun as => (opt (subHp R H R)).bind fun L =>
  .call f as L fun r L' => (sure (nodupK L' && keysIn L L')).bind fun _ => (opt (rnS (fwd R) r)).bind fun r' => (opt (outHp R L')).bind fun U => .ret (r', U)

section
variable {S : Nat → Prop} {m : Mp} {w : World} {P : Program} {L : Code → St → Ex → St → Prop} {H : Hp} {G : Nat → Option AV}

theorem ecall_run {f : FuncId} {R : Rn} {xs : List AV} {vs : List Value} {r : SV} {U : Hp} (hH : SimH S m w H) (hG : RepG S m w G) (hx : RepAs S m w xs vs) (hd : ∀ d, hg H d = none → d ∈ keys U → m d = none)
    (h : Yd (Snd P G) L (ecall H f R xs) (r, U)) (hdR : ∀ c b, (c, b) ∈ R → hg H b = none → m b = none) :
    CallsF P f vs.toArray w fun v w' => ∃ S' m', Ev S m w H S' m' w' U ∧ RepS S' m' w' r v := by
  unfold ecall at h
  obtain ⟨_, h0, h⟩ := yd_bind.1 h
  have hok := yd_sure.1 h0
  obtain ⟨as, h1, h⟩ := yd_bind.1 h
  have h1 := yd_opt.1 h1
  obtain ⟨L0, h2, h⟩ := yd_bind.1 h
  have h2 := yd_opt.1 h2
  obtain ⟨r0, L', hC, h⟩ := h
  obtain ⟨_, h3, h⟩ := yd_bind.1 h
  have h3 := yd_sure.1 h3
  simp only [Bool.and_eq_true] at h3
  obtain ⟨r', h4, h⟩ := yd_bind.1 h
  have h4 := yd_opt.1 h4
  obtain ⟨U', h5, h⟩ := yd_bind.1 h
  have h5 := yd_opt.1 h5
  obtain ⟨rfl, rfl⟩ := Prod.mk.inj (yd_ret.1 h)
  let m0 : Mp := fun c => (fwd R c).bind m
  have hin : ∀ b c, bwd R b = some c → ∀ p, m b = some p → m0 c = some p := by
    intro b c hb p hp
    show (fwd R c).bind m = some p
    rw [bwd_fwd hok hb]; exact hp
  have hm0 : ∀ c b, fwd R c = some b → m0 c = m b := by
    intro c b hb
    show (fwd R c).bind m = m b
    rw [hb]; rfl
  have hargs := rnAs_rep hin h1 hx
  have hlive : ∀ c B', hg L0 c = some B' → ∃ b B, fwd R c = some b ∧ hg H b = some B ∧ B.live = B'.live ∧ SimB S m0 w B' (m0 c) := by
    intro c B' hc
    obtain ⟨b, B, g1, g2, g3⟩ := subHp_get h2 c B' hc
    have g4 := mem_fwd hok g1
    refine ⟨b, B, g4, g2, (rnB_live g3).symm, ?_⟩
    rw [hm0 c b g4]
    exact rnB_rep hin g3 (hH.blk b B g2)
  have hL : SimH S m0 w L0 := by
    refine ⟨fun c B' hc => (hlive c B' hc).choose_spec.choose_spec.2.2.2, fun c c' B B' p p' k1 k2 k3 k4 k5 k6 k7 => ?_⟩
    obtain ⟨b1, B1, a1, a2, a3, _⟩ := hlive c B k1
    obtain ⟨b2, B2, e1, e2, e3, _⟩ := hlive c' B' k2
    rw [hm0 c b1 a1] at k5
    rw [hm0 c' b2 e1] at k6
    have := hH.inj b1 b2 B1 B2 p p' a2 e2 (a3.trans k3) (e3.trans k4) k5 k6 k7
    subst this
    have q1 := fwd_bwd hok a1
    have q2 := fwd_bwd hok e1
    rw [q1] at q2
    exact Option.some.inj q2
  have hD : Dom m0 L0 := by
    intro c hc
    cases hb : fwd R c with
    | none => show (fwd R c).bind m = none; rw [hb]; rfl
    | some b =>
      rw [hm0 c b hb]
      exact hdR c b (fwd_mem hb) (subHp_none h2 c hc b (fwd_mem hb))
  have hcall := hC S m0 w vs hG hargs hL hD
  refine CallsF.mono hcall fun v w' he => ?_
  obtain ⟨S', m0', hT, hS', hD', hr'⟩ := he
  let m' : Mp := fun b => match bwd R b with | some c => m0' c | none => m b
  have hm' : ∀ c b, fwd R c = some b → m' b = m0' c := by
    intro c b hb
    show (match bwd R b with | some c => m0' c | none => m b) = m0' c
    rw [fwd_bwd hok hb]
  have hout : ∀ c b, fwd R c = some b → ∀ p, m0' c = some p → m' b = some p := fun c b hb p hp => by rw [hm' c b hb]; exact hp
  have hmap : ∀ b p, m b = some p → m' b = some p := by
    intro b p hp
    show (match bwd R b with | some c => m0' c | none => m b) = some p
    cases hb : bwd R b with
    | none => exact hp
    | some c => exact hT.mv.map c p (hin b c hb p hp)
  refine ⟨S', m', ⟨⟨hT.mv.size, hT.mv.fro, hT.mv.shp, hmap, hT.mv.sm⟩, fun c hc hf => ?_, fun b B hb => ?_, fun b B p hb hl hp => ?_, fun b b' B B' p p' hb hb' hl hl' hp hp' hpp => ?_, fun b hb => ?_⟩, rnS_rep hout h4 hr'⟩
  · refine hT.frame c hc fun c0 B0 p k1 k2 k3 => ?_
    obtain ⟨b1, B1, a1, a2, a3, _⟩ := hlive c0 B0 k1
    rw [hm0 c0 b1 a1] at k3
    obtain ⟨B2, hB2⟩ := keysIn_get h3.2 (hg_mem k1)
    obtain ⟨b2, a4, a5⟩ := outHp_keys h5 c0 (mem_keys (hg_mem hB2))
    rw [a1] at a4
    simp only [Option.some.injEq] at a4
    subst a4
    exact hf b1 B1 p a5 a2 (a3.trans k2) k3
  · obtain ⟨c, B0, g1, g2, g3⟩ := outHp_mem h5 b B hb
    rw [hm' c b g2]
    exact rnB_rep hout g3 (hS'.blk c B0 (nodupK_get h3.1 g1))
  · obtain ⟨c, B0, g1, g2, g3⟩ := outHp_mem h5 b B hb
    rw [hm' c b g2] at hp
    rcases hT.own c B0 p (nodupK_get h3.1 g1) (by rw [← rnB_live g3]; exact hl) hp with k1 | ⟨c0, B1, p0, k1, k2, k3, k4⟩
    · exact .inl k1
    · obtain ⟨b1, B2, a1, a2, a3, _⟩ := hlive c0 B1 k1
      rw [hm0 c0 b1 a1] at k3
      obtain ⟨B3, hB3⟩ := keysIn_get h3.2 (hg_mem k1)
      obtain ⟨b2, a4, a5⟩ := outHp_keys h5 c0 (mem_keys (hg_mem hB3))
      rw [a1] at a4
      simp only [Option.some.injEq] at a4
      subst a4
      exact .inr ⟨b1, B2, p0, a5, a2, a3.trans k2, k3, k4⟩
  · obtain ⟨c, B0, g1, g2, g3⟩ := outHp_mem h5 b B hb
    obtain ⟨c', B0', g1', g2', g3'⟩ := outHp_mem h5 b' B' hb'
    rw [hm' c b g2] at hp
    rw [hm' c' b' g2'] at hp'
    have := hS'.inj c c' B0 B0' p p' (nodupK_get h3.1 g1) (nodupK_get h3.1 g1') (by rw [← rnB_live g3]; exact hl) (by rw [← rnB_live g3']; exact hl') hp hp' hpp
    subst this
    rw [g2] at g2'
    exact Option.some.inj g2'
  · show (match bwd R b with | some c => m0' c | none => m b) = m b
    cases hbw : bwd R b with
    | none => rfl
    | some c =>
      show m0' c = m b
      have hfw := bwd_fwd hok hbw
      cases hL' : hg L' c with
      | some B =>
        obtain ⟨b2, a4, a5⟩ := outHp_keys h5 c (mem_keys (hg_mem hL'))
        rw [hfw] at a4
        simp only [Option.some.injEq] at a4
        subst a4
        exact absurd a5 hb
      | none =>
        have hn := hD' c hL'
        rw [hn]
        cases hmb : m b with
        | none => rfl
        | some p =>
          have := hT.mv.map c p (hin b c hbw p hmb)
          rw [hn] at this; cases this

/-! ### Own rows lent to a callee -/
def flatK : K → Bool
  | .sl _ => false
  | .arr _ e => flatK e
  | .pair a b => flatK a && flatK b
  | _ => true
def flatLf : Lf → Bool
  | .dat k _ => flatK k
  | .fp .. => false
  | _ => true
def flatLs : List Lf → Bool
  | [] => true
  | x :: l => flatLf x && flatLs l
def flatA : AV → Bool
  | .one x => flatLf x
  | .agg l => flatLs l
def flatAs : List AV → Bool
  | [] => true
  | x :: l => flatA x && flatAs l
def flatS : SV → Bool
  | .av x => flatA x
  | .tup l => flatAs l
  | _ => true
def flatB : Blk → Bool
  | .cells _ l => flatLs l
  | .row _ e _ => flatK e
  | .dead => true
def flatU : Hp → Bool
  | [] => true
  | (_, B) :: U => flatB B && flatU U
def memN (b : Nat) : List Nat → Bool
  | [] => false
  | c :: r => Nat.beq b c || memN b r
def disN : List Nat → List Nat → Bool
  | [], _ => true
  | x :: r, l => !(memN x l) && disN r l
/-- The heap without some blocks. -/
def hpBut (lo : List Nat) : Hp → Hp
  | [] => []
  | (i, B) :: r => match memN i lo with
    | true => hpBut lo r
    | false => (i, B) :: hpBut lo r

/-- An own row as a leaf of what it holds. -/
def loanL (H : Hp) (lo : List Nat) (x : Lf) : Pg Lf :=
  match x with
  | .own b o i n s => match memN b lo with
    | true => match viewArr H b o with
      | some V => (sure (Nat.beq V.k.sz s)).bind fun _ => (piece V.x V.n i n).bind fun l => .ret (.dat (.sl V.k) l)
      | none => .fail
    | false => .ret x
  | x => .ret x
def loanLs (H : Hp) (lo : List Nat) : List Lf → Pg (List Lf)
  | [] => .ret []
  | x :: r => (loanL H lo x).bind fun y => (loanLs H lo r).bind fun l => .ret (y :: l)
def loanA (H : Hp) (lo : List Nat) (x : AV) : Pg AV :=
  match x with
  | .one x => (loanL H lo x).bind fun y => .ret (.one y)
  | .agg l => (loanLs H lo l).bind fun r => .ret (.agg r)
def loanAs (H : Hp) (lo : List Nat) : List AV → Pg (List AV)
  | [] => .ret []
  | x :: r => (loanA H lo x).bind fun y => (loanAs H lo r).bind fun l => .ret (y :: l)

/-- Blocks that are given away. -/
def deads : List Nat → Hp → Hp
  | [], U => U
  | b :: r, U => (b, .dead) :: deads r U

/-- A call with rows that are lent (lo) and rows that are given away (gi). -/
def ecallL (H : Hp) (f : FuncId) (R : Rn) (lo gi : List Nat) (xs : List AV) : Pg (SV × Hp) :=
  match lo, gi with
  | [], [] => ecall H f R xs
  | lo, gi => (loanAs H (lo ++ gi) xs).bind fun ys => (ecall (hpBut (lo ++ gi) H) f R ys).bind fun p =>
    (sure ((lo.isEmpty || (flatS p.1 && flatU p.2)) && (disN (keys p.2) (lo ++ gi) && disN (R.map (·.2)) (lo ++ gi)))).bind fun _ => .ret (p.1, deads gi p.2)

/-! ### Slices that are nil, as data -/
def nil1 (e : K) : List Lf → List Lf × List Lf
  | .v (.slice none 0 0) :: r => ([.dat (.sl e) []], r)
  | x :: r => ([x], r)
  | [] => ([], [])
def nilLeafs : K → List Lf → List Lf × List Lf
  | .sl e, l => nil1 e l
  | .pair a b, l => match nilLeafs a l with
    | (x, r) => match nilLeafs b r with
      | (y, r') => (x ++ y, r')
  | .unit, l => ([], l)
  | _, x :: r => ([x], r)
  | _, [] => ([], [])
def hasNil : List Lf → Bool
  | [] => false
  | .v (.slice none 0 0) :: _ => true
  | _ :: r => hasNil r
def nilA (P : Program) (t : TypeId) (x : AV) : AV :=
  match x with
  | .one (.v (.slice none 0 0)) => match kindOf P 20 t with
    | some (.sl e) => .one (.dat (.sl e) [])
    | _ => x
  | .agg l => match hasNil l with
    | true => match kindOf P 20 t with
      | some k => match nilLeafs k l with
        | (l', []) => .agg l'
        | _ => x
      | none => x
    | false => x
  | x => x
def nilAs (P : Program) : List TypeId → List AV → List AV
  | t :: ts, x :: xs => nilA P t x :: nilAs P ts xs
  | _, xs => xs
def nilArgs (P : Program) (f : FuncId) (xs : List AV) : List AV :=
  match P.funcs[f]? with
  | some fn => nilAs P fn.params.toList xs
  | none => xs

theorem memN_iff {b : Nat} : ∀ {l : List Nat}, memN b l = true ↔ b ∈ l := by
  intro l
  induction l with
  | nil => simp [memN]
  | cons c r ih =>
    simp only [memN, Bool.or_eq_true, List.mem_cons, ih]
    constructor
    · rintro (h | h)
      · exact .inl (Nat.eq_of_beq_eq_true h)
      · exact .inr h
    · rintro (rfl | h)
      · exact .inl (Nat.beq_refl _)
      · exact .inr h
theorem disN_iff : ∀ {a b : List Nat}, disN a b = true ↔ ∀ x, x ∈ a → x ∉ b := by
  intro a
  induction a with
  | nil => intro b; simp [disN]
  | cons x a ih =>
    intro b
    simp only [disN, Bool.and_eq_true, Bool.not_eq_true', ih, List.mem_cons, forall_eq_or_imp]
    have : memN x b = false ↔ x ∉ b := by rw [← memN_iff]; simp
    rw [this]
theorem hg_but {lo : List Nat} : ∀ {H : Hp} {b : Nat}, hg (hpBut lo H) b = if b ∈ lo then none else hg H b := by
  intro H
  induction H with
  | nil => intro b; simp [hpBut, hg]
  | cons p r ih =>
    obtain ⟨i, A⟩ := p
    intro b
    simp only [hpBut]
    split
    · rename_i e
      have e := memN_iff.1 e
      rw [ih]
      by_cases h : i = b
      · subst h; rw [if_pos e, if_pos e]
      · rw [hg_cons_ne h]
    · rename_i e
      have e : i ∉ lo := fun h => by rw [memN_iff.2 h] at e; cases e
      by_cases h : i = b
      · subst h; rw [hg_cons_eq, hg_cons_eq, if_neg e]
      · rw [hg_cons_ne h, hg_cons_ne h, ih]

section
variable {S S' : Nat → Prop} {m : Mp} {w : World}
theorem flatK_rep : ∀ {k : K} {x : k.T} {cs : List Value}, flatK k = true → RepD S w k x cs → RepD S' w k x cs := by
  intro k
  induction k with
  | int kk => intro x cs _ h; exact h
  | bool => intro x cs _ h; exact h
  | str => intro x cs _ h; exact h
  | sl e ih => intro x cs h; cases h
  | arr n e ih => intro x cs hf hh; exact ⟨hh.1, hh.2.1, fun i hi => ih hf (hh.2.2 i hi)⟩
  | pair a b iha ihb =>
    intro x cs hf hh
    simp only [flatK, Bool.and_eq_true] at hf
    obtain ⟨c1, c2, e1, h1, h2⟩ := hh
    exact ⟨c1, c2, e1, iha hf.1 h1, ihb hf.2 h2⟩
  | unit => intro x cs _ h; exact h
theorem flatLf_rep {x : Lf} {cs : List Value} (hf : flatLf x = true) (h : RepL S m w x cs) : RepL S' m w x cs := by
  cases x with
  | v x => exact h
  | dat k x => exact flatK_rep hf h
  | ptr => exact h
  | own => exact h
  | fp => cases hf
theorem flatLs_rep : ∀ {l : List Lf} {cs : List Value}, flatLs l = true → RepLs S m w l cs → RepLs S' m w l cs := by
  intro l
  induction l with
  | nil => intro cs _ h; exact h
  | cons x l ih =>
    intro cs hf h
    simp only [flatLs, Bool.and_eq_true] at hf
    obtain ⟨c1, c2, e, h1, h2⟩ := h
    exact ⟨c1, c2, e, flatLf_rep hf.1 h1, ih hf.2 h2⟩
theorem flatA_rep {x : AV} {v : Value} (hf : flatA x = true) (h : RepA S m w x v) : RepA S' m w x v := by
  cases x with
  | one x =>
    simp only [RepA] at h ⊢
    split at h
    · rename_i e; rw [if_pos e]; obtain ⟨cs, e1, h1⟩ := h; exact ⟨cs, e1, flatLf_rep hf h1⟩
    · rename_i e; rw [if_neg e]; exact flatLf_rep hf h
  | agg l => obtain ⟨cs, e1, h1⟩ := h; exact ⟨cs, e1, flatLs_rep hf h1⟩
theorem flatAs_rep : ∀ {l : List AV} {vs : List Value}, flatAs l = true → RepAs S m w l vs → RepAs S' m w l vs := by
  intro l
  induction l with
  | nil => intro vs _ h; exact h
  | cons x l ih =>
    intro vs hf h
    simp only [flatAs, Bool.and_eq_true] at hf
    obtain ⟨v, vs', e, h1, h2⟩ := h
    exact ⟨v, vs', e, flatA_rep hf.1 h1, ih hf.2 h2⟩
theorem flatS_rep {x : SV} {v : Value} (hf : flatS x = true) (h : RepS S m w x v) : RepS S' m w x v := by
  cases x with
  | av x => exact flatA_rep hf h
  | tup l => obtain ⟨vs, e, h1⟩ := h; exact ⟨vs, e, flatAs_rep hf h1⟩
  | un => exact h
  | any => trivial
theorem flatB_rep (hS : ∀ c, S c → S' c) {B : Blk} {p : Option (Nat × Nat)} (hf : flatB B = true) (h : SimB S m w B p) : SimB S' m w B p := by
  cases B with
  | cells ty l =>
    obtain ⟨c, cs, fr, e1, e2, e3, e4, e5⟩ := h
    exact ⟨c, cs, fr, e1, e2, e3, hS c e4, flatLs_rep hf e5⟩
  | row ty e l =>
    rcases h with h | ⟨c, base, cs, fr, e1, e2, e3, e4, e5, e6⟩
    · exact .inl h
    · exact .inr ⟨c, base, cs, fr, e1, e2, e3, hS c e4, e5, fun i hi => flatK_rep hf (e6 i hi)⟩
  | dead => trivial
theorem flatU_get : ∀ {U : Hp} {b : Nat} {B : Blk}, flatU U = true → (b, B) ∈ U → flatB B = true := by
  intro U
  induction U with
  | nil => intro b B _ h; cases h
  | cons p U ih =>
    obtain ⟨c, A⟩ := p
    intro b B hf h
    simp only [flatU, Bool.and_eq_true] at hf
    rcases List.mem_cons.1 h with h | h
    · obtain ⟨rfl, rfl⟩ := Prod.mk.inj h; exact hf.1
    · exact ih hf.2 h
end

/-- The blocks that are lent. -/
def Lent (H : Hp) (m : Mp) (lo : List Nat) (c : Nat) : Prop := ∃ b B base, b ∈ lo ∧ hg H b = some B ∧ B.live = true ∧ m b = some (c, base)

theorem viewArr_len {H : Hp} {b o : Nat} {V : VA} (hH : SimH S m w H) (h : viewArr H b o = some V) : V.x.length = V.n := by
  unfold viewArr at h
  split at h
  · split at h
    · simp only [Option.some.injEq] at h; subst h; rfl
    · cases h
  · rename_i ty ls hb
    split at h
    · rename_i N k x rest hs
      simp only [Option.some.injEq] at h; subst h
      obtain ⟨c', cs, fr, e1, e2, e3, e4, e5⟩ := hH.blk _ _ hb
      obtain ⟨g1, d1, d2, g2, g3, g4⟩ := segAt_rep hs e5
      exact g3.1
    · cases h
  · cases h

theorem loan_mv {H : Hp} {lo : List Nat} : Mv S m w (fun c => S c ∧ ¬ Lent H m lo c) m w :=
  ⟨Nat.le_refl _, fun c _ h => ⟨fun h' => h h'.1, rfl⟩, fun _ _ h => h, fun _ _ h => h, Same.refl w⟩

theorem loanL_rep {C : FuncId → List AV → Hp → SV → Hp → Prop} {lo : List Nat} {x y : Lf} {v : List Value} (hH : SimH S m w H) (h : Yd C L (loanL H lo x) y) (hr : RepL S m w x v) : RepL (fun c => S c ∧ ¬ Lent H m lo c) m w y v ∧ y.wide = x.wide := by
  unfold loanL at h
  split at h
  · rename_i b o i n s
    split at h
    · rename_i hb
      have hb := memN_iff.1 hb
      split at h
      · rename_i V hV
        obtain ⟨_, h1, h⟩ := yd_bind.1 h
        have h1 := Nat.eq_of_beq_eq_true (yd_sure.1 h1)
        obtain ⟨l, h2, h⟩ := yd_bind.1 h
        have h := yd_ret.1 h; subst h
        have hlen := viewArr_len hH hV
        obtain ⟨h3, h4⟩ := piece_rep h2 hlen
        have hll : l.length = n := by rw [h4]; simp; omega
        obtain ⟨a, cap, e1, e2, e3⟩ := hr
        subst e1
        refine ⟨⟨a, cap, by rw [show List.length l = n from hll], by rw [show List.length l = n from hll]; exact e2, fun hne => ?_⟩, rfl⟩
        have hn : 0 < n := by
          rcases Nat.eq_zero_or_pos n with h0 | h0
          · exact absurd (List.length_eq_zero_iff.1 (hll.trans h0)) hne
          · exact h0
        rcases e3 with e3 | ⟨c, base, ty, sz, f1, f2, f3, f4⟩
        · omega
        obtain ⟨B, ty', fr, cs, A, D, E, g1, g2, g3, g4, g5, g6, g7, g8, _⟩ := viewArr_rep hH hV f1
        have hat := at_block g3
        have hsz : c < w.heap.size := by
          rcases Nat.lt_or_ge c w.heap.size with h5 | h5
          · exact h5
          · rw [Array.getElem?_eq_none h5] at g3; cases g3
        refine ⟨c, _, f2, fun h => h.2 ⟨b, B, base, hb, g1, g2, f1⟩, hsz, fun j hj => ?_⟩
        rw [show List.length l = n from hll] at hj
        have hel := g8.2.2 (i + j) (by omega)
        have hgd : gd V.k l j = gd V.k V.x (i + j) := by rw [h4]; exact gd_piece (by omega) hj
        rw [hgd]
        refine ⟨_, RepD.mv loan_mv hel, ?_, fun q u hq => ?_⟩
        · have h5 := g8.2.1
          have : (i + j + 1) * V.k.sz ≤ V.n * V.k.sz := Nat.mul_le_mul_right _ (by omega)
          rw [Nat.add_mul, Nat.one_mul] at this
          simp; omega
        · have hD : At w c (base + o) D := by
            intro p u hp
            have h6 := (hat.drop (A.length)) p u (by
              rw [g6, List.drop_append, List.drop_of_length_le (Nat.le_refl _), List.nil_append, Nat.sub_self, List.drop_zero, List.getElem?_append_left (List.getElem?_eq_some_iff.1 hp).1]
              exact hp)
            rw [Nat.zero_add, g7] at h6
            exact h6
          have h7 := ((hD.drop ((i + j) * V.k.sz)).take V.k.sz) q u hq
          rw [h1, Nat.add_mul] at h7
          have e9 : base + (o + i * s) + (j * V.k.sz + q) = base + o + (i * s + j * s) + q := by rw [h1]; omega
          rw [e9]; exact h7
      · exact fail_absurd h
    · have h := yd_ret.1 h; subst h; exact ⟨RepL.mv loan_mv hr, rfl⟩
  · have h := yd_ret.1 h; subst h; exact ⟨RepL.mv loan_mv hr, rfl⟩

theorem loanLs_rep {C : FuncId → List AV → Hp → SV → Hp → Prop} {lo : List Nat} (hH : SimH S m w H) : ∀ {xs ys : List Lf} {vs : List Value}, Yd C L (loanLs H lo xs) ys → RepLs S m w xs vs → RepLs (fun c => S c ∧ ¬ Lent H m lo c) m w ys vs := by
  intro xs
  induction xs with
  | nil => intro ys vs h hr; have h := yd_ret.1 h; subst h; exact hr
  | cons x xs ih =>
    intro ys vs h hr
    obtain ⟨y, h1, h⟩ := yd_bind.1 h
    obtain ⟨l, h2, h⟩ := yd_bind.1 h
    have h := yd_ret.1 h; subst h
    obtain ⟨c1, c2, e, g1, g2⟩ := hr
    exact ⟨c1, c2, e, (loanL_rep hH h1 g1).1, ih h2 g2⟩

theorem loanA_rep {C : FuncId → List AV → Hp → SV → Hp → Prop} {lo : List Nat} {x y : AV} {v : Value} (hH : SimH S m w H) (h : Yd C L (loanA H lo x) y) (hr : RepA S m w x v) : RepA (fun c => S c ∧ ¬ Lent H m lo c) m w y v := by
  cases x with
  | one x =>
    obtain ⟨z, h1, h⟩ := yd_bind.1 h
    have h := yd_ret.1 h; subst h
    simp only [RepA] at hr ⊢
    split at hr
    · obtain ⟨cs, e, h2⟩ := hr
      obtain ⟨h3, h4⟩ := loanL_rep hH h1 h2
      rename_i hw
      rw [if_pos (h4.trans hw)]
      exact ⟨cs, e, h3⟩
    · obtain ⟨h3, h4⟩ := loanL_rep hH h1 hr
      rename_i hw
      rw [if_neg (by rw [h4]; exact hw)]
      exact h3
  | agg l =>
    obtain ⟨r, h1, h⟩ := yd_bind.1 h
    have h := yd_ret.1 h; subst h
    obtain ⟨cs, e, h2⟩ := hr
    exact ⟨cs, e, loanLs_rep hH h1 h2⟩

theorem loanAs_rep {C : FuncId → List AV → Hp → SV → Hp → Prop} {lo : List Nat} (hH : SimH S m w H) : ∀ {xs ys : List AV} {vs : List Value}, Yd C L (loanAs H lo xs) ys → RepAs S m w xs vs → RepAs (fun c => S c ∧ ¬ Lent H m lo c) m w ys vs := by
  intro xs
  induction xs with
  | nil => intro ys vs h hr; have h := yd_ret.1 h; subst h; exact hr
  | cons x xs ih =>
    intro ys vs h hr
    obtain ⟨y, h1, h⟩ := yd_bind.1 h
    obtain ⟨l, h2, h⟩ := yd_bind.1 h
    have h := yd_ret.1 h; subst h
    obtain ⟨v, vs', e, g1, g2⟩ := hr
    exact ⟨v, vs', e, loanA_rep hH h1 g1, ih h2 g2⟩

theorem deads_mem : ∀ {gi : List Nat} {U : Hp} {b : Nat} {B : Blk}, (b, B) ∈ deads gi U → B.live = true → (b, B) ∈ U := by
  intro gi
  induction gi with
  | nil => intro U b B h _; exact h
  | cons c r ih =>
    intro U b B h hl
    rcases List.mem_cons.1 h with h | h
    · obtain ⟨rfl, rfl⟩ := Prod.mk.inj h; cases hl
    · exact ih h hl
theorem deads_cases : ∀ {gi : List Nat} {U : Hp} {b : Nat} {B : Blk}, (b, B) ∈ deads gi U → B = .dead ∨ (b, B) ∈ U := by
  intro gi
  induction gi with
  | nil => intro U b B h; exact .inr h
  | cons c r ih =>
    intro U b B h
    rcases List.mem_cons.1 h with h | h
    · obtain ⟨rfl, rfl⟩ := Prod.mk.inj h; exact .inl rfl
    · exact ih h
theorem deads_keys : ∀ {gi : List Nat} {U : Hp} {b : Nat}, b ∈ keys (deads gi U) ↔ b ∈ gi ∨ b ∈ keys U := by
  intro gi
  induction gi with
  | nil => intro U b; simp [deads]
  | cons c r ih =>
    intro U b
    have := @ih U b
    simp only [keys, deads, List.map_cons, List.mem_cons] at this ⊢
    rw [this]
    constructor
    · rintro (h | h | h)
      · exact .inl (.inl h)
      · exact .inl (.inr h)
      · exact .inr h
    · rintro ((h | h) | h)
      · exact .inl h
      · exact .inr (.inl h)
      · exact .inr (.inr h)

theorem ecallL_run {f : FuncId} {R : Rn} {lo gi : List Nat} {xs : List AV} {vs : List Value} {r : SV} {U : Hp} (hH : SimH S m w H) (hG : RepG S m w G) (hx : RepAs S m w xs vs) (hd : ∀ d, hg H d = none → d ∈ keys U → m d = none)
    (h : Yd (Snd P G) L (ecallL H f R lo gi xs) (r, U)) (hdR : ∀ c b, (c, b) ∈ R → hg H b = none → m b = none) :
    CallsF P f vs.toArray w fun v w' => ∃ S' m', Ev S m w H S' m' w' U ∧ RepS S' m' w' r v := by
  unfold ecallL at h
  split at h
  · exact ecall_run hH hG hx hd h hdR
  · obtain ⟨ys, h1, h⟩ := yd_bind.1 h
    obtain ⟨p, h2, h⟩ := yd_bind.1 h
    obtain ⟨_, h3, h⟩ := yd_bind.1 h
    obtain ⟨rfl, rfl⟩ := Prod.mk.inj (yd_ret.1 h)
    have h3 := yd_sure.1 h3
    simp only [Bool.and_eq_true, Bool.or_eq_true] at h3
    obtain ⟨hflat, dU, dR⟩ := h3
    have dU := disN_iff.1 dU
    have dR := disN_iff.1 dR
    have hmv : Mv S m w (fun c => S c ∧ ¬ Lent H m (lo ++ gi) c) m w := loan_mv
    have hsub : ∀ b B, hg (hpBut (lo ++ gi) H) b = some B → b ∉ lo ++ gi ∧ hg H b = some B := fun b B hb => by
      rw [hg_but] at hb
      split at hb
      · cases hb
      · rename_i hn; exact ⟨hn, hb⟩
    have hlive : ∀ b B c base, b ∉ lo ++ gi → hg H b = some B → B.live = true → m b = some (c, base) → ¬ Lent H m (lo ++ gi) c := by
      rintro b B c base hn hb hl hm ⟨b', B', base', k1, k2, k3, k4⟩
      have := hH.inj b' b B' B (c, base') (c, base) k2 hb k3 hl k4 hm rfl
      exact hn (this ▸ k1)
    have hH' : SimH (fun c => S c ∧ ¬ Lent H m (lo ++ gi) c) m w (hpBut (lo ++ gi) H) := by
      refine ⟨fun b B hb => ?_, fun b b' B B' p p' k1 k2 => hH.inj b b' B B' p p' (hsub b B k1).2 (hsub b' B' k2).2⟩
      obtain ⟨hn, hb⟩ := hsub b B hb
      by_cases hl : B.live = true
      · refine (hH.blk b B hb).mv hmv fun c base hm => ⟨rfl, ?_, hlive b B c base hn hb hl hm⟩
        have := hH.blk b B hb
        rw [hm] at this
        exact (this.at hl).2
      · cases B <;> first | trivial | exact absurd rfl hl
    have hLa : ∀ c, Lent H m (lo ++ gi) c → Lent H m lo c ∨ Lent H m gi c := by
      rintro c ⟨b, B, base, k1, k2⟩
      rcases List.mem_append.1 k1 with k1 | k1
      · exact .inl ⟨b, B, base, k1, k2⟩
      · exact .inr ⟨b, B, base, k1, k2⟩
    have hLo : ∀ c, Lent H m lo c → Lent H m (lo ++ gi) c := by
      rintro c ⟨b, B, base, k1, k2⟩
      exact ⟨b, B, base, List.mem_append.2 (.inl k1), k2⟩
    have hcall := ecall_run hH' (hG.mv hmv) (loanAs_rep hH h1 hx) (fun d k1 k2 => ?_) h2 (fun c b k1 k2 => ?_)
    · refine CallsF.mono hcall fun v w' ⟨S', m', hE, hr⟩ => ?_
      have hS : ∀ x, RepS S' m' w' p.1 x → RepS (fun c => S' c ∨ (S c ∧ Lent H m lo c)) m' w' p.1 x := by
        rcases hflat with he | hf
        · intro x hx
          have : (fun c => S' c ∨ (S c ∧ Lent H m lo c)) = S' := by
            funext c
            have : lo = [] := by simpa using he
            subst this
            refine propext ⟨fun h => h.elim id fun h => ?_, .inl⟩
            obtain ⟨_, b, _, _, k1, _⟩ := h; cases k1
          rw [this]; exact hx
        · intro x hx; exact flatS_rep hf.1 hx
      have hB : ∀ b B, (b, B) ∈ p.2 → SimB (fun c => S' c ∨ (S c ∧ Lent H m lo c)) m' w' B (m' b) := by
        intro b B hb
        rcases hflat with he | hf
        · have : (fun c => S' c ∨ (S c ∧ Lent H m lo c)) = S' := by
            funext c
            have : lo = [] := by simpa using he
            subst this
            refine propext ⟨fun h => h.elim id fun h => ?_, .inl⟩
            obtain ⟨_, b, _, _, k1, _⟩ := h; cases k1
          rw [this]; exact hE.sim b B hb
        · exact flatB_rep (fun c h => .inl h) (flatU_get hf.2 hb) (hE.sim b B hb)
      refine ⟨fun c => S' c ∨ (S c ∧ Lent H m lo c), m', ⟨⟨hE.mv.size, fun c hc hn => ?_, hE.mv.shp, hE.mv.map, hE.mv.sm⟩, fun c hc hf => ?_, fun b B hb => ?_, fun b B p' hb hl hp => ?_,
        fun b b' B B' p1 p2 k1 k2 k3 k4 => hE.inj b b' B B' p1 p2 (deads_mem k1 k3) (deads_mem k2 k4) k3 k4, fun b hb => hE.dom b fun h => hb (deads_keys.2 (.inr h))⟩, hS _ hr⟩
      · obtain ⟨g1, g2⟩ := hE.mv.fro c hc (fun h => hn h.1)
        exact ⟨fun h => h.elim g1 (fun h => hn h.1), g2⟩
      · by_cases hlc : Lent H m (lo ++ gi) c
        · refine ⟨(hE.mv.fro c hc (fun h => h.2 hlc)).2, fun h => ?_⟩
          rcases hLa c hlc with k | ⟨b, B, base, k1, k2, k3, k4⟩
          · exact .inr ⟨h, k⟩
          · exact absurd rfl (hf b B (c, base) (deads_keys.2 (.inl k1)) k2 k3 k4)
        · obtain ⟨g1, g2⟩ := hE.frame c hc fun b B p k1 k2 k3 k4 => hf b B p (deads_keys.2 (.inr k1)) (hsub b B k2).2 k3 k4
          exact ⟨g1, fun h => .inl (g2 ⟨h, hlc⟩)⟩
      · rcases deads_cases hb with rfl | hb
        · trivial
        · exact hB b B hb
      · rcases hE.own b B p' (deads_mem hb hl) hl hp with k1 | ⟨b0, B0, p0, k0, k1, k2, k3, k4⟩
        · exact .inl k1
        · exact .inr ⟨b0, B0, p0, deads_keys.2 (.inr k0), (hsub b0 B0 k1).2, k2, k3, k4⟩
    · rw [hg_but] at k1
      split at k1
      · rename_i hn; exact absurd hn (dU d k2)
      · exact hd d k1 (deads_keys.2 (.inr k2))
    · rw [hg_but] at k2
      split at k2
      · rename_i hn; exact absurd hn (dR b (List.mem_map.2 ⟨(c, b), k1, rfl⟩))
      · exact hdR c b k1 k2

theorem nilLeafs_rep : ∀ {k : K} {l x r : List Lf} {cs : List Value}, nilLeafs k l = (x, r) → RepLs S m w l cs → RepLs S m w (x ++ r) cs := by
  intro k
  induction k with
  | sl e ih =>
    intro l x r cs h hr
    simp only [nilLeafs] at h
    unfold nil1 at h
    split at h
    · obtain ⟨rfl, rfl⟩ := Prod.mk.inj h
      obtain ⟨c1, c2, e, g1, g2⟩ := hr
      refine ⟨c1, c2, e, ?_, g2⟩
      rw [g1.1]
      exact ⟨none, 0, rfl, Nat.le_refl _, fun h => absurd rfl h⟩
    · obtain ⟨rfl, rfl⟩ := Prod.mk.inj h; exact hr
    · obtain ⟨rfl, rfl⟩ := Prod.mk.inj h; exact hr
  | pair a b iha ihb =>
    intro l x r cs h hr
    simp only [nilLeafs] at h
    have h1 := iha (l := l) (x := (nilLeafs a l).1) (r := (nilLeafs a l).2) rfl hr
    obtain ⟨c1, c2, e, g1, g2⟩ := RepLs.append.1 h1
    have h2 := ihb (l := (nilLeafs a l).2) (x := (nilLeafs b (nilLeafs a l).2).1) (r := (nilLeafs b (nilLeafs a l).2).2) rfl g2
    obtain ⟨rfl, rfl⟩ := Prod.mk.inj h
    rw [List.append_assoc]
    exact RepLs.append.2 ⟨c1, c2, e, g1, h2⟩
  | unit =>
    intro l x r cs h hr
    simp only [nilLeafs] at h
    obtain ⟨rfl, rfl⟩ := Prod.mk.inj h
    exact hr
  | int => intro l x r cs h hr; cases l <;> (simp only [nilLeafs] at h; obtain ⟨rfl, rfl⟩ := Prod.mk.inj h; exact hr)
  | bool => intro l x r cs h hr; cases l <;> (simp only [nilLeafs] at h; obtain ⟨rfl, rfl⟩ := Prod.mk.inj h; exact hr)
  | str => intro l x r cs h hr; cases l <;> (simp only [nilLeafs] at h; obtain ⟨rfl, rfl⟩ := Prod.mk.inj h; exact hr)
  | arr n e ih => intro l x r cs h hr; cases l <;> (simp only [nilLeafs] at h; obtain ⟨rfl, rfl⟩ := Prod.mk.inj h; exact hr)

theorem nilA_rep {t : TypeId} {x : AV} {v : Value} (hr : RepA S m w x v) : RepA S m w (nilA P t x) v := by
  unfold nilA
  split
  · split
    · have h := (RepA_v.1 hr).1
      subst h
      exact (RepA_one rfl).2 ⟨none, 0, rfl, Nat.le_refl _, fun h => absurd rfl h⟩
    · exact hr
  · split
    · split
      · split
        · rename_i k hk l' hl
          obtain ⟨cs, e, h1⟩ := hr
          have := nilLeafs_rep hl h1
          rw [List.append_nil] at this
          exact ⟨cs, e, this⟩
        · exact hr
      · exact hr
    · exact hr
  · exact hr

theorem nilAs_rep : ∀ {ts : List TypeId} {xs : List AV} {vs : List Value}, RepAs S m w xs vs → RepAs S m w (nilAs P ts xs) vs := by
  intro ts
  induction ts with
  | nil => intro xs vs h; cases xs <;> exact h
  | cons t ts ih =>
    intro xs vs h
    cases xs with
    | nil => exact h
    | cons x xs =>
      obtain ⟨v, vs', e, h1, h2⟩ := h
      exact ⟨v, vs', e, nilA_rep h1, ih h2⟩
theorem nilArgs_rep {f : FuncId} {xs : List AV} {vs : List Value} (h : RepAs S m w xs vs) : RepAs S m w (nilArgs P f xs) vs := by
  unfold nilArgs
  split
  · exact nilAs_rep h
  · exact h
end
end Vam
