/- Names of blocks renamed; a function's contract; a call in a caller's heap. -/
import Derived.Test.YtcolcoapgodfcaaVN
namespace Vam
open Go Pg
set_option linter.unusedVariables false
set_option linter.unusedSimpArgs false

/-! ### Renaming -/
def rnL (f : Nat → Option Nat) : Lf → Option Lf
  | .ptr b o i s r => (f b).map fun c => .ptr c o i s r
  | .own b o i n s => (f b).map fun c => .own c o i n s
  | x => some x
def rnLs (f : Nat → Option Nat) : List Lf → Option (List Lf)
  | [] => some []
  | x :: l => (rnL f x).bind fun y => (rnLs f l).map fun r => y :: r
def rnA (f : Nat → Option Nat) : AV → Option AV
  | .one x => (rnL f x).map .one
  | .agg l => (rnLs f l).map .agg
def rnAs (f : Nat → Option Nat) : List AV → Option (List AV)
  | [] => some []
  | x :: l => (rnA f x).bind fun y => (rnAs f l).map fun r => y :: r
def rnS (f : Nat → Option Nat) : SV → Option SV
  | .av x => (rnA f x).map .av
  | .tup l => (rnAs f l).map .tup
  | .un => some .un
  | .any => some .any
def rnB (f : Nat → Option Nat) : Blk → Option Blk
  | .cells ty l => (rnLs f l).map (.cells ty)
  | .row ty e l => some (.row ty e l)
  | .dead => some .dead

abbrev Rn := List (Nat × Nat)
/-- The second name of a first one; the first one of a second. -/
def fwd : Rn → Nat → Option Nat
  | [], _ => none
  | (c, b) :: r, x => match Nat.beq c x with
    | true => some b
    | false => fwd r x
def bwd : Rn → Nat → Option Nat
  | [], _ => none
  | (c, b) :: r, x => match Nat.beq b x with
    | true => some c
    | false => bwd r x
def rnOk : Rn → Bool
  | [] => true
  | (c, b) :: r => (fwd r c).isNone && ((bwd r b).isNone && rnOk r)

theorem fwd_bwd : ∀ {R : Rn} {c b : Nat}, rnOk R = true → fwd R c = some b → bwd R b = some c := by
  intro R
  induction R with
  | nil => intro c b _ h; cases h
  | cons p R ih =>
    obtain ⟨c0, b0⟩ := p
    intro c b hok h
    simp only [rnOk, Bool.and_eq_true, Option.isNone_iff_eq_none] at hok
    simp only [fwd] at h
    simp only [bwd]
    split at h
    · rename_i e
      simp only [Option.some.injEq] at h; subst h
      rw [Nat.beq_refl]
      exact congrArg some (Nat.eq_of_beq_eq_true e)
    · have h2 := ih hok.2.2 h
      split
      · rename_i e
        have e := Nat.eq_of_beq_eq_true e
        subst e
        rw [hok.2.1] at h2; cases h2
      · exact h2
theorem bwd_fwd : ∀ {R : Rn} {c b : Nat}, rnOk R = true → bwd R b = some c → fwd R c = some b := by
  intro R
  induction R with
  | nil => intro c b _ h; cases h
  | cons p R ih =>
    obtain ⟨c0, b0⟩ := p
    intro c b hok h
    simp only [rnOk, Bool.and_eq_true, Option.isNone_iff_eq_none] at hok
    simp only [bwd] at h
    simp only [fwd]
    split at h
    · rename_i e
      simp only [Option.some.injEq] at h; subst h
      rw [Nat.beq_refl]
      exact congrArg some (Nat.eq_of_beq_eq_true e)
    · have h2 := ih hok.2.2 h
      split
      · rename_i e
        have e := Nat.eq_of_beq_eq_true e
        subst e
        rw [hok.1] at h2; cases h2
      · exact h2

section
variable {S : Nat → Prop} {m m0 : Mp} {w : World} {f : Nat → Option Nat}

theorem rnL_rep (hf : ∀ b c, f b = some c → ∀ p, m b = some p → m0 c = some p) {x y : Lf} {cs : List Value} (h : rnL f x = some y) (hr : RepL S m w x cs) : RepL S m0 w y cs := by
  cases x with
  | v x => simp only [rnL, Option.some.injEq] at h; subst h; exact hr
  | dat k x => simp only [rnL, Option.some.injEq] at h; subst h; exact hr
  | ptr b o i s r =>
    simp only [rnL, Option.map_eq_some_iff] at h
    obtain ⟨c, h1, rfl⟩ := h
    obtain ⟨c', base, g1, g2⟩ := hr
    exact ⟨c', base, hf b c h1 _ g1, g2⟩
  | own b o i n s =>
    simp only [rnL, Option.map_eq_some_iff] at h
    obtain ⟨c, h1, rfl⟩ := h
    obtain ⟨a, cap, g1, g2, g3⟩ := hr
    refine ⟨a, cap, g1, g2, g3.imp id ?_⟩
    rintro ⟨c', base, ty, sz, k1, k2, k3, k4⟩
    exact ⟨c', base, ty, sz, hf b c h1 _ k1, k2, k3, k4⟩
  | fp k x o => simp only [rnL, Option.some.injEq] at h; subst h; exact hr

theorem rnLs_rep (hf : ∀ b c, f b = some c → ∀ p, m b = some p → m0 c = some p) : ∀ {x y : List Lf} {cs : List Value}, rnLs f x = some y → RepLs S m w x cs → RepLs S m0 w y cs := by
  intro x
  induction x with
  | nil => intro y cs h hr; simp only [rnLs, Option.some.injEq] at h; subst h; exact hr
  | cons x l ih =>
    intro y cs h hr
    simp only [rnLs, Option.bind_eq_some_iff, Option.map_eq_some_iff] at h
    obtain ⟨y', h1, r, h2, rfl⟩ := h
    obtain ⟨c1, c2, e, g1, g2⟩ := hr
    exact ⟨c1, c2, e, rnL_rep hf h1 g1, ih h2 g2⟩

theorem rnL_wide {x y : Lf} (h : rnL f x = some y) : y.wide = x.wide := by
  cases x <;> simp only [rnL, Option.some.injEq, Option.map_eq_some_iff] at h <;> first | (subst h; rfl) | (obtain ⟨_, _, rfl⟩ := h; rfl)

theorem rnA_rep (hf : ∀ b c, f b = some c → ∀ p, m b = some p → m0 c = some p) {x y : AV} {v : Value} (h : rnA f x = some y) (hr : RepA S m w x v) : RepA S m0 w y v := by
  cases x with
  | one x =>
    simp only [rnA, Option.map_eq_some_iff] at h
    obtain ⟨y', h1, rfl⟩ := h
    have hw := rnL_wide h1
    simp only [RepA] at hr ⊢
    rw [hw]
    split at hr
    · rename_i e; rw [if_pos e]; obtain ⟨cs, e1, h2⟩ := hr; exact ⟨cs, e1, rnL_rep hf h1 h2⟩
    · rename_i e; rw [if_neg e]; exact rnL_rep hf h1 hr
  | agg l =>
    simp only [rnA, Option.map_eq_some_iff] at h
    obtain ⟨y', h1, rfl⟩ := h
    obtain ⟨cs, e1, h2⟩ := hr
    exact ⟨cs, e1, rnLs_rep hf h1 h2⟩

theorem rnAs_rep (hf : ∀ b c, f b = some c → ∀ p, m b = some p → m0 c = some p) : ∀ {x y : List AV} {vs : List Value}, rnAs f x = some y → RepAs S m w x vs → RepAs S m0 w y vs := by
  intro x
  induction x with
  | nil => intro y vs h hr; simp only [rnAs, Option.some.injEq] at h; subst h; exact hr
  | cons x l ih =>
    intro y vs h hr
    simp only [rnAs, Option.bind_eq_some_iff, Option.map_eq_some_iff] at h
    obtain ⟨y', h1, r, h2, rfl⟩ := h
    obtain ⟨v, vs', e, g1, g2⟩ := hr
    exact ⟨v, vs', e, rnA_rep hf h1 g1, ih h2 g2⟩

theorem rnS_rep (hf : ∀ b c, f b = some c → ∀ p, m b = some p → m0 c = some p) {x y : SV} {v : Value} (h : rnS f x = some y) (hr : RepS S m w x v) : RepS S m0 w y v := by
  cases x with
  | av x => simp only [rnS, Option.map_eq_some_iff] at h; obtain ⟨y', h1, rfl⟩ := h; exact rnA_rep hf h1 hr
  | tup l =>
    simp only [rnS, Option.map_eq_some_iff] at h
    obtain ⟨y', h1, rfl⟩ := h
    obtain ⟨vs, e, h2⟩ := hr
    exact ⟨vs, e, rnAs_rep hf h1 h2⟩
  | un => simp only [rnS, Option.some.injEq] at h; subst h; exact hr
  | any => simp only [rnS, Option.some.injEq] at h; subst h; exact hr

theorem rnB_rep (hf : ∀ b c, f b = some c → ∀ p, m b = some p → m0 c = some p) {x y : Blk} {p : Option (Nat × Nat)} (h : rnB f x = some y) (hr : SimB S m w x p) : SimB S m0 w y p := by
  cases x with
  | cells ty l =>
    simp only [rnB, Option.map_eq_some_iff] at h
    obtain ⟨l', h1, rfl⟩ := h
    obtain ⟨c, cs, fr, e1, e2, e3, e4, e5⟩ := hr
    exact ⟨c, cs, fr, e1, e2, e3, e4, rnLs_rep hf h1 e5⟩
  | row ty e l => simp only [rnB, Option.some.injEq] at h; subst h; exact hr
  | dead => simp only [rnB, Option.some.injEq] at h; subst h; trivial

theorem rnB_live {x y : Blk} (h : rnB f x = some y) : y.live = x.live := by
  cases x <;> simp only [rnB, Option.some.injEq, Option.map_eq_some_iff] at h <;> first | (subst h; rfl) | (obtain ⟨_, _, rfl⟩ := h; rfl)
end

/-! ### A function's contract -/
/-- The call of a function (with or without a body of its own) comes back with what R says. -/
def CallsF (P : Program) (f : FuncId) (vs : Array Value) (w : World) (R : Value → World → Prop) : Prop :=
  ((callFunc f vs).run P w = .ok (.enter f vs) w ∧ Calls P f vs w fun e w' => match e with
    | .returned v => R v w'
    | _ => False) ∨
  ∃ v w', (callFunc f vs).run P w = .ok (.value v) w' ∧ R v w'

theorem CallsF.mono {P : Program} {f : FuncId} {vs : Array Value} {w : World} {R R' : Value → World → Prop} (h : CallsF P f vs w R) (hr : ∀ v w', R v w' → R' v w') : CallsF P f vs w R' := by
  rcases h with ⟨h1, h2⟩ | ⟨v, w', h1, h2⟩
  · exact .inl ⟨h1, Calls.mono h2 fun e w' he => by
      cases e with
      | returned v => exact hr v w' he
      | panicked => exact he
      | outgrown => exact he⟩
  · exact .inr ⟨v, w', h1, hr v w' h2⟩

def Snd (P : Program) (G : Nat → Option AV) (f : FuncId) (as : List AV) (L : Hp) (r : SV) (L' : Hp) : Prop :=
  ∀ (S : Nat → Prop) (m : Mp) (w : World) (vs : List Value), RepG S m w G → RepAs S m w as vs → SimH S m w L → Dom m L →
    CallsF P f vs.toArray w fun v w' => ∃ S' m', Tr S m w L S' m' w' L' ∧ SimH S' m' w' L' ∧ Dom m' L' ∧ RepS S' m' w' r v

/-- The callee's heap out of the caller's. -/
def subHp (R : Rn) (H : Hp) : Rn → Option Hp
  | [] => some []
  | (c, b) :: r => match hg H b with
    | some B => (rnB (bwd R) B).bind fun B' => (subHp R H r).map fun t => (c, B') :: t
    | none => subHp R H r
/-- The caller's blocks out of the callee's. -/
def outHp (R : Rn) : Hp → Option Hp
  | [] => some []
  | (c, B) :: r => (fwd R c).bind fun b => (rnB (fwd R) B).bind fun B' => (outHp R r).map fun t => (b, B') :: t

def nodupK : Hp → Bool
  | [] => true
  | (c, _) :: r => (hg r c).isNone && nodupK r
/-- All names of the first one are in the second one. -/
def keysIn : Hp → Hp → Bool
  | [], _ => true
  | (c, _) :: r, L => (hg L c).isSome && keysIn r L

theorem subHp_get {R : Rn} {H : Hp} : ∀ {r : Rn} {L : Hp}, subHp R H r = some L → ∀ c B', hg L c = some B' → ∃ b B, (c, b) ∈ r ∧ hg H b = some B ∧ rnB (bwd R) B = some B' := by
  intro r
  induction r with
  | nil => intro L h c B' hc; simp only [subHp, Option.some.injEq] at h; subst h; cases hc
  | cons p r ih =>
    obtain ⟨c0, b0⟩ := p
    intro L h c B' hc
    simp only [subHp] at h
    split at h
    · rename_i B hB
      simp only [Option.bind_eq_some_iff, Option.map_eq_some_iff] at h
      obtain ⟨B1, h1, t, h2, rfl⟩ := h
      by_cases e : c0 = c
      · subst e
        rw [hg_cons_eq] at hc
        simp only [Option.some.injEq] at hc; subst hc
        exact ⟨b0, B, List.mem_cons_self .., hB, h1⟩
      · rw [hg_cons_ne e] at hc
        obtain ⟨b, B2, g1, g2⟩ := ih h2 c B' hc
        exact ⟨b, B2, List.mem_cons_of_mem _ g1, g2⟩
    · obtain ⟨b, B2, g1, g2⟩ := ih h c B' hc
      exact ⟨b, B2, List.mem_cons_of_mem _ g1, g2⟩

theorem subHp_none {R : Rn} {H : Hp} : ∀ {r : Rn} {L : Hp}, subHp R H r = some L → ∀ c, hg L c = none → ∀ b, (c, b) ∈ r → hg H b = none := by
  intro r
  induction r with
  | nil => intro L h c hc b hb; cases hb
  | cons p r ih =>
    obtain ⟨c0, b0⟩ := p
    intro L h c hc b hb
    simp only [subHp] at h
    split at h
    · rename_i B hB
      simp only [Option.bind_eq_some_iff, Option.map_eq_some_iff] at h
      obtain ⟨B1, h1, t, h2, rfl⟩ := h
      by_cases e : c0 = c
      · subst e; rw [hg_cons_eq] at hc; cases hc
      · rw [hg_cons_ne e] at hc
        rcases List.mem_cons.1 hb with hb | hb
        · exact absurd (Prod.mk.inj hb).1.symm e
        · exact ih h2 c hc b hb
    · rename_i hB
      rcases List.mem_cons.1 hb with hb | hb
      · rw [(Prod.mk.inj hb).2]; exact hB
      · exact ih h c hc b hb

theorem fwd_mem : ∀ {R : Rn} {c b : Nat}, fwd R c = some b → (c, b) ∈ R := by
  intro R
  induction R with
  | nil => intro c b h; cases h
  | cons p R ih =>
    obtain ⟨c0, b0⟩ := p
    intro c b h
    simp only [fwd] at h
    split at h
    · rename_i e
      simp only [Option.some.injEq] at h; subst h
      rw [Nat.eq_of_beq_eq_true e]; exact List.mem_cons_self ..
    · exact List.mem_cons_of_mem _ (ih h)
theorem mem_fwd : ∀ {R : Rn} {c b : Nat}, rnOk R = true → (c, b) ∈ R → fwd R c = some b := by
  intro R
  induction R with
  | nil => intro c b _ h; cases h
  | cons p R ih =>
    obtain ⟨c0, b0⟩ := p
    intro c b hok h
    simp only [rnOk, Bool.and_eq_true, Option.isNone_iff_eq_none] at hok
    simp only [fwd]
    rcases List.mem_cons.1 h with h | h
    · obtain ⟨rfl, rfl⟩ := Prod.mk.inj h; rw [Nat.beq_refl]
    · have h2 := ih hok.2.2 h
      split
      · rename_i e
        have e := Nat.eq_of_beq_eq_true e
        subst e
        rw [hok.1] at h2; cases h2
      · exact h2

theorem outHp_mem {R : Rn} : ∀ {L U : Hp}, outHp R L = some U → ∀ b B', (b, B') ∈ U → ∃ c B, (c, B) ∈ L ∧ fwd R c = some b ∧ rnB (fwd R) B = some B' := by
  intro L
  induction L with
  | nil => intro U h b B' hb; simp only [outHp, Option.some.injEq] at h; subst h; cases hb
  | cons p L ih =>
    obtain ⟨c0, B0⟩ := p
    intro U h b B' hb
    simp only [outHp, Option.bind_eq_some_iff, Option.map_eq_some_iff] at h
    obtain ⟨b0, h1, B1, h2, t, h3, rfl⟩ := h
    rcases List.mem_cons.1 hb with hb | hb
    · obtain ⟨rfl, rfl⟩ := Prod.mk.inj hb
      exact ⟨c0, B0, List.mem_cons_self .., h1, h2⟩
    · obtain ⟨c, B, g1, g2⟩ := ih h3 b B' hb
      exact ⟨c, B, List.mem_cons_of_mem _ g1, g2⟩
theorem outHp_keys {R : Rn} : ∀ {L U : Hp}, outHp R L = some U → ∀ c, c ∈ keys L → ∃ b, fwd R c = some b ∧ b ∈ keys U := by
  intro L
  induction L with
  | nil => intro U h c hc; simp [keys] at hc
  | cons p L ih =>
    obtain ⟨c0, B0⟩ := p
    intro U h c hc
    simp only [outHp, Option.bind_eq_some_iff, Option.map_eq_some_iff] at h
    obtain ⟨b0, h1, B1, h2, t, h3, rfl⟩ := h
    simp only [keys, List.map_cons, List.mem_cons] at hc ⊢
    rcases hc with rfl | hc
    · exact ⟨b0, h1, .inl rfl⟩
    · obtain ⟨b, g1, g2⟩ := ih h3 c hc
      exact ⟨b, g1, .inr g2⟩

theorem nodupK_get : ∀ {L : Hp} {c : Nat} {B : Blk}, nodupK L = true → (c, B) ∈ L → hg L c = some B := by
  intro L
  induction L with
  | nil => intro c B _ h; cases h
  | cons p L ih =>
    obtain ⟨c0, B0⟩ := p
    intro c B hok h
    simp only [nodupK, Bool.and_eq_true, Option.isNone_iff_eq_none] at hok
    rcases List.mem_cons.1 h with h | h
    · obtain ⟨rfl, rfl⟩ := Prod.mk.inj h; exact hg_cons_eq
    · have h2 := ih hok.2 h
      rw [hg_cons_ne (fun e => by subst e; rw [hok.1] at h2; cases h2)]
      exact h2
theorem hg_mem : ∀ {L : Hp} {c : Nat} {B : Blk}, hg L c = some B → (c, B) ∈ L := by
  intro L
  induction L with
  | nil => intro c B h; cases h
  | cons p L ih =>
    obtain ⟨c0, B0⟩ := p
    intro c B h
    by_cases e : c0 = c
    · subst e; rw [hg_cons_eq] at h; simp only [Option.some.injEq] at h; subst h; exact List.mem_cons_self ..
    · rw [hg_cons_ne e] at h; exact List.mem_cons_of_mem _ (ih h)
theorem keysIn_get : ∀ {A L : Hp} {c : Nat} {B : Blk}, keysIn A L = true → (c, B) ∈ A → ∃ B', hg L c = some B' := by
  intro A
  induction A with
  | nil => intro L c B _ h; cases h
  | cons p A ih =>
    obtain ⟨c0, B0⟩ := p
    intro L c B hok h
    simp only [keysIn, Bool.and_eq_true] at hok
    rcases List.mem_cons.1 h with h | h
    · obtain ⟨rfl, rfl⟩ := Prod.mk.inj h; exact Option.isSome_iff_exists.1 hok.1
    · exact ih hok.2 h

/-- The call's own node: the callee's view, then back. -/
def ecall (H : Hp) (f : FuncId) (R : Rn) (xs : List AV) : Pg (SV × Hp) :=
  (sure (rnOk R)).bind fun _ => (opt (rnAs (bwd R) xs)).bind fun as => (opt (subHp R H R)).bind fun L =>
  .call f as L fun r L' => (sure (nodupK L' && keysIn L L')).bind fun _ => (opt (rnS (fwd R) r)).bind fun r' => (opt (outHp R L')).bind fun U => .ret (r', U)

section
variable {S : Nat → Prop} {m : Mp} {w : World} {P : Program} {L : Code → St → Ex → St → Prop} {H : Hp} {G : Nat → Option AV}

theorem ecall_run {f : FuncId} {R : Rn} {xs : List AV} {vs : List Value} {r : SV} {U : Hp} (hH : SimH S m w H) (hG : RepG S m w G) (hx : RepAs S m w xs vs) (hd : ∀ d, hg H d = none → d ∈ keys U → m d = none)
    (h : Yd (Snd P G) L (ecall H f R xs) (r, U)) (hdR : ∀ c b, (c, b) ∈ R → hg H b = none → m b = none) :
    CallsF P f vs.toArray w fun v w' => ∃ S' m', Ev S m w H S' m' w' U ∧ RepS S' m' w' r v := by
  unfold ecall at h
  obtain ⟨_, h0, h⟩ := yd_bind.1 h
  have hok := yd_sure.1 h0
  obtain ⟨as, h1, h⟩ := yd_bind.1 h
  have h1 := yd_opt.1 h1
  obtain ⟨L0, h2, h⟩ := yd_bind.1 h
  have h2 := yd_opt.1 h2
  obtain ⟨r0, L', hC, h⟩ := h
  obtain ⟨_, h3, h⟩ := yd_bind.1 h
  have h3 := yd_sure.1 h3
  simp only [Bool.and_eq_true] at h3
  obtain ⟨r', h4, h⟩ := yd_bind.1 h
  have h4 := yd_opt.1 h4
  obtain ⟨U', h5, h⟩ := yd_bind.1 h
  have h5 := yd_opt.1 h5
  obtain ⟨rfl, rfl⟩ := Prod.mk.inj (yd_ret.1 h)
  let m0 : Mp := fun c => (fwd R c).bind m
  have hin : ∀ b c, bwd R b = some c → ∀ p, m b = some p → m0 c = some p := by
    intro b c hb p hp
    show (fwd R c).bind m = some p
    rw [bwd_fwd hok hb]; exact hp
  have hm0 : ∀ c b, fwd R c = some b → m0 c = m b := by
    intro c b hb
    show (fwd R c).bind m = m b
    rw [hb]; rfl
  have hargs := rnAs_rep hin h1 hx
  have hlive : ∀ c B', hg L0 c = some B' → ∃ b B, fwd R c = some b ∧ hg H b = some B ∧ B.live = B'.live ∧ SimB S m0 w B' (m0 c) := by
    intro c B' hc
    obtain ⟨b, B, g1, g2, g3⟩ := subHp_get h2 c B' hc
    have g4 := mem_fwd hok g1
    refine ⟨b, B, g4, g2, (rnB_live g3).symm, ?_⟩
    rw [hm0 c b g4]
    exact rnB_rep hin g3 (hH.blk b B g2)
  have hL : SimH S m0 w L0 := by
    refine ⟨fun c B' hc => (hlive c B' hc).choose_spec.choose_spec.2.2.2, fun c c' B B' p p' k1 k2 k3 k4 k5 k6 k7 => ?_⟩
    obtain ⟨b1, B1, a1, a2, a3, _⟩ := hlive c B k1
    obtain ⟨b2, B2, e1, e2, e3, _⟩ := hlive c' B' k2
    rw [hm0 c b1 a1] at k5
    rw [hm0 c' b2 e1] at k6
    have := hH.inj b1 b2 B1 B2 p p' a2 e2 (a3.trans k3) (e3.trans k4) k5 k6 k7
    subst this
    have q1 := fwd_bwd hok a1
    have q2 := fwd_bwd hok e1
    rw [q1] at q2
    exact Option.some.inj q2
  have hD : Dom m0 L0 := by
    intro c hc
    cases hb : fwd R c with
    | none => show (fwd R c).bind m = none; rw [hb]; rfl
    | some b =>
      rw [hm0 c b hb]
      exact hdR c b (fwd_mem hb) (subHp_none h2 c hc b (fwd_mem hb))
  have hcall := hC S m0 w vs hG hargs hL hD
  refine CallsF.mono hcall fun v w' he => ?_
  obtain ⟨S', m0', hT, hS', hD', hr'⟩ := he
  let m' : Mp := fun b => match bwd R b with | some c => m0' c | none => m b
  have hm' : ∀ c b, fwd R c = some b → m' b = m0' c := by
    intro c b hb
    show (match bwd R b with | some c => m0' c | none => m b) = m0' c
    rw [fwd_bwd hok hb]
  have hout : ∀ c b, fwd R c = some b → ∀ p, m0' c = some p → m' b = some p := fun c b hb p hp => by rw [hm' c b hb]; exact hp
  have hmap : ∀ b p, m b = some p → m' b = some p := by
    intro b p hp
    show (match bwd R b with | some c => m0' c | none => m b) = some p
    cases hb : bwd R b with
    | none => exact hp
    | some c => exact hT.mv.map c p (hin b c hb p hp)
  refine ⟨S', m', ⟨⟨hT.mv.size, hT.mv.fro, hT.mv.shp, hmap, hT.mv.sm⟩, fun c hc hf => ?_, fun b B hb => ?_, fun b B p hb hl hp => ?_, fun b b' B B' p p' hb hb' hl hl' hp hp' hpp => ?_, fun b hb => ?_⟩, rnS_rep hout h4 hr'⟩
  · refine hT.frame c hc fun c0 B0 p k1 k2 k3 => ?_
    obtain ⟨b1, B1, a1, a2, a3, _⟩ := hlive c0 B0 k1
    rw [hm0 c0 b1 a1] at k3
    obtain ⟨B2, hB2⟩ := keysIn_get h3.2 (hg_mem k1)
    obtain ⟨b2, a4, a5⟩ := outHp_keys h5 c0 (mem_keys (hg_mem hB2))
    rw [a1] at a4
    simp only [Option.some.injEq] at a4
    subst a4
    exact hf b1 B1 p a5 a2 (a3.trans k2) k3
  · obtain ⟨c, B0, g1, g2, g3⟩ := outHp_mem h5 b B hb
    rw [hm' c b g2]
    exact rnB_rep hout g3 (hS'.blk c B0 (nodupK_get h3.1 g1))
  · obtain ⟨c, B0, g1, g2, g3⟩ := outHp_mem h5 b B hb
    rw [hm' c b g2] at hp
    rcases hT.own c B0 p (nodupK_get h3.1 g1) (by rw [← rnB_live g3]; exact hl) hp with k1 | ⟨c0, B1, p0, k1, k2, k3, k4⟩
    · exact .inl k1
    · obtain ⟨b1, B2, a1, a2, a3, _⟩ := hlive c0 B1 k1
      rw [hm0 c0 b1 a1] at k3
      obtain ⟨B3, hB3⟩ := keysIn_get h3.2 (hg_mem k1)
      obtain ⟨b2, a4, a5⟩ := outHp_keys h5 c0 (mem_keys (hg_mem hB3))
      rw [a1] at a4
      simp only [Option.some.injEq] at a4
      subst a4
      exact .inr ⟨b1, B2, p0, a5, a2, a3.trans k2, k3, k4⟩
  · obtain ⟨c, B0, g1, g2, g3⟩ := outHp_mem h5 b B hb
    obtain ⟨c', B0', g1', g2', g3'⟩ := outHp_mem h5 b' B' hb'
    rw [hm' c b g2] at hp
    rw [hm' c' b' g2'] at hp'
    have := hS'.inj c c' B0 B0' p p' (nodupK_get h3.1 g1) (nodupK_get h3.1 g1') (by rw [← rnB_live g3]; exact hl) (by rw [← rnB_live g3']; exact hl') hp hp' hpp
    subst this
    rw [g2] at g2'
    exact Option.some.inj g2'
  · show (match bwd R b with | some c => m0' c | none => m b) = m b
    cases hbw : bwd R b with
    | none => rfl
    | some c =>
      show m0' c = m b
      have hfw := bwd_fwd hok hbw
      cases hL' : hg L' c with
      | some B =>
        obtain ⟨b2, a4, a5⟩ := outHp_keys h5 c (mem_keys (hg_mem hL'))
        rw [hfw] at a4
        simp only [Option.some.injEq] at a4
        subst a4
        exact absurd a5 hb
      | none =>
        have hn := hD' c hL'
        rw [hn]
        cases hmb : m b with
        | none => rfl
        | some p =>
          have := hT.mv.map c p (hin b c hbw p hmb)
          rw [hn] at this; cases this
end
end Vam
