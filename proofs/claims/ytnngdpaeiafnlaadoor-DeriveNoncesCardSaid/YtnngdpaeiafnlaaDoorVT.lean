/- Code: its run on states; loops; weakening; a function's contract out of its body's run. -/
import Derived.Test.YtnngdpaeiafnlaaDoorVS
import Derived.Test.YtnngdpaeiafnlaaDoorVY
namespace Vam
open Go Pg
set_option linter.unusedVariables false
set_option linter.unusedSimpArgs false

/-! ### Code -/
/-- The first region's number in a code. -/
def firstReg : Code → Nat
  | .region id _ _ => id + 1
  | .seq x y => match firstReg x with
    | 0 => firstReg y
    | n => n
  | .cond _ x y => match firstReg x with
    | 0 => firstReg y
    | n => n
  | .block _ c => firstReg c
  | .loop c => firstReg c
  | _ => 0

/-- Only some temporaries. -/
def keepTm (l : List Nat) : Tm → Tm
  | [] => []
  | (t, x) :: r => match mem t l with
    | true => (t, x) :: keepTm l r
    | false => keepTm l r
def lkO : List (Nat × List Nat) → Nat → Option (List Nat)
  | [], _ => none
  | (i, x) :: r, k => match Nat.beq i k with
    | true => some x
    | false => lkO r k
/-- Ahead of a loop: only what the hint names. -/
def cutSt (hn : Hn) (c : Code) (σ : St) : St :=
  match hn.lk with
  | [] => σ
  | l => match lkO l (firstReg c) with
    | some k => ⟨keepTm k σ.tm, σ.hp⟩
    | none => σ
theorem keepTm_get {l : List Nat} : ∀ {tm : Tm} {t : Nat} {x : SV}, tmGet (keepTm l tm) t = some x → tmGet tm t = some x := by
  intro tm
  induction tm with
  | nil => intro t x h; exact h
  | cons p tm ih =>
    obtain ⟨u, y⟩ := p
    intro t x h
    simp only [keepTm] at h
    split at h
    · by_cases e : u = t
      · subst e; rw [tmGet_cons_eq] at h ⊢; exact h
      · rw [tmGet_cons_ne e] at h ⊢; exact ih h
    · rename_i hm
      have h := ih h
      by_cases e : u = t
      · subst e
        exfalso
        have : ∀ {tm : Tm} {x : SV}, tmGet (keepTm l tm) u = some x → False := by
          intro tm
          induction tm with
          | nil => intro x h; cases h
          | cons q tm ih =>
            obtain ⟨v, z⟩ := q
            intro x h
            simp only [keepTm] at h
            split at h
            · rename_i hv
              by_cases e : v = u
              · subst e; rw [hv] at hm; cases hm
              · rw [tmGet_cons_ne e] at h; exact ih h
            · exact ih h
        rename_i h0
        exact this h0
      · rw [tmGet_cons_ne e]; exact h
def exec (P : Program) (G : Nat → Option AV) (N : Nat) (hn : Hn) : Code → St → Pg (Ex × St)
  | .skip, σ => .ret (.normal, σ)
  | .ret, σ => .ret (.ret, σ)
  | .exit id, σ => .ret (.exit id, σ)
  | .seq x y, σ => (exec P G N hn x σ).bind fun p => match p.1 with
    | .normal => exec P G N hn y p.2
    | e => .ret (e, p.2)
  | .cond c x y, σ => (opt ((opd G σ.tm c).bind asBl)).bind fun b => .ask b fun d => match d with
    | true => exec P G N hn x σ
    | false => exec P G N hn y σ
  | .block id c, σ => (exec P G N hn c σ).bind fun p => match p.1 with
    | .exit i => match Nat.beq i id with
      | true => .ret (.normal, p.2)
      | false => .ret (.exit i, p.2)
    | e => .ret (e, p.2)
  | .loop c, σ => .loop c (cutSt hn c σ) fun e τ => .ret (e, τ)
  | .region id ops draw, σ => (frzAll (lkL hn.fz id) σ).bind fun σ => match draw with
    | false => (opsRun P G N hn id ops.toList ops.toList 0 σ).bind fun τ => .ret (.normal, τ)
    | true => (opsRunD P G N hn id ops.toList (bfOf ops) ops.toList 0 σ).bind fun τ => .ret (.normal, τ)
  | _, _ => .fail

/-- What is checked of code once. -/
def codeOk (P : Program) (hn : Hn) : Code → Bool
  | .seq x y => codeOk P hn x && codeOk P hn y
  | .cond _ x y => codeOk P hn x && codeOk P hn y
  | .block _ c => codeOk P hn c
  | .loop c => codeOk P hn c
  | .region id ops true => regOk P hn id ops
  | _ => true

def toExit : Ex → Exit
  | .normal => .normal
  | .ret => .ret
  | .exit i => .exit i

def Post (X : Cx) (e : Ex) (σ : St) : Exit → Act → World → Prop := fun x a w => x = toExit e ∧ Good X σ a w

/-- What a start may be asked. -/
structure Cx.Ok (X : Cx) : Prop where
  dom : Dom X.m0 X.H0
  keys : ∀ b B, hg X.H0 b = some B → b ∈ X.K0

def Wk (N : Nat) (G : Nat → Option AV) (K0 : List Nat) (σ τ : St) : Prop :=
  ∀ X : Cx, X.Ok → X.N = N → X.G = G → X.K0 = K0 → ∀ a w, Good X σ a w → Good X τ a w

theorem Wk.refl {N : Nat} {G : Nat → Option AV} {K0 : List Nat} (σ : St) : Wk N G K0 σ σ := fun _ _ _ _ _ _ _ h => h
theorem Wk.trans {N : Nat} {G : Nat → Option AV} {K0 : List Nat} {σ τ υ : St} (h : Wk N G K0 σ τ) (k : Wk N G K0 τ υ) : Wk N G K0 σ υ :=
  fun X h0 h1 h2 h3 a w hg => k X h0 h1 h2 h3 a w (h X h0 h1 h2 h3 a w hg)

inductive Iter (B : St → Ex → St → Prop) (W : St → St → Prop) : St → Ex → St → Prop
  | out {σ σ' : St} {e : Ex} (h : B σ e σ') (he : e ≠ .normal) : Iter B W σ e σ'
  | next {σ σ1 σ2 σ' : St} {e : Ex} (h : B σ .normal σ1) (w : W σ1 σ2) (r : Iter B W σ2 e σ') : Iter B W σ e σ'

def Lp (P : Program) (G : Nat → Option AV) (N : Nat) (K0 : List Nat) (hn : Hn) : Nat → Code → St → Ex → St → Prop
  | 0 => fun _ _ _ _ => False
  | d + 1 => fun c σ e σ' => ∃ τ τ', Wk N G K0 σ τ ∧ Iter (fun σ e σ' => Yd (Snd P G) (Lp P G N K0 hn d) (exec P G N hn c σ) (e, σ')) (Wk N G K0) τ e τ' ∧ Wk N G K0 τ' σ'

section
variable {P : Program} {X : Cx} {hn : Hn}

theorem keep_good {σ : St} {a : Act} {w : World} {l : List Nat} (h : Good X σ a w) : Good X ⟨keepTm l σ.tm, σ.hp⟩ a w := by
  obtain ⟨S, m, h1, h2, h3, h4, h5, h6, h7⟩ := h
  exact ⟨S, m, h1, h2, fun t x hx => h3 t x (keepTm_get hx), h4, h5, h6, h7⟩
theorem cutSt_good {σ : St} {a : Act} {w : World} {c : Code} (h : Good X σ a w) : Good X (cutSt hn c σ) a w := by
  unfold cutSt
  split
  · exact h
  · split
    · exact keep_good h
    · exact h
theorem exec_sound {L : Code → St → Ex → St → Prop} (hm : P.follows .mixedOrders = true)
    (hL : ∀ c σ e σ' a w, codeOk P hn c = true → L c σ e σ' → Good X σ a w → (Code.loop c).wp P (Post X e σ') a w) :
    ∀ (c : Code) (σ : St) (e : Ex) (σ' : St) (a : Act) (w : World), codeOk P hn c = true → Yd (Snd P X.G) L (exec P X.G X.N hn c σ) (e, σ') → Good X σ a w → c.wp P (Post X e σ') a w := by
  intro c
  induction c with
  | skip => intro σ e σ' a w _ h hg; obtain ⟨rfl, rfl⟩ := Prod.mk.inj (yd_ret.1 h); exact wp_skip ⟨rfl, hg⟩
  | ret => intro σ e σ' a w _ h hg; obtain ⟨rfl, rfl⟩ := Prod.mk.inj (yd_ret.1 h); exact wp_ret ⟨rfl, hg⟩
  | exit id => intro σ e σ' a w _ h hg; obtain ⟨rfl, rfl⟩ := Prod.mk.inj (yd_ret.1 h); exact wp_exit ⟨rfl, hg⟩
  | seq x y ihx ihy =>
    intro σ e σ' a w hok h hg
    simp only [codeOk, Bool.and_eq_true] at hok
    obtain ⟨⟨e1, σ1⟩, h1, h2⟩ := yd_bind.1 h
    refine wp_seq (wp_mono (ihx σ e1 σ1 a w hok.1 h1 hg) ?_)
    rintro _ a1 w1 ⟨rfl, hg1⟩
    cases e1 with
    | normal => exact ihy σ1 e σ' a1 w1 hok.2 h2 hg1
    | ret => obtain ⟨rfl, rfl⟩ := Prod.mk.inj (yd_ret.1 h2); exact ⟨rfl, hg1⟩
    | exit i => obtain ⟨rfl, rfl⟩ := Prod.mk.inj (yd_ret.1 h2); exact ⟨rfl, hg1⟩
  | cond c x y ihx ihy =>
    intro σ e σ' a w hok h hg
    simp only [codeOk, Bool.and_eq_true] at hok
    obtain ⟨b, h1, h2⟩ := yd_bind.1 h
    have h1 := yd_opt.1 h1
    simp only [Option.bind_eq_some_iff] at h1
    obtain ⟨v, h3, h4⟩ := h1
    obtain ⟨S, m, k1, k2, k3, k4, k5, k6, k7⟩ := id hg
    have hc := asBl_rep h4 (opd_rep (a := a) k6 k3 h3)
    simp only [Yd] at h2
    cases b with
    | true => exact wp_cond_true hc (ihx σ e σ' a w hok.1 h2 hg)
    | false => exact wp_cond_false hc (ihy σ e σ' a w hok.2 h2 hg)
  | block id c ih =>
    intro σ e σ' a w hok h hg
    simp only [codeOk] at hok
    obtain ⟨⟨e1, σ1⟩, h1, h2⟩ := yd_bind.1 h
    refine wp_block (wp_mono (ih σ e1 σ1 a w hok h1 hg) ?_)
    rintro _ a1 w1 ⟨rfl, hg1⟩
    cases e1 with
    | normal => obtain ⟨rfl, rfl⟩ := Prod.mk.inj (yd_ret.1 h2); exact ⟨rfl, hg1⟩
    | ret => obtain ⟨rfl, rfl⟩ := Prod.mk.inj (yd_ret.1 h2); exact ⟨rfl, hg1⟩
    | exit i =>
      simp only [toExit, Exit.inBlock]
      dsimp only at h2
      split at h2
      · rename_i he
        have he := Nat.eq_of_beq_eq_true he
        obtain ⟨rfl, rfl⟩ := Prod.mk.inj (yd_ret.1 h2)
        rw [if_pos he]; exact ⟨rfl, hg1⟩
      · rename_i he
        have he : ¬ i = id := fun h => by rw [h, Nat.beq_refl] at he; cases he
        obtain ⟨rfl, rfl⟩ := Prod.mk.inj (yd_ret.1 h2)
        rw [if_neg he]; exact ⟨rfl, hg1⟩
  | loop c ih =>
    intro σ e σ' a w hok h hg
    obtain ⟨e1, τ, h1, h2⟩ := h
    obtain ⟨rfl, rfl⟩ := Prod.mk.inj (yd_ret.1 h2)
    exact hL c _ e1 τ a w hok h1 (cutSt_good hg)
  | region id ops draw =>
    intro σ0 e σ' a w hok h0 hg0
    obtain ⟨σ, hz, h⟩ := yd_bind.1 h0
    have hg := frzAll_sound hz hg0
    cases draw with
    | false =>
      obtain ⟨τ, h1, h2⟩ := yd_bind.1 h
      obtain ⟨rfl, rfl⟩ := Prod.mk.inj (yd_ret.1 h2)
      refine wp_region ?_
      have := opsRun_sound (X := X) (L := L) (Q := Post X .normal τ) ops.toList 0 σ τ a w rfl hg h1 (fun a' w' hg' => ⟨rfl, hg'⟩)
      rw [List.range_eq_range']
      simpa using this
    | true =>
      obtain ⟨τ, h1, h2⟩ := yd_bind.1 h
      obtain ⟨rfl, rfl⟩ := Prod.mk.inj (yd_ret.1 h2)
      exact drawn_sound hm hok hg h1 (fun a' w' hg' => ⟨rfl, hg'⟩)
  | _ => intro σ e σ' a w _ h _; exact fail_absurd h

theorem loop_sound (hm : P.follows .mixedOrders = true) (hX : X.Ok) : ∀ (d : Nat) (c : Code) (σ : St) (e : Ex) (σ' : St) (a : Act) (w : World), codeOk P hn c = true → Lp P X.G X.N X.K0 hn d c σ e σ' → Good X σ a w → (Code.loop c).wp P (Post X e σ') a w := by
  intro d
  induction d with
  | zero => intro c σ e σ' a w _ h; exact h.elim
  | succ d ih =>
    intro c σ e σ' a w hok h hg
    obtain ⟨τ, τ', h1, h2, h3⟩ := h
    have key : ∀ τ e τ', Iter (fun σ e σ' => Yd (Snd P X.G) (Lp P X.G X.N X.K0 hn d) (exec P X.G X.N hn c σ) (e, σ')) (Wk X.N X.G X.K0) τ e τ' → ∃ n, ∀ a w, Good X τ a w → Code.rounds P c (Post X e τ') n a w := by
      intro τ e τ' hi
      induction hi with
      | @out σ σ' e h he =>
        refine ⟨1, fun a w hg => wp_mono (exec_sound hm (fun c σ e σ' a w h1 h2 h3 => ih c σ e σ' a w h1 h2 h3) c σ e σ' a w hok h hg) ?_⟩
        rintro _ a1 w1 ⟨rfl, hg1⟩
        cases e with
        | normal => exact absurd rfl he
        | ret => exact ⟨rfl, hg1⟩
        | exit i => exact ⟨rfl, hg1⟩
      | @next σ σ1 σ2 σ' e h hw r ihr =>
        obtain ⟨n, hn'⟩ := ihr
        refine ⟨n + 1, fun a w hg => wp_mono (exec_sound hm (fun c σ e σ' a w h1 h2 h3 => ih c σ e σ' a w h1 h2 h3) c σ .normal σ1 a w hok h hg) ?_⟩
        rintro _ a1 w1 ⟨rfl, hg1⟩
        exact hn' a1 w1 (hw X hX rfl rfl rfl a1 w1 hg1)
    obtain ⟨n, hn'⟩ := key τ e τ' h2
    refine wp_mono (wp_loop_rounds n (hn' a w (h1 X hX rfl rfl rfl a w hg))) ?_
    rintro _ a1 w1 ⟨rfl, hg1⟩
    exact ⟨rfl, h3 X hX rfl rfl rfl a1 w1 hg1⟩

/-! ### Names dropped and changed -/
def rnHp (R : Rn) : Hp → Hp
  | [] => []
  | (b, B) :: r => match fwd R b with
    | some c => hput (rnHp R r) c ((rnB (fwd R) B).getD .dead)
    | none => rnHp R r
def rnTm (R : Rn) (keep : List Nat) : Tm → Tm
  | [] => []
  | (t, x) :: r => match mem t keep with
    | true => (t, (rnS (fwd R) x).getD .any) :: rnTm R keep r
    | false => rnTm R keep r
def nrm (R : Rn) (keep : List Nat) (σ : St) : St := ⟨rnTm R keep σ.tm, rnHp R σ.hp⟩

def keepsK (R : Rn) : List Nat → Bool
  | [] => true
  | b :: r => (match fwd R b with | some c => Nat.beq c b | none => false) && keepsK R r
theorem keepsK_get {R : Rn} : ∀ {K0 : List Nat}, keepsK R K0 = true → ∀ b, b ∈ K0 → fwd R b = some b := by
  intro K0
  induction K0 with
  | nil => intro _ b hb; cases hb
  | cons x r ih =>
    intro h b hb
    simp only [keepsK, Bool.and_eq_true] at h
    rcases List.mem_cons.1 hb with rfl | hb
    · have h1 := h.1
      split at h1
      · rename_i c hc; rw [hc, Nat.eq_of_beq_eq_true h1]
      · cases h1
    · exact ih h.2 b hb

theorem hg_rnHp {R : Rn} (hR : rnOk R = true) : ∀ {H : Hp} {c : Nat}, hg (rnHp R H) c = (bwd R c).bind fun b => (hg H b).map fun B => (rnB (fwd R) B).getD .dead := by
  intro H
  induction H with
  | nil => intro c; simp only [rnHp, hg]; cases bwd R c <;> rfl
  | cons p r ih =>
    obtain ⟨b0, B0⟩ := p
    intro c
    simp only [rnHp]
    cases h0 : fwd R b0 with
    | none =>
      rw [ih]
      cases hb : bwd R c with
      | none => rfl
      | some b =>
        have hne : b0 ≠ b := fun e => by subst e; rw [bwd_fwd hR hb] at h0; cases h0
        simp only [Option.bind_some, hg_cons_ne hne]
    | some c0 =>
      simp only []
      rw [hg_hput, ih]
      by_cases hc : c0 = c
      · subst hc
        rw [if_pos rfl, fwd_bwd hR h0]
        simp only [Option.bind_some, hg_cons_eq, Option.map_some]
      · rw [if_neg hc]
        cases hb : bwd R c with
        | none => rfl
        | some b =>
          have hne : b0 ≠ b := fun e => by
            subst e
            rw [bwd_fwd hR hb] at h0
            exact hc (Option.some.inj h0).symm
          simp only [Option.bind_some, hg_cons_ne hne]

theorem tmGet_rn {R : Rn} {keep : List Nat} : ∀ {tm : Tm} {t : Nat} {y : SV}, tmGet (rnTm R keep tm) t = some y → ∃ x, tmGet tm t = some x ∧ y = (rnS (fwd R) x).getD .any := by
  intro tm
  induction tm with
  | nil => intro t y h; cases h
  | cons p r ih =>
    obtain ⟨u, x⟩ := p
    intro t y h
    simp only [rnTm] at h
    by_cases e : u = t
    · subst e
      split at h
      · rw [tmGet_cons_eq] at h
        simp only [Option.some.injEq] at h
        exact ⟨x, tmGet_cons_eq, h.symm⟩
      · rename_i hk
        exfalso
        -- not kept here means not kept anywhere
        have : ∀ (r : Tm), tmGet (rnTm R keep r) u = none := by
          intro r
          induction r with
          | nil => rfl
          | cons q r ihr =>
            obtain ⟨v, z⟩ := q
            simp only [rnTm]
            split
            · rename_i hv
              have : v ≠ u := fun e => by subst e; rw [hk] at hv; cases hv
              rw [tmGet_cons_ne this]; exact ihr
            · exact ihr
        rw [this] at h; cases h
    · split at h
      · rw [tmGet_cons_ne e] at h
        obtain ⟨x', h1, h2⟩ := ih h
        exact ⟨x', by rw [tmGet_cons_ne e]; exact h1, h2⟩
      · obtain ⟨x', h1, h2⟩ := ih h
        exact ⟨x', by rw [tmGet_cons_ne e]; exact h1, h2⟩

/-- The heart of it: the same world, other names. -/
theorem nrm_core {R : Rn} {S : Nat → Prop} {m : Mp} {w : World} {H : Hp} (hR : rnOk R = true) (hK : keepsK R X.K0 = true) (hX : X.Ok) (h1 : SimH S m w H) (h2 : Dom m H) (h7 : Tr X.S0 X.m0 X.w0 X.H0 S m w H) :
    ∃ m2 : Mp, (∀ b c, fwd R b = some c → ∀ p, m b = some p → m2 c = some p) ∧ SimH S m2 w (rnHp R H) ∧ Dom m2 (rnHp R H) ∧ Tr X.S0 X.m0 X.w0 X.H0 S m2 w (rnHp R H) := by
  let m2 : Mp := fun c => (bwd R c).bind m
  have hm2 : ∀ b c, bwd R c = some b → m2 c = m b := fun b c h => by show (bwd R c).bind m = m b; rw [h]; rfl
  have hf : ∀ b c, fwd R b = some c → ∀ p, m b = some p → m2 c = some p := fun b c h p hp => by rw [hm2 b c (fwd_bwd hR h)]; exact hp
  have hget : ∀ c B', hg (rnHp R H) c = some B' → ∃ b B, bwd R c = some b ∧ hg H b = some B ∧ B' = (rnB (fwd R) B).getD .dead := by
    intro c B' h
    rw [hg_rnHp hR] at h
    simp only [Option.bind_eq_some_iff, Option.map_eq_some_iff] at h
    obtain ⟨b, g1, B, g2, g3⟩ := h
    exact ⟨b, B, g1, g2, g3.symm⟩
  have hlv : ∀ {B B' : Blk}, B' = (rnB (fwd R) B).getD .dead → B'.live = true → B.live = true := by
    intro B B' h hl
    cases hb : rnB (fwd R) B with
    | none => rw [hb] at h; subst h; cases hl
    | some B2 => rw [hb] at h; subst h; rw [← rnB_live hb]; exact hl
  refine ⟨m2, hf, ⟨fun c B' hc => ?_, fun c c' B B' p p' k1 k2 k3 k4 k5 k6 k7 => ?_⟩, fun c hc => ?_, ⟨h7.mv.size, h7.mv.fro, h7.mv.shp, fun b p hp => ?_, h7.mv.sm⟩, h7.frame, fun c B' p hc hl hp => ?_⟩
  · obtain ⟨b, B, g1, g2, g3⟩ := hget c B' hc
    rw [hm2 b c g1]
    cases hb : rnB (fwd R) B with
    | none => rw [hb] at g3; subst g3; trivial
    | some B2 => rw [hb] at g3; subst g3; exact rnB_rep hf hb (h1.blk b B g2)
  · obtain ⟨b1, B1, a1, a2, a3⟩ := hget c B k1
    obtain ⟨b2, B2, e1, e2, e3⟩ := hget c' B' k2
    rw [hm2 b1 c a1] at k5
    rw [hm2 b2 c' e1] at k6
    have := h1.inj b1 b2 B1 B2 p p' a2 e2 (hlv a3 k3) (hlv e3 k4) k5 k6 k7
    subst this
    have q1 := bwd_fwd hR a1
    have q2 := bwd_fwd hR e1
    rw [q1] at q2
    exact Option.some.inj q2
  · rw [hg_rnHp hR] at hc
    cases hb : bwd R c with
    | none => show (bwd R c).bind m = none; rw [hb]; rfl
    | some b =>
      rw [hm2 b c hb]
      rw [hb] at hc
      simp only [Option.bind_some, Option.map_eq_none_iff] at hc
      exact h2 b hc
  · have hb0 : b ∈ X.K0 := by
      cases hh : hg X.H0 b with
      | some B => exact hX.keys b B hh
      | none => rw [hX.dom b hh] at hp; cases hp
    exact hf b b (keepsK_get hK b hb0) p (h7.mv.map b p hp)
  · obtain ⟨b, B, g1, g2, g3⟩ := hget c B' hc
    rw [hm2 b c g1] at hp
    exact h7.own b B p g2 (hlv g3 hl) hp

theorem nrm_wk {N : Nat} {G : Nat → Option AV} {K0 : List Nat} {R : Rn} {keep : List Nat} {σ : St} (hR : rnOk R = true) (hK : keepsK R K0 = true) : Wk N G K0 σ (nrm R keep σ) := by
  intro X hX hN hG hK0 a w ⟨S, m, h1, h2, h3, h4, h5, h6, h7⟩
  subst hN hG hK0
  obtain ⟨m2, g1, g2, g3, g4⟩ := nrm_core hR hK hX h1 h2 h7
  refine ⟨S, m2, g2, g3, fun t y hy => ?_, h4, h5, fun g x hx => h6 g x hx, g4⟩
  obtain ⟨x, k1, k2⟩ := tmGet_rn hy
  obtain ⟨v, k3, k4⟩ := h3 t x k1
  refine ⟨v, k3, ?_⟩
  cases hr : rnS (fwd R) x with
  | none => rw [hr] at k2; subst k2; trivial
  | some z => rw [hr] at k2; subst k2; exact rnS_rep g1 hr k4

/-! ### Results -/
def resOne (P : Program) (σ : St) : ResultVar → Pg SV
  | .tmp t => opt (tmGet σ.tm t)
  | .cell a t => (opt (tmGet σ.tm a)).bind fun x => qLoad P σ.hp t x
def resList (P : Program) (σ : St) : List ResultVar → Pg (List AV)
  | [] => .ret []
  | r :: l => (resOne P σ r).bind fun x => match x with
    | .av x => (resList P σ l).bind fun y => .ret (x :: y)
    | _ => .fail
def resSV (P : Program) (σ : St) (rs : List ResultVar) : Pg SV :=
  (resList P σ rs).bind fun l => match l with
    | [x] => .ret (.av x)
    | l => .ret (.tup l)

theorem resOne_run {S : Nat → Prop} {m : Mp} {w : World} {C : FuncId → List AV → Hp → SV → Hp → Prop} {L : Code → St → Ex → St → Prop} {σ : St} {a : Array Value} {r : ResultVar} {x : SV} (h1 : SimH S m w σ.hp) (h3 : RepT S m w σ.tm a) (h : Yd C L (resOne P σ r) x) :
    ∃ v, (match r with | .tmp t => (pure (a.getD t undef) : Sem Value) | .cell c t => do loadVar t (← asAddr (a.getD c undef))).run P w = .ok v w ∧ RepS S m w x v := by
  cases r with
  | tmp t =>
    obtain ⟨v, g1, g2⟩ := h3 t x (yd_opt.1 h)
    exact ⟨v, by simp [Array.getD_eq_getD_getElem?, g1], g2⟩
  | cell c t =>
    obtain ⟨y, h2, h⟩ := yd_bind.1 h
    obtain ⟨v, g1, g2⟩ := h3 c y (yd_opt.1 h2)
    obtain ⟨u, g3, g4⟩ := qLoad_run (P := P) h1 h g2
    refine ⟨u, ?_, g4⟩
    have e : a.getD c undef = v := by simp [Array.getD_eq_getD_getElem?, g1]
    simp only [e]
    have hp : ∃ ad, v = .pointer (some ad) := by
      cases v with
      | pointer q =>
        cases q with
        | some ad => exact ⟨ad, rfl⟩
        | none => simp [Instr.loadAt, Instr.sureAddr, Sem.run, runtimePanic] at g3
      | _ => simp [Instr.loadAt, Instr.sureAddr, stuck, Sem.run] at g3
    obtain ⟨ad, rfl⟩ := hp
    simp only [Instr.loadAt, Instr.sureAddr, Sem.run_bind, Sem.run_pure, Result.andThen_ok] at g3
    simp only [asAddr, Sem.run_bind, Sem.run_pure, Result.andThen_ok]
    exact g3
end
end Vam
