/- A function's contract out of its body's run; what is frozen; paths. -/
import Derived.Test.YtcolcoapgodfcaaVT
namespace Vam
open Go Pg
set_option linter.unusedVariables false
set_option linter.unusedSimpArgs false

def argTm : List AV → Nat → Tm
  | [], _ => []
  | x :: r, i => (i, .av x) :: argTm r (i + 1)

def isEnd : Ex → Bool
  | .normal => true
  | .ret => true
  | _ => false

/-- A function's end: its result, its heap then (under other names). -/
def runEnd (P : Program) (rs : List ResultVar) (R : Rn) (L : Hp) (p : Ex × St) : Pg (SV × Hp) :=
  (sure (isEnd p.1)).bind fun _ => (resSV P p.2 rs).bind fun x =>
  (sure (rnOk R && keepsK R (keys L))).bind fun _ => (opt (rnS (fwd R) x)).bind fun y => .ret (y, rnHp R p.2.hp)

/-- A function's run, whole: its arguments, its heap; its result, its heap then. -/
def runF (P : Program) (G : Nat → Option AV) (N : Nat) (rs : List ResultVar) (hn : Hn) (R : Rn) (c : Code) (as : List AV) (L : Hp) : Pg (SV × Hp) :=
  (exec P G N hn c ⟨argTm as 0, L⟩).bind (runEnd P rs R L)

section
variable {P : Program} {S : Nat → Prop} {m : Mp} {w : World}

theorem argTm_rep : ∀ {as : List AV} {vs : List Value} {i : Nat} {a : Array Value}, RepAs S m w as vs → (∀ j v, vs[j]? = some v → a[i + j]? = some v) → RepT S m w (argTm as i) a := by
  intro as
  induction as with
  | nil => intro vs i a _ _ t x h; cases h
  | cons y as ih =>
    intro vs i a hr ha t x h
    obtain ⟨v, vs', rfl, h1, h2⟩ := hr
    simp only [argTm] at h
    by_cases e : i = t
    · subst e
      rw [tmGet_cons_eq] at h
      simp only [Option.some.injEq] at h; subst h
      exact ⟨v, ha 0 v rfl, h1⟩
    · rw [tmGet_cons_ne e] at h
      refine ih h2 (fun j u hj => ?_) t x h
      have := ha (j + 1) u (by simpa using hj)
      rwa [show i + (j + 1) = i + 1 + j from by omega] at this

theorem repAs_length : ∀ {as : List AV} {vs : List Value}, RepAs S m w as vs → as.length = vs.length := by
  intro as
  induction as with
  | nil => intro vs h; have h : vs = [] := h; subst h; rfl
  | cons x as ih => intro vs h; obtain ⟨v, vs', rfl, h1, h2⟩ := h; simp [ih h2]

/-- How the machine reads a result. -/
def resRead (a : Array Value) (r : ResultVar) : Sem Value :=
  match r with
  | .tmp t => pure (a.getD t undef)
  | .cell c t => do loadVar t (← asAddr (a.getD c undef))

theorem resList_run {C : FuncId → List AV → Hp → SV → Hp → Prop} {L : Code → St → Ex → St → Prop} {σ : St} {a : Array Value} (h1 : SimH S m w σ.hp) (h3 : RepT S m w σ.tm a) : ∀ {rs : List ResultVar} {l : List AV}, Yd C L (resList P σ rs) l →
    ∃ vs, (rs.mapM (resRead a)).run P w = Result.ok vs w ∧ RepAs S m w l vs := by
  intro rs
  induction rs with
  | nil => intro l h; have h := yd_ret.1 h; subst h; exact ⟨[], rfl, rfl⟩
  | cons r rs ih =>
    intro l h
    obtain ⟨x, h2, h⟩ := yd_bind.1 h
    obtain ⟨v, g1, g2⟩ := resOne_run (P := P) h1 h3 h2
    have g1 : (resRead a r).run P w = Result.ok v w := g1
    cases x with
    | av x =>
      obtain ⟨l', h4, h⟩ := yd_bind.1 h
      have h := yd_ret.1 h; subst h
      obtain ⟨vs, g3, g4⟩ := ih h4
      refine ⟨v :: vs, ?_, v, vs, rfl, g2, g4⟩
      rw [List.mapM_cons]
      simp only [Sem.run_bind, g1, g3, Result.andThen_ok, Sem.run_pure]
    | tup => exact fail_absurd h
    | un => exact fail_absurd h
    | any => exact fail_absurd h

theorem resSV_run {C : FuncId → List AV → Hp → SV → Hp → Prop} {L : Code → St → Ex → St → Prop} {σ : St} {a : Array Value} {fn : Func} {x : SV} (h1 : SimH S m w σ.hp) (h3 : RepT S m w σ.tm a) (h : Yd C L (resSV P σ fn.results.toList) x) :
    ∃ v, (results fn a).run P w = .ok v w ∧ RepS S m w x v := by
  obtain ⟨l, h2, h⟩ := yd_bind.1 h
  obtain ⟨vs, g1, g2⟩ := resList_run h1 h3 h2
  have hl := repAs_length g2
  have hrun : (results fn a).run P w = .ok (if h : vs.toArray.size = 1 then vs.toArray[0] else .tuple vs.toArray) w := by
    have e : results fn a = (do let vs ← fn.results.mapM (resRead a); pure (if h : vs.size = 1 then vs[0] else .tuple vs)) := rfl
    rw [e, Array.mapM_eq_mapM_toList]
    simp only [Sem.run_bind, map_eq_pure_bind]
    rw [g1]
    simp only [Result.andThen_ok, Sem.run_pure]
  rw [hrun]
  cases l with
  | nil =>
    have h := yd_ret.1 h; subst h
    have : vs = [] := List.length_eq_zero_iff.1 hl.symm
    subst this
    exact ⟨_, rfl, #[], by simp, g2⟩
  | cons y l =>
    cases l with
    | nil =>
      have h := yd_ret.1 h; subst h
      obtain ⟨v, vs', rfl, k1, k2⟩ := g2
      have k2 : vs' = [] := k2
      subst k2
      exact ⟨_, rfl, k1⟩
    | cons z l =>
      have h := yd_ret.1 h; subst h
      refine ⟨_, rfl, vs.toArray, ?_, g2⟩
      rw [dif_neg (by simp at hl ⊢; omega)]

theorem snd_of {G : Nat → Option AV} {f : FuncId} {fn : Func} {c : Code} {as : List AV} {L : Hp} {r : SV} {L' : Hp} {hn : Hn} {R : Rn} {d : Nat} (hm : P.follows .mixedOrders = true) (hf : P.funcs[f]? = some fn) (hname : (fn.name == "runtime.NumGoroutine") = false) (hb : fn.body = some c)
    (hN : Nat.ble as.length fn.ntmps = true) (hok : codeOk P hn c = true) (h : Yd (Snd P G) (Lp P G fn.ntmps (keys L) hn d) (runF P G fn.ntmps fn.results.toList hn R c as L) (r, L')) : Snd P G f as L r L' := by
  intro S m w vs hG hA hS hD
  have hlen := repAs_length hA
  have hN := Nat.le_of_ble_eq_true hN
  refine .inl ⟨by simp [callFunc, hf, (show fn.name ≠ "runtime.NumGoroutine" by simpa using hname), hb], ?_⟩
  let X : Cx := ⟨fn.ntmps, G, keys L, S, m, w, L⟩
  have hX : X.Ok := ⟨hD, fun b B hb => mem_keys (hg_mem hb)⟩
  obtain ⟨⟨e, σ⟩, h1, h2⟩ := yd_bind.1 h
  obtain ⟨_, h3, h4⟩ := yd_bind.1 h2
  have h3 := yd_sure.1 h3
  obtain ⟨x, h5, h6⟩ := yd_bind.1 h4
  obtain ⟨_, h7, h8⟩ := yd_bind.1 h6
  have h7 := yd_sure.1 h7
  simp only [Bool.and_eq_true] at h7
  obtain ⟨y, h9, h10⟩ := yd_bind.1 h8
  have h9 := yd_opt.1 h9
  obtain ⟨rfl, rfl⟩ := Prod.mk.inj (yd_ret.1 h10)
  have hg0 : Good X ⟨argTm as 0, L⟩ { tmps := vs.toArray ++ Array.replicate (fn.ntmps - vs.toArray.size) undef, defers := [] } w := by
    refine ⟨S, m, hS, hD, argTm_rep hA (fun j v hj => ?_), ?_, rfl, hG, Tr.refl ..⟩
    · have hlt := (List.getElem?_eq_some_iff.1 hj).1
      rw [Nat.zero_add, Array.getElem?_append_left (by simpa using hlt)]
      simpa using hj
    · show (vs.toArray ++ Array.replicate (fn.ntmps - vs.toArray.size) undef).size = fn.ntmps
      simp; omega
  refine calls_of_wp hf hb (wp_mono (exec_sound hm (fun c σ e σ' a w k1 k2 k3 => loop_sound hm hX d c σ e σ' a w k1 k2 k3) c _ e σ _ w hok h1 hg0) ?_)
  rintro _ a1 w1 ⟨rfl, S1, m1, g1, g2, g3, g4, g5, g6, g7⟩
  obtain ⟨v, k1, k2⟩ := resSV_run (P := P) g1 g3 h5
  obtain ⟨m2, q1, q2, q3, q4⟩ := nrm_core (X := X) h7.1 h7.2 hX g1 g2 g7
  have fin : a1.defers = [] ∧ ∃ v, (results fn a1.tmps).run P w1 = .ok v w1 ∧ ∃ S' m', Tr S m w L S' m' w1 (rnHp R σ.hp) ∧ SimH S' m' w1 (rnHp R σ.hp) ∧ Dom m' (rnHp R σ.hp) ∧ RepS S' m' w1 y v :=
    ⟨g5, v, k1, S1, m2, q4, q2, q3, rnS_rep q1 h9 k2⟩
  cases e with
  | normal => exact fin
  | ret => exact fin
  | exit i => cases h3
end

/-! ### Paths -/
inductive Dc where
  | t
  | f
  /-- a call comes back so -/
  | c (r : SV) (L : Hp)
  /-- a loop ends so -/
  | l (e : Ex) (σ : St)

/-- What must hold that a path be gone. -/
def drv {α : Type} (C : FuncId → List AV → Hp → SV → Hp → Prop) (L : Code → St → Ex → St → Prop) : Pg α → List Dc → (α → Prop) → Prop
  | .ret a, [], Q => Q a
  | .ask c k, .t :: ds, Q => c = true ∧ drv C L (k true) ds Q
  | .ask c k, .f :: ds, Q => c = false ∧ drv C L (k false) ds Q
  | .call f as H k, .c r H' :: ds, Q => C f as H r H' ∧ drv C L (k r H') ds Q
  | .loop c σ k, .l e σ' :: ds, Q => L c σ e σ' ∧ drv C L (k e σ') ds Q
  | _, _, _ => False

theorem drv_sound {α : Type} {C : FuncId → List AV → Hp → SV → Hp → Prop} {L : Code → St → Ex → St → Prop} {b : α} : ∀ {p : Pg α} {ds : List Dc}, drv C L p ds (fun a => a = b) → Yd C L p b := by
  intro p
  induction p with
  | ret a => intro ds h; cases ds with
    | nil => exact h
    | cons => exact h.elim
  | fail => intro ds h; cases ds <;> exact h.elim
  | ask c k ih =>
    intro ds h
    cases ds with
    | nil => exact h.elim
    | cons x ds =>
      cases x with
      | t => obtain ⟨rfl, h⟩ := h; exact ih true h
      | f => obtain ⟨rfl, h⟩ := h; exact ih false h
      | c => exact h.elim
      | l => exact h.elim
  | call f as H k ih =>
    intro ds h
    cases ds with
    | nil => exact h.elim
    | cons x ds =>
      cases x with
      | c r H' => exact ⟨r, H', h.1, ih r H' h.2⟩
      | t => exact h.elim
      | f => exact h.elim
      | l => exact h.elim
  | loop c σ k ih =>
    intro ds h
    cases ds with
    | nil => exact h.elim
    | cons x ds =>
      cases x with
      | l e σ' => exact ⟨e, σ', h.1, ih e σ' h.2⟩
      | t => exact h.elim
      | f => exact h.elim
      | c => exact h.elim

/-! ### Words for printed proofs -/
def bodyOf (fn : Func) : Code := fn.body.getD .skip
def runFn (P : Program) (G : Nat → Option AV) (fn : Func) (hn : Hn) (R : Rn) (as : List AV) (L : Hp) : Pg (SV × Hp) :=
  runF P G fn.ntmps fn.results.toList hn R (bodyOf fn) as L

/-- The first region's number in a code. -/
def firstReg : Code → Nat
  | .region id _ _ => id + 1
  | .seq x y => match firstReg x with
    | 0 => firstReg y
    | n => n
  | .cond _ x y => match firstReg x with
    | 0 => firstReg y
    | n => n
  | .block _ c => firstReg c
  | .loop c => firstReg c
  | _ => 0
/-- The loop whose first region is that one. -/
def loopAt : Code → Nat → Option Code
  | .seq x y, n => match loopAt x n with
    | some c => some c
    | none => loopAt y n
  | .cond _ x y, n => match loopAt x n with
    | some c => some c
    | none => loopAt y n
  | .block _ c, n => loopAt c n
  | .loop c, n => match Nat.beq (firstReg c) (n + 1) with
    | true => some c
    | false => loopAt c n
  | _, _ => none
def loopOf (fn : Func) (n : Nat) : Code := (loopAt (bodyOf fn) n).getD .skip

def sel {α : Sort _} (c : Bool) (a b : α) : α := match c with
  | true => a
  | false => b
theorem sel_t {α : Sort _} {c : Bool} {a b : α} (h : c = true) : sel c a b = a := by subst h; rfl
theorem sel_f {α : Sort _} {c : Bool} {a b : α} (h : c = false) : sel c a b = b := by subst h; rfl

/-- The same truth, closed to a look into it. -/
inductive YD {α : Type} (C : FuncId → List AV → Hp → SV → Hp → Prop) (L : Code → St → Ex → St → Prop) (p : Pg α) (b : α) : Prop
  | mk (h : Yd C L p b)

theorem leaf {α : Type} {C : FuncId → List AV → Hp → SV → Hp → Prop} {L : Code → St → Ex → St → Prop} {p : Pg α} {ds : List Dc} {b : α} {A : Prop} (e : drv C L p ds (fun a => a = b) = A) (h : A) : YD C L p b :=
  ⟨drv_sound (e ▸ h)⟩

theorem node {α : Type} {C : FuncId → List AV → Hp → SV → Hp → Prop} {L : Code → St → Ex → St → Prop} {p : Pg α} {c : Bool} {q1 q2 : Prop} {r1 r2 : α} (h1 : c = true → q1 → YD C L p r1) (h2 : c = false → q2 → YD C L p r2) :
    sel c q1 q2 → YD C L p (sel c r1 r2) := by
  cases c
  · exact h2 rfl
  · exact h1 rfl

theorem snd_fn {P : Program} {G : Nat → Option AV} {f : FuncId} {fn : Func} {as : List AV} {L : Hp} {r : SV} {L' : Hp} {hn : Hn} {R : Rn} (d : Nat) (hm : P.follows .mixedOrders = true) (hf : P.funcs[f]? = some fn) (hname : (fn.name == "runtime.NumGoroutine") = false) (hb : fn.body.isSome = true)
    (hN : Nat.ble as.length fn.ntmps = true) (hok : codeOk P hn (bodyOf fn) = true) (h : YD (Snd P G) (Lp P G fn.ntmps (keys L) hn d) (runFn P G fn hn R as L) (r, L')) : Snd P G f as L r L' := by
  obtain ⟨c, hc⟩ := Option.isSome_iff_exists.1 hb
  have e : bodyOf fn = c := by simp [bodyOf, hc]
  rw [e] at hok
  obtain ⟨h⟩ := h
  unfold runFn at h
  rw [e] at h
  exact snd_of hm hf hname hc hN hok h

/-- A loop out of its rounds. -/
theorem lp_mk {P : Program} {G : Nat → Option AV} {N : Nat} {K0 : List Nat} {hn : Hn} {d : Nat} {c : Code} {σ τ τ' σ' : St} {e : Ex} (h1 : Wk N G K0 σ τ)
    (h2 : Iter (fun σ e σ' => YD (Snd P G) (Lp P G N K0 hn d) (exec P G N hn c σ) (e, σ')) (Wk N G K0) τ e τ') (h3 : Wk N G K0 τ' σ') : Lp P G N K0 hn (d + 1) c σ e σ' := by
  refine ⟨τ, τ', h1, ?_, h3⟩
  clear h1 h3
  induction h2 with
  | out h he => obtain ⟨h⟩ := h; exact .out h he
  | next h w r ih => obtain ⟨h⟩ := h; exact .next h w ih

instance instNumK (k : IntKind) (n : Nat) : OfNat (K.int k).T n := ⟨(Int.ofNat n : Int)⟩
instance instNegK (k : IntKind) : Neg (K.int k).T := ⟨fun (x : Int) => Int.neg x⟩
/-- An integer, a bool, a string as an argument or a result. -/
abbrev vi (k : IntKind) (x : Int) : AV := .one (.v (.int k x))
abbrev vb (x : Bool) : AV := .one (.v (.bool x))
abbrev vs (x : ByteArray) : AV := .one (.v (.string x))
abbrev vd (k : K) (x : k.T) : AV := .one (.dat k x)
end Vam
