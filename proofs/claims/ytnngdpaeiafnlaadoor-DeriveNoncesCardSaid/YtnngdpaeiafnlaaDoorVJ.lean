/- The quiet step, all of it. -/
import Derived.Test.YtnngdpaeiafnlaaDoorVI
namespace Vam
open Go Pg
set_option linter.unusedVariables false
set_option linter.unusedSimpArgs false

def qUn (op : UnOp) (x : SV) : Pg SV :=
  match op, asI x, asBl x with
  | .neg, some (k, n), _ => .ret (vv (.int k (isub k 0 n)))
  | .xor, some (k, n), _ => .ret (vv (.int k (icom k n)))
  | .not, _, some b => .ret (vv (.bool (bno b)))
  | _, _, _ => .fail

def qNil (x : SV) : Pg SV :=
  match x with
  | .av (.one (.ptr b o i s r)) => .ret (.av (.one (.ptr b o i s r)))
  | .av (.one (.fp k y o)) => .ret (.av (.one (.fp k y o)))
  | _ => .fail

def qExt (x : SV) (i : Nat) : Pg SV :=
  match x with
  | .tup l => opt ((l[i]?).map .av)
  | _ => .fail

def opds (G : Nat → Option AV) (tm : Tm) : List Operand → Option (List SV)
  | [] => some []
  | x :: r => (opd G tm x).bind fun a => (opds G tm r).map fun b => a :: b

def opdP (G : Nat → Option AV) (tm : Tm) : List (Nat × Operand) → Option (List (Nat × SV))
  | [] => some []
  | (i, x) :: r => (opd G tm x).bind fun a => (opdP G tm r).map fun b => (i, a) :: b

/-- Nothing, or an operand's value. -/
def opdO (G : Nat → Option AV) (tm : Tm) : Option Operand → Option (Option SV)
  | none => some none
  | some x => (opd G tm x).map some

def isNat (op : Op) : Bool :=
  match op with
  | .move _ | .assign _ | .pick .. | .load .. | .nilCheck _ | .binOp .. | .unOp .. | .slice .. | .fieldAddr .. | .field .. | .indexAddr .. | .index .. | .extract .. | .build .. => true
  | _ => false

def quietB (b : Builtin) : Bool :=
  match b with
  | .len => true
  | .max => true
  | .min => true
  | _ => false

/-- Is an operation quiet: it makes and writes nothing. -/
def quiet (P : Program) (op : Op) : Bool :=
  match op with
  | .convert _ dst _ => match P.underlying dst with
    | some (.slice _) => false
    | _ => true
  | .call c => match c.callee with
    | .builtin b => quietB b
    | _ => false
  | op => isNat op

def qBuiltin (P : Program) (b : Builtin) (ts : List TypeId) (xs : List SV) : Pg SV :=
  match b, ts, xs with
  | .len, [t], [x] => qLen P t x
  | .max, _, x :: r => qMax mx (asI x) r
  | .min, _, x :: r => qMax mn (asI x) r
  | _, _, _ => .fail

def qstep (P : Program) (G : Nat → Option AV) (H : Hp) (tm : Tm) (op : Op) : Pg SV :=
  match op with
  | .move x => opt (opd G tm x)
  | .assign x => opt (opd G tm x)
  | .pick c a b => (opt ((opd G tm c).bind asBl)).bind fun c => .ask c fun d => match d with
    | true => opt (opd G tm a)
    | false => opt (opd G tm b)
  | .load t a => (opt (opd G tm a)).bind fun x => qLoad P H t x
  | .nilCheck x => (opt (opd G tm x)).bind qNil
  | .binOp op t x y _ => (opt (opd G tm x)).bind fun x => (opt (opd G tm y)).bind fun y => qBin P op t x y
  | .unOp op _ x => (opt (opd G tm x)).bind fun x => qUn op x
  | .convert s d x => (opt (opd G tm x)).bind fun x => qConv P H s d x
  | .slice t x lo hi none => (opt (opd G tm x)).bind fun x => (opt (opdO G tm lo)).bind fun lo => (opt (opdO G tm hi)).bind fun hi => qSlice P H t x lo hi
  | .fieldAddr t x f => (opt (opd G tm x)).bind fun x => qFieldAddr P t x f
  | .field t x f => (opt (opd G tm x)).bind fun x => qField P t x f
  | .indexAddr t x i => (opt (opd G tm x)).bind fun x => (opt (opd G tm i)).bind fun i => qIndexAddr P t x i
  | .index t x i => (opt (opd G tm x)).bind fun x => (opt (opd G tm i)).bind fun i => qIndex P t x i
  | .extract x i => (opt (opd G tm x)).bind fun x => qExt x i
  | .build t parts => (opt (opdP G tm parts.toList)).bind fun ps => qBuild P t ps
  | .call c => match c.callee with
    | .builtin b => (opt (opds G tm c.args.toList)).bind fun xs => qBuiltin P b c.argTypes.toList xs
    | _ => .fail
  | _ => .fail

section
variable {S : Nat → Prop} {m : Mp} {w : World} {P : Program} {C : FuncId → List AV → Hp → SV → Hp → Prop} {L : Code → St → Ex → St → Prop}

theorem qUn_run {op : UnOp} {x r : SV} {v : Value} (h : Yd C L (qUn op x) r) (hx : RepS S m w x v) : ∃ z, (Op.unary op v).run P w = Result.ok z w ∧ RepS S m w r z := by
  unfold qUn at h
  split at h
  · rename_i k n _ hn
    obtain rfl := asI_rep hn hx
    have h := yd_ret.1 h; subst h
    exact ⟨_, by simp [Op.unary, Op.intArith, isub], rep_v rfl⟩
  · rename_i k n _ hn
    obtain rfl := asI_rep hn hx
    have h := yd_ret.1 h; subst h
    exact ⟨_, by simp [Op.unary, Op.intBits, bits, icom], rep_v rfl⟩
  · rename_i b hb
    obtain rfl := asBl_rep hb hx
    have h := yd_ret.1 h; subst h
    exact ⟨_, by simp [Op.unary, bno], rep_v rfl⟩
  · exact fail_absurd h

theorem repAs_get : ∀ {l : List AV} {vs : List Value} {i : Nat} {x : AV}, RepAs S m w l vs → l[i]? = some x → ∃ v, vs[i]? = some v ∧ RepA S m w x v := by
  intro l
  induction l with
  | nil => intro vs i x _ h; simp at h
  | cons y l ih =>
    intro vs i x hr h
    obtain ⟨v, vs', rfl, h1, h2⟩ := hr
    cases i with
    | zero => simp at h; subst h; exact ⟨v, rfl, h1⟩
    | succ i => simpa using ih h2 (by simpa using h)

theorem qExt_run {x r : SV} {i : Nat} {v : Value} (h : Yd C L (qExt x i) r) (hx : RepS S m w x v) : ∃ z, (Instr.extract v i).run P w = Result.ok z w ∧ RepS S m w r z := by
  unfold qExt at h
  split at h
  · rename_i l
    have h := yd_opt.1 h
    simp only [Option.map_eq_some_iff] at h
    obtain ⟨y, h1, rfl⟩ := h
    obtain ⟨vs, rfl, hvs⟩ := hx
    obtain ⟨u, h2, h3⟩ := repAs_get hvs h1
    refine ⟨u, ?_, h3⟩
    have h2 : vs[i]? = some u := by simpa using h2
    simp [Instr.extract, h2]
  · exact fail_absurd h

theorem opds_rep {G : Nat → Option AV} {tm : Tm} {a : Act} (hG : RepG S m w G) (hT : RepT S m w tm a.tmps) : ∀ {os : List Operand} {xs : List SV}, opds G tm os = some xs →
    xs.length = os.length ∧ ∀ (i : Nat) (y : SV) (v : Value), xs[i]? = some y → (os.map a.eval)[i]? = some v → RepS S m w y v := by
  intro os
  induction os with
  | nil => intro xs h; simp only [opds, Option.some.injEq] at h; subst h; exact ⟨rfl, fun i y v h => by simp at h⟩
  | cons o os ih =>
    intro xs h
    simp only [opds, Option.bind_eq_some_iff, Option.map_eq_some_iff] at h
    obtain ⟨x, h1, xs', h2, rfl⟩ := h
    obtain ⟨g1, g2⟩ := ih h2
    refine ⟨by simp [g1], fun i y v hy hv => ?_⟩
    cases i with
    | zero =>
      simp at hy hv; subst hy hv
      exact opd_rep hG hT h1
    | succ i => exact g2 i y v (by simpa using hy) (by simpa using hv)

theorem opdP_rep {G : Nat → Option AV} {tm : Tm} {a : Act} (hG : RepG S m w G) (hT : RepT S m w tm a.tmps) : ∀ {os : List (Nat × Operand)} {xs : List (Nat × SV)}, opdP G tm os = some xs →
    RepP S m w xs (os.map fun p => (p.1, a.eval p.2)) := by
  intro os
  induction os with
  | nil => intro xs h; simp only [opdP, Option.some.injEq] at h; subst h; rfl
  | cons o os ih =>
    obtain ⟨i, o⟩ := o
    intro xs h
    simp only [opdP, Option.bind_eq_some_iff, Option.map_eq_some_iff] at h
    obtain ⟨x, h1, xs', h2, rfl⟩ := h
    exact ⟨_, _, rfl, opd_rep hG hT h1, ih h2⟩

theorem opdO_rep {G : Nat → Option AV} {tm : Tm} {a : Act} {o : Option Operand} {x : Option SV} (hG : RepG S m w G) (hT : RepT S m w tm a.tmps) (h : opdO G tm o = some x) : RepO S m w x (o.map a.eval) := by
  cases o with
  | none => simp only [opdO, Option.some.injEq] at h; subst h; trivial
  | some o =>
    simp only [opdO, Option.map_eq_some_iff] at h
    obtain ⟨y, h1, rfl⟩ := h
    exact opd_rep hG hT h1

theorem qBuiltin_run {b : Builtin} {ts : Array TypeId} {ty : TypeId} {cs : Array Bool} {xs : List SV} {vs : Array Value} {r : SV} (h : Yd C L (qBuiltin P b ts.toList xs) r)
    (hx : xs.length = vs.toList.length ∧ ∀ (i : Nat) (y : SV) (v : Value), xs[i]? = some y → vs.toList[i]? = some v → RepS S m w y v) :
    ∃ z, (builtin b ts ty cs vs).run P w = Result.ok (.value z) w ∧ RepS S m w r z := by
  obtain ⟨ts⟩ := ts
  obtain ⟨vs⟩ := vs
  simp only at h hx
  unfold qBuiltin at h
  split at h
  · rename_i t x
    match vs, hx with
    | [v], hx =>
      obtain ⟨z, h1, h2⟩ := qLen_run (P := P) (ty := ty) h (hx.2 0 x v rfl rfl)
      exact ⟨z, by simp only [builtin, Sem.run_bind, h1, Result.andThen_ok, Sem.run_pure], h2⟩
    | [], hx => simp at hx
    | _ :: _ :: _, hx => simp at hx
  · rename_i x rest
    match vs, hx with
    | v :: vs, hx =>
      cases hn : asI x with
      | none => rw [hn] at h; cases rest <;> exact fail_absurd h
      | some p =>
        obtain ⟨k, a⟩ := p
        rw [hn] at h
        obtain rfl := asI_rep hn (hx.2 0 x v rfl rfl)
        obtain ⟨z, h1, h2⟩ := qMax_run (P := P) (f := Builtin.max2) (fun k a k' b w => by simp [Builtin.max2, mx]) h
          (vs := vs) ⟨by simpa using hx.1, fun i y v h1 h2 => hx.2 (i + 1) y v (by simpa using h1) (by simpa using h2)⟩
        exact ⟨z, by simp only [builtin, Builtin.max_, Sem.run_bind, h1, Result.andThen_ok, Sem.run_pure], h2⟩
    | [], hx => simp at hx
  · rename_i x rest
    match vs, hx with
    | v :: vs, hx =>
      cases hn : asI x with
      | none => rw [hn] at h; cases rest <;> exact fail_absurd h
      | some p =>
        obtain ⟨k, a⟩ := p
        rw [hn] at h
        obtain rfl := asI_rep hn (hx.2 0 x v rfl rfl)
        obtain ⟨z, h1, h2⟩ := qMax_run (P := P) (f := Builtin.min2) (fun k a k' b w => by simp [Builtin.min2, mn]) h
          (vs := vs) ⟨by simpa using hx.1, fun i y v h1 h2 => hx.2 (i + 1) y v (by simpa using h1) (by simpa using h2)⟩
        exact ⟨z, by simp only [builtin, Builtin.min_, Sem.run_bind, h1, Result.andThen_ok, Sem.run_pure], h2⟩
    | [], hx => simp at hx
  · exact fail_absurd h

theorem value_run {x : Sem Value} {z : Value} (h : x.run P w = Result.ok z w) : (do pure (Next.value (← x)) : Sem Next).run P w = Result.ok (.value z) w := by
  simp only [Sem.run_bind, h, Result.andThen_ok, Sem.run_pure]

theorem qstep_run {G : Nat → Option AV} {H : Hp} {tm : Tm} {a : Act} {o : Oper} {r : SV} (hH : SimH S m w H) (hG : RepG S m w G) (hT : RepT S m w tm a.tmps) (h : Yd C L (qstep P G H tm o.op) r) :
    ∃ z, (execOp a.eval o).run P w = Result.ok (.value z) w ∧ RepS S m w r z := by
  have R : ∀ {x : Operand} {y : SV}, opd G tm x = some y → RepS S m w y (a.eval x) := fun h => opd_rep hG hT h
  unfold execOp
  unfold qstep at h
  split at h
  · rename_i x ho; rw [ho]; exact ⟨_, rfl, R (yd_opt.1 h)⟩
  · rename_i x ho; rw [ho]; exact ⟨_, rfl, R (yd_opt.1 h)⟩
  · rename_i c x y ho
    rw [ho]
    obtain ⟨b, h1, h⟩ := yd_bind.1 h
    have h1 := yd_opt.1 h1
    simp only [Option.bind_eq_some_iff] at h1
    obtain ⟨cv, h1, h2⟩ := h1
    have hc := asBl_rep h2 (R h1)
    simp only [Yd] at h
    cases b with
    | true => exact ⟨a.eval x, by simp [hc, asBool], R (yd_opt.1 h)⟩
    | false => exact ⟨a.eval y, by simp [hc, asBool], R (yd_opt.1 h)⟩
  · rename_i t x ho
    rw [ho]
    obtain ⟨y, h1, h⟩ := yd_bind.1 h
    obtain ⟨z, g1, g2⟩ := qLoad_run (P := P) hH h (R (yd_opt.1 h1))
    exact ⟨z, value_run g1, g2⟩
  · rename_i x ho
    rw [ho]
    obtain ⟨y, h1, h⟩ := yd_bind.1 h
    have hr := R (yd_opt.1 h1)
    unfold qNil at h
    split at h
    · have h := yd_ret.1 h; subst h
      obtain ⟨c, base, _, e⟩ := (repS_one rfl).1 hr
      simp only [List.cons.injEq, and_true] at e
      exact ⟨a.eval x, by simp [e], hr⟩
    · have h := yd_ret.1 h; subst h
      obtain ⟨c, off, vs, e, _⟩ := (repS_one rfl).1 hr
      simp only [List.cons.injEq, and_true] at e
      exact ⟨a.eval x, by simp [e], hr⟩
    · exact fail_absurd h
  · rename_i op t x y t2 ho
    rw [ho]
    obtain ⟨x', h1, h⟩ := yd_bind.1 h
    obtain ⟨y', h2, h⟩ := yd_bind.1 h
    obtain ⟨z, g1, g2⟩ := qBin_run (P := P) (xo := x) (yo := y) h (R (yd_opt.1 h1)) (R (yd_opt.1 h2))
    exact ⟨z, value_run g1, g2⟩
  · rename_i op t x ho
    rw [ho]
    obtain ⟨x', h1, h⟩ := yd_bind.1 h
    obtain ⟨z, g1, g2⟩ := qUn_run (P := P) h (R (yd_opt.1 h1))
    exact ⟨z, value_run g1, g2⟩
  · rename_i s d x ho
    rw [ho]
    obtain ⟨x', h1, h⟩ := yd_bind.1 h
    obtain ⟨z, g1, g2⟩ := qConv_run (P := P) hH h (R (yd_opt.1 h1))
    exact ⟨z, value_run g1, g2⟩
  · rename_i t x lo hi ho
    rw [ho]
    obtain ⟨x', h1, h⟩ := yd_bind.1 h
    obtain ⟨lo', h2, h⟩ := yd_bind.1 h
    obtain ⟨hi', h3, h⟩ := yd_bind.1 h
    obtain ⟨z, g1, g2⟩ := qSlice_run (P := P) hH h (R (yd_opt.1 h1)) (opdO_rep hG hT (yd_opt.1 h2)) (opdO_rep hG hT (yd_opt.1 h3))
    exact ⟨z, value_run g1, g2⟩
  · rename_i t x f ho
    rw [ho]
    obtain ⟨x', h1, h⟩ := yd_bind.1 h
    obtain ⟨z, g1, g2⟩ := qFieldAddr_run (P := P) h (R (yd_opt.1 h1))
    exact ⟨z, value_run g1, g2⟩
  · rename_i t x f ho
    rw [ho]
    obtain ⟨x', h1, h⟩ := yd_bind.1 h
    obtain ⟨z, g1, g2⟩ := qField_run (P := P) h (R (yd_opt.1 h1))
    exact ⟨z, value_run g1, g2⟩
  · rename_i t x i ho
    rw [ho]
    obtain ⟨x', h1, h⟩ := yd_bind.1 h
    obtain ⟨i', h2, h⟩ := yd_bind.1 h
    obtain ⟨z, g1, g2⟩ := qIndexAddr_run (P := P) h (R (yd_opt.1 h1)) (R (yd_opt.1 h2))
    exact ⟨z, value_run g1, g2⟩
  · rename_i t x i ho
    rw [ho]
    obtain ⟨x', h1, h⟩ := yd_bind.1 h
    obtain ⟨i', h2, h⟩ := yd_bind.1 h
    obtain ⟨z, g1, g2⟩ := qIndex_run (P := P) h (R (yd_opt.1 h1)) (R (yd_opt.1 h2))
    exact ⟨z, value_run g1, g2⟩
  · rename_i x i ho
    rw [ho]
    obtain ⟨x', h1, h⟩ := yd_bind.1 h
    obtain ⟨z, g1, g2⟩ := qExt_run (P := P) h (R (yd_opt.1 h1))
    exact ⟨z, value_run g1, g2⟩
  · rename_i t parts ho
    rw [ho]
    obtain ⟨ps, h1, h⟩ := yd_bind.1 h
    have hp := opdP_rep hG hT (yd_opt.1 h1)
    obtain ⟨z, g1, g2⟩ := qBuild_run (P := P) (ps := parts.map fun p => (p.1, a.eval p.2)) h (by simpa using hp)
    exact ⟨z, value_run g1, g2⟩
  · rename_i c ho
    rw [ho]
    split at h
    · rename_i b hc
      obtain ⟨xs, h1, h⟩ := yd_bind.1 h
      obtain ⟨g1, g2⟩ := opds_rep hG hT (yd_opt.1 h1)
      obtain ⟨z, f1, f2⟩ := qBuiltin_run (P := P) (ty := o.type) (cs := c.args.map fun | .const _ => true | _ => false) (vs := c.args.map a.eval) h ⟨by simpa using g1, fun i y v h1 h2 => g2 i y v h1 (by simpa using h2)⟩
      refine ⟨z, ?_, f2⟩
      simp only [resolve, hc, Sem.run_bind, Sem.run_pure, Result.andThen_ok, invoke]
      exact f1
    · exact fail_absurd h
  · exact fail_absurd h
end
end Vam
