/- One operation in a state of a function's run; operations in the text's order. -/
import Derived.Test.YtnngdpaeiafnlaaDoorVP
namespace Vam
open Go Pg
set_option linter.unusedVariables false
set_option linter.unusedSimpArgs false

/-- What a function's run started from. -/
structure Cx where
  N : Nat
  G : Nat → Option AV
  K0 : List Nat
  S0 : Nat → Prop
  m0 : Mp
  w0 : World
  H0 : Hp

def Good (X : Cx) (σ : St) (a : Act) (w : World) : Prop :=
  ∃ S m, SimH S m w σ.hp ∧ Dom m σ.hp ∧ RepT S m w σ.tm a.tmps ∧ a.tmps.size = X.N ∧ a.defers = [] ∧ RepG S m w X.G ∧ Tr X.S0 X.m0 X.w0 X.H0 S m w σ.hp

structure Hn where
  rn : List (Nat × Rn) := []
  xt : List (Nat × List Nat) := []
  fz : List (Nat × List Nat) := []
  fe : List Nat := []
  lk : List (Nat × List Nat) := []

def lkR : List (Nat × Rn) → Nat → Rn
  | [], _ => []
  | (i, x) :: r, k => match Nat.beq i k with
    | true => x
    | false => lkR r k
def lkL : List (Nat × List Nat) → Nat → List Nat
  | [], _ => []
  | (i, x) :: r, k => match Nat.beq i k with
    | true => x
    | false => lkL r k

def avs : List SV → Option (List AV)
  | [] => some []
  | .av x :: r => (avs r).map fun l => x :: l
  | _ :: _ => none

/-- A call's hint: names of blocks handed over; blocks that are lent (under names from 1000000 on). -/
def oldR : Rn → Rn
  | [] => []
  | (c, b) :: r => match Nat.ble 1000000 c with
    | true => oldR r
    | false => (c, b) :: oldR r
def loR : Rn → List Nat
  | [] => []
  | (c, b) :: r => match Nat.ble 1000000 c && Nat.ble (c + 1) 2000000 with
    | true => b :: loR r
    | false => loR r
/-- Blocks given away. -/
def giR : Rn → List Nat
  | [] => []
  | (c, b) :: r => match Nat.ble 2000000 c with
    | true => b :: giR r
    | false => giR r
theorem oldR_mem : ∀ {R : Rn} {c b : Nat}, (c, b) ∈ oldR R → (c, b) ∈ R := by
  intro R
  induction R with
  | nil => intro c b h; cases h
  | cons p R ih =>
    obtain ⟨c0, b0⟩ := p
    intro c b h
    simp only [oldR] at h
    split at h
    · exact List.mem_cons_of_mem _ (ih h)
    · rcases List.mem_cons.1 h with h | h
      · rw [h]; exact List.mem_cons_self ..
      · exact List.mem_cons_of_mem _ (ih h)

/-- An operation's run over what it may see. -/
def orun (P : Program) (G : Nat → Option AV) (R : Rn) (tm : Tm) (H : Hp) (o : Oper) : Pg (SV × Hp) :=
  match quiet P o.op with
  | true => (qstep P G H tm o.op).bind fun r => .ret (r, [])
  | false => match o.op with
    | .call c => match c.callee with
      | .value (.func f) => (opt ((opds G tm c.args.toList).bind avs)).bind fun xs => ecallL H f (oldR R) (loR R) (giR R) (nilArgs P f xs)
      | _ => estep P G H tm o.dst o.op
    | _ => estep P G H tm o.dst o.op

def dstOk (N : Nat) : Option Nat → Bool
  | none => true
  | some d => Nat.ble (d + 1) N

def freshAll (Hm H : Hp) : Hp → Bool
  | [] => true
  | (b, _) :: r => ((hg Hm b).isSome || (hg H b).isNone) && freshAll Hm H r
def freshR (Hm H : Hp) : Rn → Bool
  | [] => true
  | (_, b) :: r => ((hg Hm b).isSome || (hg H b).isNone) && freshR Hm H r
def freshD (H : Hp) : Option Nat → Bool
  | none => true
  | some d => (hg H d).isNone

def okPut (P : Program) (N : Nat) (R : Rn) (Hm H : Hp) (o : Oper) (U : Hp) : Bool :=
  dstOk N o.dst && (quiet P o.op || (freshD H o.dst && (freshAll Hm H U && freshR Hm H R)))

def tmSet (tm : Tm) : Option Nat → SV → Tm
  | none, _ => tm
  | some d, x => tmPut tm d x
def oput (σ : St) (dst : Option Nat) (r : SV) (U : Hp) : St := { tm := tmSet σ.tm dst r, hp := upd σ.hp U }

section
variable {P : Program} {X : Cx} {L : Code → St → Ex → St → Prop} {σ : St} {a : Act} {w : World}

theorem tmSet_rep {S : Nat → Prop} {m : Mp} {tm : Tm} {dst : Option Nat} {r : SV} {z : Value} (hT : RepT S m w tm a.tmps) (hd : dstOk a.tmps.size dst = true) (hr : RepS S m w r z) : RepT S m w (tmSet tm dst r) (a.put dst z).tmps := by
  cases dst with
  | none => exact hT
  | some d =>
    have hd : d < a.tmps.size := Nat.le_of_ble_eq_true hd
    intro t x hx
    simp only [tmSet, tmGet_put] at hx
    simp only [Act.put]
    split at hx
    · rename_i e; subst e
      simp only [Option.some.injEq] at hx; subst hx
      exact ⟨z, by simp [hd], hr⟩
    · rename_i e
      obtain ⟨v, h1, h2⟩ := hT t x hx
      exact ⟨v, by rw [Array.getElem?_setIfInBounds_ne e]; exact h1, h2⟩

theorem put_size {dst : Option Nat} {z : Value} : (a.put dst z).tmps.size = a.tmps.size := by
  cases dst <;> simp [Act.put]
theorem put_defers {dst : Option Nat} {z : Value} : (a.put dst z).defers = a.defers := by
  cases dst <;> rfl

theorem Good.ev {S S' : Nat → Prop} {m m' : Mp} {w' : World} {o : Oper} {r : SV} {z : Value} {U : Hp} (h1 : SimH S m w σ.hp) (h2 : Dom m σ.hp) (h3 : RepT S m w σ.tm a.tmps) (h4 : a.tmps.size = X.N) (h5 : a.defers = []) (h6 : RepG S m w X.G) (h7 : Tr X.S0 X.m0 X.w0 X.H0 S m w σ.hp)
    (hd : dstOk X.N o.dst = true) (he : Ev S m w σ.hp S' m' w' U) (hr : RepS S' m' w' r z) : Good X (oput σ o.dst r U) (a.put o.dst z) w' := by
  obtain ⟨g1, g2, g3⟩ := he.lift h1 h2
  exact ⟨S', m', g1, g2, tmSet_rep (h3.mv he.mv) (by rw [h4]; exact hd) hr, by rw [put_size]; exact h4, by rw [put_defers]; exact h5, h6.mv he.mv, h7.trans g3⟩

theorem Ev.none {S : Nat → Prop} {m : Mp} {H : Hp} : Ev S m w H S m w [] :=
  ⟨Mv.refl S m w, fun _ _ _ => ⟨rfl, id⟩, fun _ _ h => (by cases h), fun _ _ _ h => (by cases h), fun _ _ _ _ _ _ h => (by cases h), fun _ _ => rfl⟩

theorem freshAll_get {Hm H : Hp} : ∀ {U : Hp}, freshAll Hm H U = true → ∀ b, b ∈ keys U → hg Hm b = none → hg H b = none := by
  intro U
  induction U with
  | nil => intro _ b hb; simp [keys] at hb
  | cons p U ih =>
    obtain ⟨c, B⟩ := p
    intro h b hb hn
    simp only [freshAll, Bool.and_eq_true, Bool.or_eq_true] at h
    simp only [keys, List.map_cons, List.mem_cons] at hb
    rcases hb with rfl | hb
    · rcases h.1 with h1 | h1
      · rw [hn] at h1; cases h1
      · exact Option.isNone_iff_eq_none.1 h1
    · exact ih h.2 b hb hn
theorem freshR_get {Hm H : Hp} : ∀ {R : Rn}, freshR Hm H R = true → ∀ c b, (c, b) ∈ R → hg Hm b = none → hg H b = none := by
  intro R
  induction R with
  | nil => intro _ c b hb; cases hb
  | cons p R ih =>
    obtain ⟨c0, b0⟩ := p
    intro h c b hb hn
    simp only [freshR, Bool.and_eq_true, Bool.or_eq_true] at h
    rcases List.mem_cons.1 hb with hb | hb
    · obtain ⟨rfl, rfl⟩ := Prod.mk.inj hb
      rcases h.1 with h1 | h1
      · rw [hn] at h1; cases h1
      · exact Option.isNone_iff_eq_none.1 h1
    · exact ih h.2 c b hb hn

theorem avs_rep {S : Nat → Prop} {m : Mp} : ∀ {xs : List SV} {l : List AV} {vs : List Value}, avs xs = some l → xs.length = vs.length → (∀ (i : Nat) (y : SV) (v : Value), xs[i]? = some y → vs[i]? = some v → RepS S m w y v) → RepAs S m w l vs := by
  intro xs
  induction xs with
  | nil => intro l vs h h1 h2; simp only [avs, Option.some.injEq] at h; subst h; have : vs = [] := List.length_eq_zero_iff.1 h1.symm; subst this; rfl
  | cons x xs ih =>
    intro l vs h h1 h2
    cases x with
    | av x =>
      simp only [avs, Option.map_eq_some_iff] at h
      obtain ⟨l', h3, rfl⟩ := h
      cases vs with
      | nil => simp at h1
      | cons v vs => exact ⟨v, vs, rfl, h2 0 _ _ rfl rfl, ih h3 (by simpa using h1) fun i y v hy hv => h2 (i + 1) y v (by simpa using hy) (by simpa using hv)⟩
    | tup => simp [avs] at h
    | un => simp [avs] at h
    | any => simp [avs] at h

theorem op_sound {R : Rn} {Hm U : Hp} {o : Oper} {r : SV} {Q : Exit → Act → World → Prop} {K : Act → World → Prop} (hgd : Good X σ a w) (hs : ∀ b B, hg Hm b = some B → Vam.hg σ.hp b = some B)
    (h : Yd (Snd P X.G) L (orun P X.G R σ.tm Hm o) (r, U)) (hok : okPut P X.N R Hm σ.hp o U = true) (hK : ∀ a' w', Good X (oput σ o.dst r U) a' w' → K a' w') : o.wp P a w K Q := by
  obtain ⟨S, m, h1, h2, h3, h4, h5, h6, h7⟩ := hgd
  simp only [okPut, Bool.and_eq_true, Bool.or_eq_true] at hok
  obtain ⟨hd, hok⟩ := hok
  have h1m := h1.sub hs
  unfold orun at h
  unfold Oper.wp
  split at h
  · obtain ⟨r', g1, h⟩ := yd_bind.1 h
    obtain ⟨rfl, rfl⟩ := Prod.mk.inj (yd_ret.1 h)
    obtain ⟨z, e1, e2⟩ := qstep_run (P := P) (a := a) h1m h6 h3 g1
    rw [e1, Oper.upon_value]
    exact hK _ _ (Good.ev h1 h2 h3 h4 h5 h6 h7 hd Ev.none e2)
  · rename_i hq
    rw [hq] at hok
    simp only [Bool.false_eq_true, false_or] at hok
    obtain ⟨f1, f2, f3⟩ := hok
    have hdn : ∀ d, d ∈ keys U → Vam.hg Hm d = none → m d = none := fun d k1 k2 => h2 d (freshAll_get f2 d k1 k2)
    have hf : ∀ d, o.dst = some d → Vam.hg Hm d = none := fun d hd' => by
      rw [hd'] at f1
      cases hx : Vam.hg Hm d with
      | none => rfl
      | some B => have := hs d B hx; simp only [freshD, this] at f1; cases f1
    have ev : ∀ {u : SV × Hp}, u = (r, U) → Yd (Snd P X.G) L (estep P X.G Hm σ.tm o.dst o.op) u → o.upon P a K Q ((execOp a.eval o).run P w) := by
      intro u hu he
      subst hu
      obtain ⟨n, z, w', S', m', e1, e2, e3, e4⟩ := estep_run (P := P) (a := a) h1m h6 h3 hdn hf he
      rw [e1]
      have := Good.ev (o := o) h1 h2 h3 h4 h5 h6 h7 hd (e3.sub hs) e4
      rcases e2 with rfl | ⟨rfl, rfl⟩
      · rw [Oper.upon_value]; exact hK _ _ this
      · rw [Oper.upon_skip]; exact hK _ _ this
    split at h
    · rename_i c ho
      split at h
      · rename_i f hc
        obtain ⟨xs, g1, h⟩ := yd_bind.1 h
        have g1 := yd_opt.1 g1
        simp only [Option.bind_eq_some_iff] at g1
        obtain ⟨ys, g1, g2⟩ := g1
        obtain ⟨q1, q2⟩ := opds_rep h6 h3 g1
        have hargs : RepAs S m w xs (c.args.toList.map a.eval) := avs_rep g2 (by simpa using q1) q2
        have hcall := ecallL_run (P := P) h1m h6 (nilArgs_rep hargs) (fun d k1 k2 => hdn d k2 k1) h (fun c b k1 k2 => h2 b (freshR_get f3 c b (oldR_mem k1) k2))
        have hex : (execOp a.eval o).run P w = (callFunc f (c.args.toList.map a.eval).toArray).run P w := by
          have he : (c.args.map a.eval) = (c.args.toList.map a.eval).toArray := by
            apply Array.ext'; simp
          unfold execOp
          rw [ho]
          simp only [resolve, hc, Act.eval, Deferred.ofValue, Sem.run_bind, Sem.run_pure, Result.andThen_ok, invoke]
          rw [he]
          simp
        rw [hex]
        rcases hcall with ⟨e1, e2⟩ | ⟨v, w', e1, S', m', e3, e4⟩
        · rw [e1, Oper.upon_enter]
          refine Calls.mono e2 fun e w' he => ?_
          cases e with
          | returned v =>
            obtain ⟨S', m', e3, e4⟩ := he
            exact hK _ _ (Good.ev h1 h2 h3 h4 h5 h6 h7 hd (e3.sub hs) e4)
          | panicked => exact he.elim
          | outgrown => exact he.elim
        · rw [e1, Oper.upon_value]
          exact hK _ _ (Good.ev h1 h2 h3 h4 h5 h6 h7 hd (e3.sub hs) e4)
      · exact ev rfl h
    · exact ev rfl h

/-! ### Guards -/
def guardOk (all : List Oper) (tm : Tm) (g : Option (Nat × Bool)) : Pg Bool :=
  match g with
  | none => .ret true
  | some (j, want) => match all[j]? with
    | some o => match o.dst with
      | some t => match tmGet tm t with
        | some (.av (.one (.v (.bool b)))) => .ask b fun c => .ret (c == want)
        | some .un => .ret false
        | _ => .fail
      | none => .fail
    | none => .fail

theorem guardOk_run {S : Nat → Prop} {m : Mp} {C : FuncId → List AV → Hp → SV → Hp → Prop} {ops : Array Oper} {tm : Tm} {o : Oper} {g : Bool} (hT : RepT S m w tm a.tmps) (h : Yd C L (guardOk ops.toList tm o.guard) g) : Region.wanted o (yielded ops a.tmps) = g := by
  unfold guardOk at h
  unfold Region.wanted
  split at h
  · rename_i hg; rw [hg]; exact yd_ret.1 h
  · rename_i j want hg
    rw [hg]
    dsimp only
    split at h
    · rename_i o' ho
      have ho : ops[j]? = some o' := by simpa using ho
      split at h
      · rename_i t ht
        split at h
        · rename_i b hb
          obtain ⟨v, e1, e2⟩ := hT t _ hb
          obtain ⟨rfl, _⟩ := repS_v.1 e2
          simp only [Yd] at h
          simp only [yielded, ho, Option.bind_some, ht, e1]
          rw [← h]
          cases b <;> cases want <;> rfl
        · rename_i hb
          obtain ⟨v, e1, e2⟩ := hT t _ hb
          have e2 : v = undef := e2
          subst e2
          have h := yd_ret.1 h
          simp only [yielded, ho, Option.bind_some, ht, e1]
          rw [← h]
          rfl
        · exact fail_absurd h
      · exact fail_absurd h
    · exact fail_absurd h

/-! ### One operation with its guard -/
def grun (P : Program) (G : Nat → Option AV) (all : List Oper) (R : Rn) (tm : Tm) (H : Hp) (o : Oper) : Pg (Option (SV × Hp)) :=
  (guardOk all tm o.guard).bind fun g => match g with
    | true => (orun P G R tm H o).bind fun p => .ret (some p)
    | false => .ret none

def gput (P : Program) (N : Nat) (R : Rn) (Hm : Hp) (σ : St) (o : Oper) : Option (SV × Hp) → Pg (St × List Nat)
  | some (r, U) => (sure (okPut P N R Hm σ.hp o U)).bind fun _ => .ret (oput σ o.dst r U, keys U)
  | none => (sure (dstOk N o.dst)).bind fun _ => .ret (oput σ o.dst .un [], [])

def gstep (P : Program) (G : Nat → Option AV) (N : Nat) (all : List Oper) (R : Rn) (Hm : Hp) (σ : St) (o : Oper) : Pg (St × List Nat) :=
  (grun P G all R σ.tm Hm o).bind fun p => gput P N R Hm σ o p

theorem gstep_sound {ops : Array Oper} {R : Rn} {Hm : Hp} {i : Nat} {o : Oper} {σ' : St} {u : List Nat} {Q : Exit → Act → World → Prop} {K : Act → World → Prop} (hi : ops[i]? = some o) (hgd : Good X σ a w) (hs : ∀ b B, hg Hm b = some B → Vam.hg σ.hp b = some B)
    (h : Yd (Snd P X.G) L (gstep P X.G X.N ops.toList R Hm σ o) (σ', u)) (hK : ∀ a' w', Good X σ' a' w' → K a' w') : wpOp P ops Q i K a w := by
  unfold gstep grun at h
  obtain ⟨p, h1, h2⟩ := yd_bind.1 h
  obtain ⟨g, h3, h4⟩ := yd_bind.1 h1
  obtain ⟨S, m, k1, k2, k3, k4, k5, k6, k7⟩ := id hgd
  have hw := guardOk_run k3 h3
  unfold wpOp
  simp only [hi, hw]
  cases g with
  | true =>
    obtain ⟨q, h5, h6⟩ := yd_bind.1 h4
    have h6 := yd_ret.1 h6
    subst h6
    obtain ⟨r, U⟩ := q
    obtain ⟨_, h7, h8⟩ := yd_bind.1 h2
    obtain ⟨rfl, rfl⟩ := Prod.mk.inj (yd_ret.1 h8)
    rw [if_pos rfl]
    exact .inl (op_sound hgd hs h5 (yd_sure.1 h7) hK)
  | false =>
    have h4 := yd_ret.1 h4
    subst h4
    obtain ⟨_, h7, h8⟩ := yd_bind.1 h2
    obtain ⟨rfl, rfl⟩ := Prod.mk.inj (yd_ret.1 h8)
    simp only [Bool.false_eq_true, if_false]
    exact hK _ _ (Good.ev k1 k2 k3 k4 k5 k6 k7 (yd_sure.1 h7) Ev.none (r := .un) (z := undef) rfl)

/-! ### In the text's order -/
def opsRun (P : Program) (G : Nat → Option AV) (N : Nat) (hn : Hn) (id : Nat) (all : List Oper) : List Oper → Nat → St → Pg St
  | [], _, σ => .ret σ
  | o :: r, i, σ => (gstep P G N all (lkR hn.rn (id * 1000 + i)) σ.hp σ o).bind fun p => opsRun P G N hn id all r (i + 1) p.1

theorem opsRun_sound {ops : Array Oper} {hn : Hn} {id : Nat} {Q : Exit → Act → World → Prop} : ∀ (r : List Oper) (i : Nat) (σ σ' : St) (a : Act) (w : World), ops.toList.drop i = r → Good X σ a w → Yd (Snd P X.G) L (opsRun P X.G X.N hn id ops.toList r i σ) σ' →
    (∀ a' w', Good X σ' a' w' → Q .normal a' w') → wpOps P ops Q (List.range' i r.length) a w := by
  intro r
  induction r with
  | nil => intro i σ σ' a w _ hg h hK; have h := yd_ret.1 h; subst h; exact hK a w hg
  | cons o r ih =>
    intro i σ σ' a w hr hg h hK
    obtain ⟨p, h1, h2⟩ := yd_bind.1 h
    have hi : ops[i]? = some o := by
      have : (ops.toList.drop i)[0]? = some o := by rw [hr]; rfl
      simpa using this
    have hr' : ops.toList.drop (i + 1) = r := by
      rw [← List.drop_drop, hr]; rfl
    rw [List.length_cons, List.range'_succ, wpOps_cons]
    exact gstep_sound hi hg (fun _ _ h => h) h1 fun a' w' hg' => ih (i + 1) p.1 σ' a' w' hr' hg' h2 hK
end
end Vam
