/- Values that are put together: zero values, parts set in place. -/
import Derived.Test.YtnngdpaeiafnlaaDoorVG
namespace Vam
open Go Pg
set_option linter.unusedVariables false
set_option linter.unusedSimpArgs false

/-! ### Values that are alike by sight -/
def vEq : Value → Value → Bool
  | .int k n, .int k' n' => decide (k = k') && (n == n')
  | .bool a, .bool b => a == b
  | .string a, .string b => a.data.toList == b.data.toList
  | .pointer none, .pointer none => true
  | .slice none a b, .slice none c d => Nat.beq a c && Nat.beq b d
  | .nilIface, .nilIface => true
  | .nilFunc, .nilFunc => true
  | .map none, .map none => true
  | _, _ => false

theorem vEq_eq {a b : Value} (h : vEq a b = true) : a = b := by
  unfold vEq at h
  split at h
  · simp only [Bool.and_eq_true, decide_eq_true_eq, beq_iff_eq] at h; rw [h.1, h.2]
  · simp only [beq_iff_eq] at h; rw [h]
  · rename_i a b
    simp only [beq_iff_eq] at h
    obtain ⟨⟨a⟩⟩ := a; obtain ⟨⟨b⟩⟩ := b
    simp at h; rw [h]
  · rfl
  · simp only [Bool.and_eq_true] at h; rw [Nat.eq_of_beq_eq_true h.1, Nat.eq_of_beq_eq_true h.2]
  · rfl
  · rfl
  · rfl
  · cases h

def vsEq : List Value → List Value → Bool
  | [], [] => true
  | a :: l, b :: r => vEq a b && vsEq l r
  | _, _ => false

theorem vsEq_eq : ∀ {a b : List Value}, vsEq a b = true → a = b := by
  intro a
  induction a with
  | nil => intro b h; cases b with
    | nil => rfl
    | cons x b => simp [vsEq] at h
  | cons x a ih => intro b h; cases b with
    | nil => simp [vsEq] at h
    | cons y b => simp only [vsEq, Bool.and_eq_true] at h; rw [vEq_eq h.1, ih h.2]

/-- The cells of data without memory behind them. -/
def flatD : (k : K) → k.T → Option (List Value)
  | .int kk, x => some [.int kk x]
  | .bool, x => some [.bool x]
  | .str, x => some [.string x]
  | .sl e, x => match List.isEmpty x with
    | true => some [.slice none 0 0]
    | false => none
  | .arr n e, x => match Nat.beq (List.length x) n with
    | true => (show List e.T from x).foldr (fun y r => (flatD e y).bind fun a => r.map fun b => a ++ b) (some [])
    | false => none
  | .pair a b, x => (flatD a x.1).bind fun c => (flatD b x.2).map fun d => c ++ d
  | .unit, _ => some []

theorem flatD_rep {S : Nat → Prop} {w : World} : ∀ {k : K} {x : k.T} {cs : List Value}, flatD k x = some cs → RepD S w k x cs := by
  intro k
  induction k with
  | int kk => intro x cs h; exact (Option.some.inj h).symm
  | bool => intro x cs h; exact (Option.some.inj h).symm
  | str => intro x cs h; exact (Option.some.inj h).symm
  | sl e ih =>
    intro x cs h
    simp only [flatD] at h
    split at h
    · rename_i hx
      obtain rfl := List.isEmpty_iff.1 hx
      exact ⟨none, 0, (Option.some.inj h).symm, Nat.le_refl _, fun h => absurd rfl h⟩
    · cases h
  | arr n e ih =>
    intro x cs h
    simp only [flatD] at h
    split at h
    · rename_i hn
      have hn := Nat.eq_of_beq_eq_true hn
      have key : ∀ (l : List e.T) (cs : List Value), l.foldr (fun y r => (flatD e y).bind fun a => r.map fun b => a ++ b) (some []) = some cs →
          cs.length = l.length * e.sz ∧ ∀ i, i < l.length → RepD S w e (gd e l i) ((cs.drop (i * e.sz)).take e.sz) := by
        intro l
        induction l with
        | nil => intro cs h; simp at h; subst h; exact ⟨by simp, fun i hi => absurd hi (by simp)⟩
        | cons y l ihl =>
          intro cs h
          simp only [List.foldr_cons, Option.bind_eq_some_iff, Option.map_eq_some_iff] at h
          obtain ⟨a, ha, b, hb, rfl⟩ := h
          obtain ⟨h1, h2⟩ := ihl b hb
          have h3 := ih ha
          have h4 := h3.length
          refine ⟨by simp [h1, h4, Nat.add_mul]; omega, fun i hi => ?_⟩
          cases i with
          | zero =>
            simp only [Nat.zero_mul, List.drop_zero]
            rw [List.take_append_of_le_length (by omega), List.take_of_length_le (by omega)]
            exact h3
          | succ i =>
            have : gd e (y :: l) (i + 1) = gd e l i := by simp [gd]
            rw [this, Nat.add_mul, Nat.one_mul, List.drop_append, List.drop_of_length_le (by omega), List.nil_append, h4, show i * e.sz + e.sz - e.sz = i * e.sz from by omega]
            exact h2 i (by simpa using hi)
      obtain ⟨h1, h2⟩ := key _ _ h
      exact ⟨hn, by rw [h1]; exact congrArg (· * e.sz) hn, fun i hi => h2 i (by rw [← hn] at hi; exact hi)⟩
    · cases h
  | pair a b iha ihb =>
    intro x cs h
    simp only [flatD, Option.bind_eq_some_iff, Option.map_eq_some_iff] at h
    obtain ⟨c, hc, d, hd, rfl⟩ := h
    exact ⟨c, d, rfl, iha hc, ihb hd⟩
  | unit => intro x cs h; exact (Option.some.inj h).symm

def flatL : List Lf → Option (List Value)
  | [] => some []
  | .v x :: r => match one1 x with
    | true => (flatL r).map fun b => x :: b
    | false => none
  | .dat k x :: r => (flatD k x).bind fun a => (flatL r).map fun b => a ++ b
  | _ :: _ => none

theorem flatL_rep {S : Nat → Prop} {m : Mp} {w : World} : ∀ {l : List Lf} {cs : List Value}, flatL l = some cs → RepLs S m w l cs := by
  intro l
  induction l with
  | nil => intro cs h; exact (Option.some.inj h).symm
  | cons x l ih =>
    intro cs h
    cases x with
    | v x =>
      simp only [flatL] at h
      split at h
      · rename_i h1
        simp only [Option.map_eq_some_iff] at h
        obtain ⟨b, hb, rfl⟩ := h
        exact ⟨[x], b, rfl, ⟨rfl, h1⟩, ih hb⟩
      · cases h
    | dat k x =>
      simp only [flatL, Option.bind_eq_some_iff, Option.map_eq_some_iff] at h
      obtain ⟨a, ha, b, hb, rfl⟩ := h
      exact ⟨a, b, rfl, flatD_rep ha, ih hb⟩
    | ptr => simp [flatL] at h
    | own => simp [flatL] at h
    | fp => simp [flatL] at h

/-! ### Zero values -/
def zeroL (P : Program) : Nat → TypeId → Option (List Lf)
  | 0, _ => none
  | d + 1, t =>
    match P.underlying t with
    | some (.int k) => some [.v (.int k 0)]
    | some .bool => some [.v (.bool false)]
    | some .string => some [.v (.string ⟨#[]⟩)]
    | some (.slice _) => some [.v (.slice none 0 0)]
    | some (.pointer _) => some [.v (.pointer none)]
    | some (.interface _) => some [.v .nilIface]
    | some (.array n e) => (kindOf P d e).map fun k => [.dat (.arr n k) (List.replicate n k.dflt)]
    | some (.struct fs) => fs.toList.foldr (fun f r => (zeroL P d f.type).bind fun a => r.map fun b => a ++ b) (some [])
    | _ => none

/-- The zero value's leaves, held against the machine's own. -/
def zeroOf (P : Program) (t : TypeId) : Option (List Lf) :=
  (zeroL P 20 t).bind fun l => match (P.info? t).bind (·.zero), flatL l with
    | some z, some cs => match vsEq z.cells.toList cs with
      | true => some l
      | false => none
    | _, _ => none

section
variable {S : Nat → Prop} {m : Mp} {w : World} {P : Program} {C : FuncId → List AV → Hp → SV → Hp → Prop} {L : Code → St → Ex → St → Prop}

theorem zeroOf_rep {t : TypeId} {l : List Lf} (h : zeroOf P t = some l) : ∃ z, (∀ w, (zeroValue t).run P w = Result.ok z w) ∧ ∀ S m w, RepLs S m w l z.cells.toList := by
  unfold zeroOf at h
  simp only [Option.bind_eq_some_iff] at h
  obtain ⟨l', h1, h2⟩ := h
  split at h2
  · rename_i z cs hz hc
    split at h2
    · rename_i he
      simp only [Option.some.injEq] at h2; subst h2
      have he := vsEq_eq he
      simp only [Option.bind_eq_some_iff] at hz
      obtain ⟨i, hi, hz⟩ := hz
      refine ⟨z, fun w => by simp [zeroValue, typeInfo, hi, hz], fun S m w => ?_⟩
      rw [he]
      exact flatL_rep hc
    · cases h2
  · cases h2

/-! ### Leaves of a value, and its cells -/
def allLeaves : SV → Option (List Lf)
  | .av (.agg l) => some l
  | .av (.one (.dat (.pair a b) x)) => some (leafs (.pair a b) x)
  | .av (.one (.dat .unit x)) => some []
  | .av (.one x) => some [x]
  | _ => none

theorem rep_cells {x : Lf} {v : Value} (hw : x.wide = false) (h : RepL S m w x [v]) : v.cells = #[v] := by
  cases x with
  | v x =>
    obtain ⟨e, h1⟩ := h
    simp only [List.cons.injEq, and_true] at e
    subst e
    cases v <;> first | rfl | cases h1
  | dat k x =>
    cases k with
    | int kk => have h : [v] = [Value.int kk x] := h; simp only [List.cons.injEq, and_true] at h; subst h; rfl
    | bool => have h : [v] = [Value.bool x] := h; simp only [List.cons.injEq, and_true] at h; subst h; rfl
    | str => have h : [v] = [Value.string x] := h; simp only [List.cons.injEq, and_true] at h; subst h; rfl
    | sl e => obtain ⟨a, cap, e, _⟩ := h; simp only [List.cons.injEq, and_true] at e; subst e; rfl
    | arr n e => cases hw
    | pair a b => cases hw
    | unit => cases hw
  | ptr => obtain ⟨c, base, _, e⟩ := h; simp only [List.cons.injEq, and_true] at e; subst e; rfl
  | own => obtain ⟨a, cap, e, _⟩ := h; simp only [List.cons.injEq, and_true] at e; subst e; rfl
  | fp => obtain ⟨c, off, vs, e, _⟩ := h; simp only [List.cons.injEq, and_true] at e; subst e; rfl

theorem allLeaves_rep {x : SV} {l : List Lf} {v : Value} (h : allLeaves x = some l) (hr : RepS S m w x v) : RepLs S m w l v.cells.toList := by
  unfold allLeaves at h
  split at h
  · simp only [Option.some.injEq] at h; subst h
    obtain ⟨cs, rfl, h1⟩ := hr
    exact h1
  · simp only [Option.some.injEq] at h; subst h
    simp only [RepS, RepA, Lf.wide, K.wide, if_true] at hr
    obtain ⟨cs, rfl, h1⟩ := hr
    exact leafs_rep.2 h1
  · simp only [Option.some.injEq] at h; subst h
    simp only [RepS, RepA, Lf.wide, K.wide, if_true] at hr
    obtain ⟨cs, rfl, h1⟩ := hr
    exact h1
  · rename_i x n1 n2
    simp only [Option.some.injEq] at h; subst h
    simp only [RepS, RepA] at hr
    split at hr
    · obtain ⟨cs, rfl, h1⟩ := hr
      exact RepLs.single.2 h1
    · rename_i hw
      rw [rep_cells (by simpa using hw) hr]
      exact RepLs.single.2 hr
  · cases h

/-! ### Parts set in place -/
/-- The leaves of the cells from o on, n of them, are new ones. -/
def putSegs (l : List Lf) (o n : Nat) (new : List Lf) : Option (List Lf) :=
  (segTake l o).bind fun pre => (segAt l (o + n)).map fun post => pre ++ (new ++ post)

theorem putSegs_rep {l new r : List Lf} {o n : Nat} {cs vs : List Value} (h : putSegs l o n new = some r) (hl : RepLs S m w l cs) (hn : RepLs S m w new vs) :
    o + n ≤ cs.length ∧ RepLs S m w r (cs.take o ++ (vs ++ cs.drop (o + n))) := by
  unfold putSegs at h
  simp only [Option.bind_eq_some_iff, Option.map_eq_some_iff] at h
  obtain ⟨pre, h1, post, h2, rfl⟩ := h
  obtain ⟨a1, a2⟩ := segTake_rep h1 hl
  obtain ⟨b1, b2⟩ := segAt_rep h2 hl
  exact ⟨b1, RepLs.append.2 ⟨_, _, rfl, a2, RepLs.append.2 ⟨_, _, rfl, hn, b2⟩⟩⟩

/-- An element of an array's data is new. -/
theorem arr_set {n i : Nat} {k : K} {x : List k.T} {y : k.T} {cs vs : List Value} (h : RepD S w (.arr n k) x cs) (hi : i < n) (hy : RepD S w k y vs) :
    RepD S w (.arr n k) (x.set i y : List k.T) (cs.take (i * k.sz) ++ (vs ++ cs.drop (i * k.sz + k.sz))) := by
  obtain ⟨h1, h2, h3⟩ := h
  have hv := hy.length
  have h1 : x.length = n := h1
  have hle : i * k.sz + k.sz ≤ n * k.sz := by
    have : (i + 1) * k.sz ≤ n * k.sz := Nat.mul_le_mul_right _ (by omega)
    rwa [Nat.add_mul, Nat.one_mul] at this
  refine ⟨by show (x.set i y).length = n; simpa using h1, by simp; omega, fun j hj => ?_⟩
  by_cases hij : j = i
  · subst hij
    have : gd k (x.set j y) j = y := by
      unfold gd; simp [List.getD_eq_getElem?_getD, h1, hj]
    rw [this, List.drop_append, List.drop_of_length_le (by simp; omega), List.nil_append]
    simp only [List.length_take, show min (j * k.sz) cs.length = j * k.sz from by omega, Nat.sub_self, List.drop_zero]
    rw [List.take_append_of_le_length (by omega), List.take_of_length_le (by omega)]
    exact hy
  · have : gd k (x.set i y) j = gd k x j := by
      unfold gd; simp [List.getD_eq_getElem?_getD, List.getElem?_set, Ne.symm hij]
    rw [this]
    have h4 := h3 j hj
    have hsz : (j + 1) * k.sz = j * k.sz + k.sz := by rw [Nat.add_mul, Nat.one_mul]
    have e : ((cs.take (i * k.sz) ++ (vs ++ cs.drop (i * k.sz + k.sz))).drop (j * k.sz)).take k.sz = (cs.drop (j * k.sz)).take k.sz := by
      apply List.ext_getElem?
      intro q
      rw [List.getElem?_take, List.getElem?_take]
      split
      · rename_i hq
        rw [List.getElem?_drop, List.getElem?_drop]
        rcases Nat.lt_or_gt_of_ne hij with hlt | hgt
        · have : (j + 1) * k.sz ≤ i * k.sz := Nat.mul_le_mul_right _ (by omega)
          rw [List.getElem?_append_left (by simp; omega), List.getElem?_take, if_pos (by omega)]
        · have : (i + 1) * k.sz ≤ j * k.sz := Nat.mul_le_mul_right _ (by omega)
          rw [Nat.add_mul, Nat.one_mul] at this
          rw [List.getElem?_append_right (by simp; omega), List.getElem?_append_right (by simp; omega), List.getElem?_drop]
          congr 1
          simp
          omega
      · rfl
    rw [e]
    exact h4

/-! ### The machine's own filling -/
theorem fold_set : ∀ (vs : List Value) (k off : Nat) (cells : Array Value), off + k + vs.length ≤ cells.size →
    ((vs.zipIdx k).foldl (fun cs (p : Value × Nat) => cs.setIfInBounds (off + p.2) p.1) cells).toList = cells.toList.take (off + k) ++ (vs ++ cells.toList.drop (off + k + vs.length)) := by
  intro vs
  induction vs with
  | nil => intro k off cells h; simp
  | cons v vs ih =>
    intro k off cells h
    simp only [List.length_cons] at h
    simp only [List.zipIdx_cons, List.foldl_cons]
    rw [ih (k + 1) off _ (by simp; omega)]
    simp only [Array.toList_setIfInBounds]
    apply List.ext_getElem?
    intro q
    simp only [List.length_cons]
    by_cases hq : q < off + k
    · rw [List.getElem?_append_left (by simp; omega), List.getElem?_append_left (by simp; omega), List.getElem?_take, List.getElem?_take, if_pos (by omega), if_pos (by omega), List.getElem?_set, if_neg (by omega)]
    · by_cases hq2 : q = off + k
      · subst hq2
        rw [List.getElem?_append_left (by simp; omega), List.getElem?_take, if_pos (by omega), List.getElem?_set, if_pos rfl, if_pos (by simp; omega)]
        rw [List.getElem?_append_right (by simp; omega)]
        simp [show min (off + k) cells.size = off + k from by omega]
      · obtain ⟨q, rfl⟩ : ∃ d, q = off + (k + 1) + d := ⟨q - (off + (k + 1)), by omega⟩
        have e1 : (List.take (off + (k + 1)) (cells.toList.set (off + k) v)).length = off + (k + 1) := by simp; omega
        have e2 : (List.take (off + k) cells.toList).length = off + k := by simp; omega
        rw [List.getElem?_append_right (l₁ := List.take (off + (k + 1)) (cells.toList.set (off + k) v)) (by rw [e1]; omega), e1, List.getElem?_append_right (l₁ := List.take (off + k) cells.toList) (by rw [e2]; omega), e2,
          show off + (k + 1) + q - (off + (k + 1)) = q from by omega, show off + (k + 1) + q - (off + k) = q + 1 from by omega]
        simp only [List.cons_append, List.getElem?_cons_succ]
        by_cases hq3 : q < vs.length
        · rw [List.getElem?_append_left hq3, List.getElem?_append_left hq3]
        · rw [List.getElem?_append_right (by omega), List.getElem?_append_right (by omega), List.getElem?_drop, List.getElem?_drop, List.getElem?_set, if_neg (by omega)]
          congr 1
          omega

theorem fill_step {place : Nat → Option (Nat × Nat)} {cells : Array Value} {i off size : Nat} {v : Value} {rest : List (Nat × Value)} (hp : place i = some (off, size)) (hs : v.cells.size = size) (hb : off + size ≤ cells.size) :
    ∃ cells', Instr.fill place cells ((i, v) :: rest) = Instr.fill place cells' rest ∧ cells'.toList = cells.toList.take off ++ (v.cells.toList ++ cells.toList.drop (off + size)) ∧ cells'.size = cells.size := by
  have key := fold_set v.cells.toList 0 off cells (by simp; omega)
  refine ⟨v.cells.zipIdx.foldl (fun cs (p : Value × Nat) => cs.setIfInBounds (off + p.2) p.1) cells, ?_, ?_, ?_⟩
  · simp only [Instr.fill, hp]
    rw [if_neg (by simp; omega)]
  · rw [← Array.foldl_toList, Array.toList_zipIdx]
    rw [key]
    simp [← hs]
  · have h2 := congrArg List.length key
    rw [← Array.foldl_toList, Array.toList_zipIdx, ← Array.length_toList, h2]
    simp
    omega
end
end Vam
