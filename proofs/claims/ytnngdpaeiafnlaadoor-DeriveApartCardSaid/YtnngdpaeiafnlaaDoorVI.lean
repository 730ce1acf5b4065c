/- The quiet step. -/
import Derived.Test.YtnngdpaeiafnlaaDoorVH
import Derived.Laws.Tables
namespace Vam
open Go Pg
set_option linter.unusedVariables false
set_option linter.unusedSimpArgs false

section
variable {S : Nat → Prop} {m : Mp} {w : World} {P : Program} {C : FuncId → List AV → Hp → SV → Hp → Prop} {L : Code → St → Ex → St → Prop}

/-! ### Structs and arrays built -/
def wsum : List Lf → Nat
  | [] => 0
  | x :: l => x.w + wsum l

theorem wsum_len : ∀ {l : List Lf} {cs : List Value}, RepLs S m w l cs → cs.length = wsum l := by
  intro l
  induction l with
  | nil => intro cs h; have h : cs = [] := h; subst h; rfl
  | cons x l ih => intro cs h; obtain ⟨c1, c2, rfl, h1, h2⟩ := h; simp [wsum, h1.length, ih h2]

def putFields (places : List (Nat × Nat)) : List Lf → List (Nat × List Lf) → Option (List Lf)
  | l, [] => some l
  | l, (i, new) :: rest => match places[i]? with
    | some (off, size) => match Nat.beq (wsum new) size with
      | true => (putSegs l off size new).bind fun l' => putFields places l' rest
      | false => none
    | none => none

def putElems (k : K) : List k.T → List (Nat × List Lf) → Option (List k.T)
  | l, [] => some l
  | l, (i, new) :: rest => match Nat.ble (i + 1) l.length with
    | true => (dec k new).bind fun y => putElems k (l.set i y) rest
    | false => none

def partLeaves : List (Nat × SV) → Option (List (Nat × List Lf))
  | [] => some []
  | (i, x) :: r => (allLeaves x).bind fun l => (partLeaves r).map fun t => (i, l) :: t

def RepP (S : Nat → Prop) (m : Mp) (w : World) : List (Nat × SV) → List (Nat × Value) → Prop
  | [], ps => ps = []
  | (i, x) :: r, ps => ∃ v ps', ps = (i, v) :: ps' ∧ RepS S m w x v ∧ RepP S m w r ps'

theorem putFields_fill {places : List (Nat × Nat)} : ∀ {parts : List (Nat × SV)} {pl : List (Nat × List Lf)} {l r : List Lf} {cells : Array Value} {ps : List (Nat × Value)}, partLeaves parts = some pl → putFields places l pl = some r →
    RepLs S m w l cells.toList → RepP S m w parts ps → ∃ cells', Instr.fill (places[·]?) cells ps = some cells' ∧ RepLs S m w r cells'.toList := by
  intro parts
  induction parts with
  | nil =>
    intro pl l r cells ps h1 h2 h3 h4
    simp only [partLeaves, Option.some.injEq] at h1; subst h1
    simp only [putFields, Option.some.injEq] at h2; subst h2
    have h4 : ps = [] := h4
    subst h4
    exact ⟨cells, rfl, h3⟩
  | cons p parts ih =>
    obtain ⟨i, x⟩ := p
    intro pl l r cells ps h1 h2 h3 h4
    simp only [partLeaves, Option.bind_eq_some_iff, Option.map_eq_some_iff] at h1
    obtain ⟨new, hn, pl', hpl, rfl⟩ := h1
    obtain ⟨v, ps', rfl, hv, hps⟩ := h4
    simp only [putFields] at h2
    split at h2
    · rename_i off size hpl2
      split at h2
      · rename_i hw
        have hw := Nat.eq_of_beq_eq_true hw
        simp only [Option.bind_eq_some_iff] at h2
        obtain ⟨l', hl', h2⟩ := h2
        have hls := allLeaves_rep hn hv
        have hlen := wsum_len hls
        obtain ⟨g1, g2⟩ := putSegs_rep hl' h3 hls
        obtain ⟨cells', f1, f2, f3⟩ := fill_step (place := (places[·]?)) (cells := cells) (i := i) (v := v) (rest := ps') hpl2 (by simp at hlen; omega) (by simpa using g1)
        rw [← f2] at g2
        obtain ⟨c2, e1, e2⟩ := ih hpl h2 g2 hps
        exact ⟨c2, by rw [f1]; exact e1, e2⟩
      · cases h2
    · cases h2

theorem putElems_fill {k : K} {n : Nat} : ∀ {parts : List (Nat × SV)} {pl : List (Nat × List Lf)} {l r : List k.T} {cells : Array Value} {ps : List (Nat × Value)}, partLeaves parts = some pl → putElems k l pl = some r →
    RepD S w (.arr n k) l cells.toList → RepP S m w parts ps → ∃ cells', Instr.fill (fun i => some (i * k.sz, k.sz)) cells ps = some cells' ∧ RepD S w (.arr n k) r cells'.toList := by
  intro parts
  induction parts with
  | nil =>
    intro pl l r cells ps h1 h2 h3 h4
    simp only [partLeaves, Option.some.injEq] at h1; subst h1
    simp only [putElems, Option.some.injEq] at h2; subst h2
    have h4 : ps = [] := h4
    subst h4
    exact ⟨cells, rfl, h3⟩
  | cons p parts ih =>
    obtain ⟨i, x⟩ := p
    intro pl l r cells ps h1 h2 h3 h4
    simp only [partLeaves, Option.bind_eq_some_iff, Option.map_eq_some_iff] at h1
    obtain ⟨new, hn, pl', hpl, rfl⟩ := h1
    obtain ⟨v, ps', rfl, hv, hps⟩ := h4
    simp only [putElems] at h2
    split at h2
    · rename_i hi
      have hi := Nat.le_of_ble_eq_true hi
      simp only [Option.bind_eq_some_iff] at h2
      obtain ⟨y, hy, h2⟩ := h2
      have hls := allLeaves_rep hn hv
      have hy' := dec_rep hy hls
      have hlen := hy'.length
      have hll : l.length = n := h3.1
      have hcs : cells.size = n * k.sz := by have := h3.2.1; simpa using this
      have hle : i * k.sz + k.sz ≤ n * k.sz := by
        have : (i + 1) * k.sz ≤ n * k.sz := Nat.mul_le_mul_right _ (by omega)
        rwa [Nat.add_mul, Nat.one_mul] at this
      obtain ⟨cells', f1, f2, f3⟩ := fill_step (place := fun i => some (i * k.sz, k.sz)) (cells := cells) (i := i) (v := v) (rest := ps') rfl (by simpa using hlen) (by omega)
      have g2 := arr_set h3 (show i < n by omega) hy'
      rw [← f2] at g2
      obtain ⟨c2, e1, e2⟩ := ih hpl h2 g2 hps
      exact ⟨c2, by rw [f1]; exact e1, e2⟩
    · cases h2

def qBuild (P : Program) (t : TypeId) (parts : List (Nat × SV)) : Pg SV :=
  match P.underlying t, zeroOf P t, partLeaves parts with
  | some (.struct fs), some l, some pl =>
    match fs.toList.mapM (fun f => (P.info? f.type).map fun i => (f.offset, i.size)) with
    | some places => opt ((putFields places l pl).map fun r => .av (.agg r))
    | none => .fail
  | some (.array n e), some [.dat (.arr n' k) x], some pl =>
    match szOf P e with
    | some z => (sure (Nat.beq z k.sz)).bind fun _ => opt ((putElems k (arrL x) pl).map fun r => .av (.one (.dat (.arr n' k) r)))
    | none => .fail
  | _, _, _ => .fail

theorem zero_info {t : TypeId} {z : Value} {P : Program} (h : ∀ w, (zeroValue t).run P w = Result.ok z w) : ∃ i, P.info? t = some i ∧ i.zero = some z := by
  have h := h default
  cases hi : P.info? t with
  | none => simp [zeroValue, typeInfo, hi, stuck, Sem.run] at h
  | some i =>
    cases hz : i.zero with
    | none => simp [zeroValue, typeInfo, hi, hz, unsupported, Sem.run] at h
    | some z' => simp [zeroValue, typeInfo, hi, hz] at h; subst h; exact ⟨i, rfl, hz⟩

theorem qBuild_run {t : TypeId} {parts : List (Nat × SV)} {r : SV} {ps : Array (Nat × Value)} (h : Yd C L (qBuild P t parts) r) (hp : RepP S m w parts ps.toList) :
    ∃ z, (Instr.build t ps).run P w = Result.ok z w ∧ RepS S m w r z := by
  unfold qBuild at h
  split at h
  · rename_i fs l pl hu hz hpl
    split at h
    · rename_i places hpc
      have h := yd_opt.1 h
      simp only [Option.map_eq_some_iff] at h
      obtain ⟨l', h1, rfl⟩ := h
      obtain ⟨z, z1, z2⟩ := zeroOf_rep hz
      obtain ⟨i, hi, hiz⟩ := zero_info z1
      obtain ⟨cells', f1, f2⟩ := putFields_fill hpl h1 (z2 S m w) hp
      refine ⟨.agg cells', run_build w t ps cells' ?_, ⟨cells', rfl, f2⟩⟩
      simp only [Program.built, hi, hu, hiz, hpc]
      simpa using f1
    · exact fail_absurd h
  · rename_i n e n' k x pl hu hz hpl
    split at h
    · rename_i z hze
      obtain ⟨_, h0, h⟩ := yd_bind.1 h
      have h0 := Nat.eq_of_beq_eq_true (yd_sure.1 h0)
      have h := yd_opt.1 h
      obtain ⟨l', h1, h2⟩ := Option.map_eq_some_iff.1 h
      subst h2
      obtain ⟨zv, z1, z2⟩ := zeroOf_rep hz
      obtain ⟨i, hi, hiz⟩ := zero_info z1
      have hx : RepD S w (.arr n' k) (arrL x) zv.cells.toList := RepLs.single.1 (z2 S m w)
      obtain ⟨cells', f1, f2⟩ := putElems_fill hpl h1 hx hp
      have hie : ∃ ie, P.info? e = some ie ∧ ie.size = k.sz := by
        unfold szOf at hze
        cases hq : P.info? e with
        | none => simp [hq] at hze
        | some ie => exact ⟨ie, rfl, by simp [hq] at hze; omega⟩
      obtain ⟨ie, hie1, hie2⟩ := hie
      refine ⟨.agg cells', run_build w t ps cells' ?_, ?_⟩
      · simp only [Program.built, hi, hu, hiz, hie1, hie2]; exact f1
      · simp only [RepS, RepA, Lf.wide, K.wide, if_true]
        exact ⟨cells', rfl, f2⟩
    · exact fail_absurd h
  · exact fail_absurd h

/-! ### Lengths, the greatest, the least -/
def qLen (P : Program) (t : TypeId) (x : SV) : Pg SV :=
  match P.underlying t, x with
  | some .string, .av (.one (.v (.string s))) => .ret (vv (.int .i64 (ssz s)))
  | some (.slice _), .av (.one (.dat (.sl k) l)) => .ret (vv (.int .i64 (llen l)))
  | some (.slice _), .av (.one (.own b o i n s)) => .ret (vv (.int .i64 (n : Int)))
  | some (.slice _), .av (.one (.v (.slice none 0 0))) => .ret (vv (.int .i64 0))
  | some (.array n _), _ => .ret (vv (.int .i64 (n : Int)))
  | _, _ => .fail

theorem qLen_run {t ty : TypeId} {x r : SV} {v : Value} (h : Yd C L (qLen P t x) r) (hx : RepS S m w x v) : ∃ z, (Builtin.len_ #[t] ty #[v]).run P w = Result.ok z w ∧ RepS S m w r z := by
  unfold qLen at h
  split at h
  · rename_i s hu
    obtain ⟨rfl, _⟩ := repS_v.1 hx
    have h := yd_ret.1 h; subst h
    exact ⟨_, by simp [Builtin.len_, run_underlying hu, goInt, ssz, llen], rep_v rfl⟩
  · rename_i e k l hu
    obtain ⟨a, cap, e, _⟩ := (repS_one rfl).1 hx
    simp only [List.cons.injEq, and_true] at e
    subst e
    have h := yd_ret.1 h; subst h
    exact ⟨_, by simp [Builtin.len_, run_underlying hu, goInt, ssz, llen], rep_v rfl⟩
  · rename_i e b o i n s hu
    obtain ⟨a, cap, e, _⟩ := (repS_one rfl).1 hx
    simp only [List.cons.injEq, and_true] at e
    subst e
    have h := yd_ret.1 h; subst h
    exact ⟨_, by simp [Builtin.len_, run_underlying hu, goInt, ssz, llen], rep_v rfl⟩
  · rename_i e hu
    obtain ⟨rfl, _⟩ := repS_v.1 hx
    have h := yd_ret.1 h; subst h
    exact ⟨_, by simp [Builtin.len_, run_underlying hu, goInt, ssz, llen], rep_v rfl⟩
  · rename_i n e hu
    have h := yd_ret.1 h; subst h
    exact ⟨_, by simp [Builtin.len_, run_underlying hu, goInt, ssz, llen], rep_v rfl⟩
  · exact fail_absurd h

def qMax (g : Int → Int → Int) : Option (IntKind × Int) → List SV → Pg SV
  | some (k, a), [] => .ret (vv (.int k a))
  | some (k, a), y :: r => match asI y with
    | some (_, b) => qMax g (some (k, g a b)) r
    | none => .fail
  | none, _ => .fail

theorem qMax_run {g : Int → Int → Int} {f : Value → Value → Sem Value} (hf : ∀ k a k' b w, (f (.int k a) (.int k' b)).run P w = Result.ok (.int k (g a b)) w) :
    ∀ {ys : List SV} {k : IntKind} {a : Int} {r : SV} {vs : List Value}, Yd C L (qMax g (some (k, a)) ys) r → (ys.length = vs.length ∧ ∀ (i : Nat) (y : SV) (v : Value), ys[i]? = some y → vs[i]? = some v → RepS S m w y v) →
      ∃ z, (vs.foldlM f (.int k a)).run P w = Result.ok z w ∧ RepS S m w r z := by
  intro ys
  induction ys with
  | nil =>
    intro k a r vs h hr
    obtain rfl : vs = [] := List.length_eq_zero_iff.1 (by simpa using hr.1.symm)
    have h := yd_ret.1 h; subst h
    exact ⟨_, by simp, rep_v rfl⟩
  | cons y ys ih =>
    intro k a r vs h hr
    cases vs with
    | nil => simp at hr
    | cons v vs =>
      simp only [qMax] at h
      split at h
      · rename_i k' b hb
        obtain rfl := asI_rep hb (hr.2 0 y v rfl rfl)
        obtain ⟨z, h1, h2⟩ := ih h ⟨by simpa using hr.1, fun i y v h1 h2 => hr.2 (i + 1) y v (by simpa using h1) (by simpa using h2)⟩
        exact ⟨z, by simp only [List.foldlM_cons, Sem.run_bind, hf, Result.andThen_ok]; exact h1, h2⟩
      · exact fail_absurd h

/-! ### Conversions that make no memory -/
def qConv (P : Program) (H : Hp) (src dst : TypeId) (x : SV) : Pg SV :=
  match P.underlying src, P.underlying dst with
  | some _, some (.int k) => match asI x with
    | some (_, n) => .ret (vv (.int k (icv k n)))
    | none => .fail
  | some (.slice e), some .string => match P.underlying e with
    | some (.int .u8) => (content H (.int .u8) x).bind fun l => .ret (vv (.string (strOfNums l)))
    | _ => .fail
  | some .string, some .string => match asSt x with
    | some s => .ret (vv (.string s))
    | none => .fail
  | _, _ => .fail

theorem qConv_run {H : Hp} {src dst : TypeId} {x r : SV} {v : Value} (hH : SimH S m w H) (h : Yd C L (qConv P H src dst x) r) (hx : RepS S m w x v) : ∃ z, (convert src dst v).run P w = Result.ok z w ∧ RepS S m w r z := by
  unfold qConv at h
  split at h
  · rename_i d k hs hd
    split at h
    · rename_i kk n hn
      obtain rfl := asI_rep hn hx
      have h := yd_ret.1 h; subst h
      exact ⟨_, by simp [convert, run_underlying hs, run_underlying hd, Conv.intToInt, icv], rep_v rfl⟩
    · exact fail_absurd h
  · rename_i e hs hd
    split at h
    · rename_i he
      obtain ⟨l, h1, h⟩ := yd_bind.1 h
      have h := yd_ret.1 h; subst h
      obtain ⟨a, cap, rfl, e2, e3⟩ := content_rep hH h1 hx
      refine ⟨.string (strOfNums l), ?_, rep_v rfl⟩
      by_cases hl : l = []
      · subst hl
        cases a with
        | none => exact run_convert_bytes_nil w src e hs he _ _ dst hd
        | some a =>
          simp only [convert, Sem.run_bind, run_underlying hs, run_underlying hd, run_underlying he, Result.andThen_ok]
          simp only [Conv.bytesToString, List.length_nil, loadCells, loadCellsFrom]
          rfl
      · obtain ⟨c, off, rfl, e4⟩ := e3 hl
        refine run_convert_bytes_arg w src e hs he c off _ cap l rfl (fun i hi => ?_) dst hd
        obtain ⟨vs, g1, g2, g3⟩ := e4 i hi
        have g1 : vs = [.int .u8 (gd (.int .u8) l i)] := g1
        subst g1
        have := g3 0 _ rfl
        simp only [K.sz, Nat.mul_one, Nat.add_zero] at this
        exact this
    · exact fail_absurd h
  · rename_i hs hd
    split at h
    · rename_i s hn
      obtain rfl := asSt_rep hn hx
      have h := yd_ret.1 h; subst h
      exact ⟨_, by simp [convert, run_underlying hs, run_underlying hd], rep_v rfl⟩
    · exact fail_absurd h
  · exact fail_absurd h
end
end Vam
