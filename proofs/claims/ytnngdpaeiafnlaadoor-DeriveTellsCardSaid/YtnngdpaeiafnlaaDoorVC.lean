/- The engine's quiet operations on memory and on what is made of parts. -/
import Derived.Test.YtnngdpaeiafnlaaDoorVB
import Derived.Laws.Rows
namespace Vam
open Go Pg
set_option linter.unusedVariables false
set_option linter.unusedSimpArgs false

/-! ### Types -/
def szOf (P : Program) (t : TypeId) : Option Nat := (P.info? t).map (·.size)
def aggOf (P : Program) (t : TypeId) : Option Bool :=
  match P.underlying t with
  | some (.struct _) => some true
  | some (.array _ _) => some true
  | some _ => some false
  | none => none

def kindOf (P : Program) : Nat → TypeId → Option K
  | 0, _ => none
  | d + 1, t =>
    match P.underlying t with
    | some (.int k) => some (.int k)
    | some .bool => some .bool
    | some .string => some .str
    | some (.slice e) => (kindOf P d e).map .sl
    | some (.array n e) => (kindOf P d e).map (.arr n)
    | some (.struct fs) => fs.toList.foldr (fun f r => (kindOf P d f.type).bind fun a => r.map fun b => .pair a b) (some .unit)
    | _ => none

section
variable {P : Program} {w : World}
theorem run_sizeOf' {t : TypeId} {n : Nat} (h : szOf P t = some n) : (Go.sizeOf t).run P w = Result.ok n w := by
  unfold szOf at h
  cases hi : P.info? t with
  | none => simp [hi] at h
  | some i => simp [hi] at h; simp [Go.sizeOf, typeInfo, hi, h]
theorem run_isAgg' {t : TypeId} {b : Bool} (h : aggOf P t = some b) : (isAgg t).run P w = Result.ok b w := by
  unfold aggOf at h
  cases hu : P.underlying t with
  | none => simp [hu] at h
  | some d => cases d <;> simp_all [isAgg, run_underlying hu]
theorem add_none (c o n : Nat) : (⟨c, o, none⟩ : Addr).add n = ⟨c, o + n, none⟩ := Addr.add_lit c o n
end

/-! ### A value out of its leaves -/
def mkA (agg : Bool) (l : List Lf) : Option AV :=
  match agg, l with
  | true, [x] => if x.wide then some (.one x) else some (.agg [x])
  | true, l => some (.agg l)
  | false, [x] => if x.wide then none else some (.one x)
  | false, _ => none

section
variable {S : Nat → Prop} {m : Mp} {w : World} {P : Program} {C : FuncId → List AV → Hp → SV → Hp → Prop} {L : Code → St → Ex → St → Prop}

theorem mkA_agg {l : List Lf} {x : AV} {cs : Array Value} (h : mkA true l = some x) (hr : RepLs S m w l cs.toList) : RepA S m w x (.agg cs) := by
  unfold mkA at h
  split at h
  · rename_i y _
    split at h
    · rename_i hw
      simp only [Option.some.injEq] at h; subst h
      simp only [RepA, hw, if_true]
      exact ⟨cs, rfl, RepLs.single.1 hr⟩
    · simp only [Option.some.injEq] at h; subst h
      exact ⟨cs, rfl, hr⟩
  · simp only [Option.some.injEq] at h; subst h
    exact ⟨cs, rfl, hr⟩
  · rename_i h1; cases h1
  · rename_i h1 _; cases h1
theorem wide_w {x : Lf} (h : x.wide = false) : x.w = 1 := by
  cases x with
  | dat k x => cases k <;> first | rfl | cases h
  | _ => rfl
theorem mkA_one {l : List Lf} {x : AV} {cs : List Value} (h : mkA false l = some x) (hr : RepLs S m w l cs) : ∃ v, cs = [v] ∧ RepA S m w x v := by
  unfold mkA at h
  split at h
  · rename_i h1; cases h1
  · rename_i h1 _; cases h1
  · rename_i y _
    split at h
    · cases h
    · rename_i hw
      simp only [Option.some.injEq] at h; subst h
      have h1 := RepLs.single.1 hr
      have h2 := h1.length
      have h3 : y.w = 1 := wide_w (by simpa using hw)
      obtain ⟨v, rfl⟩ : ∃ v, cs = [v] := by
        match cs, h2 with
        | [v], _ => exact ⟨v, rfl⟩
        | [], h => simp [h3] at h
        | _ :: _ :: _, h => simp [h3] at h
      exact ⟨v, rfl, (RepA_one (by simpa using hw)).2 h1⟩
  · cases h

/-! ### Loads -/
/-- The leaves at a place. -/
def place (H : Hp) : Lf → Pg (List Lf)
  | .ptr b o i s r =>
    match hg H b with
    | some (.cells ty l) =>
      match s with
      | 0 => opt (segAt l (o + r))
      | s + 1 =>
        match segAt l o with
        | some (.dat (.arr n k) x :: _) => (sure (Nat.beq k.sz (s + 1))).bind fun _ => (need (nlt i n)).bind fun _ => opt (segAt (leafs k (gd k x i)) r)
        | _ => .fail
    | some (.row ty k l) => (sure (Nat.beq k.sz s && Nat.beq o 0)).bind fun _ => (need (nlt i (List.length l))).bind fun _ => opt (segAt (leafs k (gd k l i)) r)
    | _ => .fail
  | .fp k x o => opt (segAt (leafs k x) o)
  | _ => .fail

/-- A place's cells: the address, what lies there. -/
def At (w : World) (c off : Nat) (cs : List Value) : Prop := ∀ j v, cs[j]? = some v → w.cell? ⟨c, off + j, none⟩ = some v

theorem At.drop {w : World} {c off : Nat} {cs : List Value} (h : At w c off cs) (n : Nat) : At w c (off + n) (cs.drop n) := by
  intro j v hv
  rw [List.getElem?_drop] at hv
  have := h _ _ hv
  rwa [← Nat.add_assoc] at this
theorem At.take {w : World} {c off : Nat} {cs : List Value} (h : At w c off cs) (n : Nat) : At w c off (cs.take n) := by
  intro j v hv
  rw [List.getElem?_take] at hv
  split at hv
  · exact h _ _ hv
  · cases hv
theorem at_block {w : World} {c : Nat} {cs : Array Value} {ty : TypeId} {fr : Nat × Nat} (h : w.heap[c]? = some (.cells cs ty fr)) : At w c 0 cs.toList := by
  intro j v hv
  simp only [World.cell?, h]
  simpa using hv

theorem place_rep {H : Hp} {x : Lf} {l : List Lf} {v : Value} (hH : SimH S m w H) (h : Yd C L (place H x) l) (hr : RepL S m w x [v]) :
    ∃ c off cs, v = .pointer (some ⟨c, off, none⟩) ∧ At w c off cs ∧ RepLs S m w l cs := by
  unfold place at h
  split at h
  · rename_i b o i s r
    obtain ⟨c, base, hm, hv⟩ := hr
    simp only [List.cons.injEq, and_true] at hv
    split at h
    · rename_i ty l' hb
      obtain ⟨c', cs, fr, e1, e2, e3, e4, e5⟩ := hH.blk _ _ hb
      rw [hm] at e1
      simp only [Option.some.injEq, Prod.mk.injEq] at e1
      obtain ⟨rfl, rfl⟩ := e1
      have hat := at_block e2
      split at h
      · have h := yd_opt.1 h
        obtain ⟨g1, g2⟩ := segAt_rep h e5
        refine ⟨c, o + r, cs.toList.drop (o + r), by simpa using hv, by simpa using hat.drop (o + r), g2⟩
      · rename_i s
        split at h
        · rename_i n k x rest hseg
          obtain ⟨_, h1, h⟩ := yd_bind.1 h
          have h1 := Nat.eq_of_beq_eq_true (yd_sure.1 h1)
          obtain ⟨_, h2, h⟩ := yd_bind.1 h
          have h2 := of_decide_eq_true (yd_need.1 h2)
          have h := yd_opt.1 h
          obtain ⟨g1, d1, d2, g2, g3, g4⟩ := segAt_rep hseg e5
          have g5 := g3.2.2 i h2
          obtain ⟨f1, f2⟩ := segAt_rep h (leafs_rep.2 g5)
          refine ⟨c, o + i * (s + 1) + r, ((d1.drop (i * k.sz)).take k.sz).drop r, by simpa using hv, ?_, f2⟩
          have hat2 : At w c o d1 := by
            intro j v hj
            have := (hat.drop o) j v (by rw [g2, List.getElem?_append_left (by have := List.getElem?_eq_some_iff.1 hj; exact this.1)]; exact hj)
            simpa using this
          have := ((hat2.drop (i * k.sz)).take k.sz).drop r
          rw [h1] at this ⊢
          exact this
        · exact absurd h (by simp [Yd])
    · rename_i ty k l' hb
      obtain ⟨_, h1, h⟩ := yd_bind.1 h
      have h1 := yd_sure.1 h1
      simp only [Bool.and_eq_true] at h1
      have h1a := Nat.eq_of_beq_eq_true h1.1
      have h1b := Nat.eq_of_beq_eq_true h1.2
      obtain ⟨_, h2, h⟩ := yd_bind.1 h
      have h2 := of_decide_eq_true (yd_need.1 h2)
      have h := yd_opt.1 h
      rcases hH.blk _ _ hb with ⟨e0, _⟩ | ⟨c', base', cs, fr, e1, e2, e3, e4, e5, e6⟩
      · rw [hm] at e0; cases e0
      rw [hm] at e1
      simp only [Option.some.injEq, Prod.mk.injEq] at e1
      obtain ⟨rfl, rfl⟩ := e1
      have g5 := e6 i h2
      obtain ⟨f1, f2⟩ := segAt_rep h (leafs_rep.2 g5)
      refine ⟨c, base + (i * s + r), _, by rw [h1b] at hv; simpa using hv, ?_, f2⟩
      have := (((at_block e2).drop (base + i * k.sz)).take k.sz).drop r
      rw [h1a] at this ⊢
      simpa [Nat.add_assoc] using this
    · exact absurd h (by simp [Yd])
  · rename_i k x o
    obtain ⟨c, off, vs, g1, g2, g3, g4, g5⟩ := hr
    have h := yd_opt.1 h
    obtain ⟨f1, f2⟩ := segAt_rep h (leafs_rep.2 g4)
    simp only [List.cons.injEq, and_true] at g1
    exact ⟨c, off + o, vs.drop o, g1, At.drop g5 o, f2⟩
  · exact absurd h (by simp [Yd])

theorem run_loadCells_at {c off : Nat} {cs : List Value} (h : At w c off cs) : (loadCells ⟨c, off, none⟩ cs.length).run P w = .ok cs.toArray w := by
  apply run_loadCells_list
  intro j v hv
  rw [add_none]
  exact h j v hv

def qLoad (P : Program) (H : Hp) (t : TypeId) : SV → Pg SV
  | .av (.one p) =>
    (place H p).bind fun l =>
    match szOf P t, aggOf P t with
    | some n, some g => opt ((segTake l n).bind fun l' => (mkA g l').map .av)
    | _, _ => .fail
  | _ => .fail

theorem qLoad_run {H : Hp} {t : TypeId} {x r : SV} {v : Value} (hH : SimH S m w H) (h : Yd C L (qLoad P H t x) r) (hr : RepS S m w x v) :
    ∃ u, (Instr.loadAt t v).run P w = .ok u w ∧ RepS S m w r u := by
  unfold qLoad at h
  split at h
  · rename_i p
    obtain ⟨l, h1, h⟩ := yd_bind.1 h
    split at h
    · rename_i n g hn hg
      have h := yd_opt.1 h
      simp only [Option.bind_eq_some_iff, Option.map_eq_some_iff] at h
      obtain ⟨l', h2, av, h3, rfl⟩ := h
      have hw : p.wide = false := by
        cases p <;> simp_all [Lf.wide, place, Yd]
      have hr' := (RepA_one hw).1 hr
      obtain ⟨c, off, cs, rfl, hat, hls⟩ := place_rep hH h1 hr'
      obtain ⟨f1, f2⟩ := segTake_rep h2 hls
      have hat' := hat.take n
      have hl : (cs.take n).length = n := by simp; omega
      have hload : (loadCells ⟨c, off, none⟩ n).run P w = .ok (cs.take n).toArray w := by
        have := run_loadCells_at (P := P) hat'
        rwa [hl] at this
      cases g with
      | true =>
        refine ⟨.agg (cs.take n).toArray, ?_, mkA_agg h3 (by simpa using f2)⟩
        simp [Instr.loadAt, Instr.sureAddr, loadVar, run_isAgg' hg, run_sizeOf' hn, hload]
      | false =>
        obtain ⟨u, e, f3⟩ := mkA_one h3 f2
        refine ⟨u, ?_, f3⟩
        have hc : w.cell? ⟨c, off, none⟩ = some u := by
          have := hat' 0 u (by rw [e]; rfl)
          simpa using this
        simp [Instr.loadAt, Instr.sureAddr, loadVar, run_isAgg' hg, hc]
    · exact absurd h (by simp [Yd])
  · exact absurd h (by simp [Yd])
end
end Vam
