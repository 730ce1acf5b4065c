/- More quiet operations: places, parts, cuts, conversions, lengths. -/
import Derived.Test.YtnngdpaeiafnlaaDoorVC
namespace Vam
open Go Pg
set_option linter.unusedVariables false
set_option linter.unusedSimpArgs false

section
variable {S : Nat → Prop} {m : Mp} {w : World} {P : Program} {C : FuncId → List AV → Hp → SV → Hp → Prop} {L : Code → St → Ex → St → Prop}

theorem repS_one {x : Lf} {y : Value} (h : x.wide = false) : RepS S m w (.av (.one x)) y ↔ RepL S m w x [y] := RepA_one h
theorem repS_v {x y : Value} : RepS S m w (.av (.one (.v x))) y ↔ y = x ∧ one1 x = true := RepA_v (S := S) (m := m) (w := w)

theorem fail_absurd {α : Type} {b : α} {p : Prop} (h : Yd C L (.fail : Pg α) b) : p := h.elim

/-! ### The place of an element -/
def qIndexAddr (P : Program) (t : TypeId) (x i : SV) : Pg SV :=
  match asI i with
  | none => .fail
  | some (_, i) =>
    match P.underlying t, x with
    | some (.array n e), .av (.one (.ptr b o i0 0 r)) =>
      (need (ile 0 i)).bind fun _ => (need (ilt i (n : Int))).bind fun _ =>
      match szOf P e with
      | some z => .ret (.av (.one (.ptr b (o + r) i.toNat z 0)))
      | none => .fail
    | some (.array n e), .av (.one (.fp k y o)) =>
      (need (ile 0 i)).bind fun _ => (need (ilt i (n : Int))).bind fun _ =>
      match segAt (leafs k y) o, szOf P e with
      | some (.dat (.arr n' k') l :: _), some z => (sure (Nat.beq n n' && Nat.beq z k'.sz)).bind fun _ => .ret (.av (.one (.fp k' (gd k' l i.toNat) 0)))
      | _, _ => .fail
    | some (.slice e), .av (.one (.own b o i0 n s)) =>
      (need (ile 0 i)).bind fun _ => (need (ilt i (n : Int))).bind fun _ =>
      match szOf P e with
      | some z => (sure (Nat.beq z s)).bind fun _ => .ret (.av (.one (.ptr b o (i0 + i.toNat) s 0)))
      | none => .fail
    | some (.slice e), .av (.one (.dat (.sl k) l)) =>
      (need (ile 0 i)).bind fun _ => (need (ilt i (llen l))).bind fun _ =>
      match szOf P e with
      | some z => (sure (Nat.beq z k.sz)).bind fun _ => .ret (.av (.one (.fp k (gd k l i.toNat) 0)))
      | none => .fail
    | _, _ => .fail

theorem run_indexAt_sl {t e : TypeId} {z len cap : Nat} {a : Addr} {k : IntKind} {i : Int} (hu : P.underlying t = some (.slice e)) (hz : szOf P e = some z) (h0 : 0 ≤ i) (h1 : i < len) :
    (Instr.indexAt t (.slice (some a) len cap) (.int k i)).run P w = Result.ok (.pointer (some (a.add (i.toNat * z)))) w := by
  simp [Instr.indexAt, run_underlying hu, asIntOf, h0, h1, run_sizeOf' hz]
theorem run_indexAt_ar {t e : TypeId} {n z : Nat} {a : Addr} {k : IntKind} {i : Int} (hu : P.underlying t = some (.array n e)) (hz : szOf P e = some z) (h0 : 0 ≤ i) (h1 : i < n) :
    (Instr.indexAt t (.pointer (some a)) (.int k i)).run P w = Result.ok (.pointer (some (a.add (i.toNat * z)))) w := by
  simp [Instr.indexAt, run_underlying hu, asIntOf, h0, h1, run_sizeOf' hz, Instr.sureAddr]

/-- A part of a datum that lies frozen. -/
theorem fp_part {c off : Nat} {k : K} {x : k.T} {vs : List Value} {o n i : Nat} {k' : K} {l : List k'.T} {rest : List Lf} (hS : ¬ S c) (hc : c < w.heap.size) (hD : RepD S w k x vs) (hat : At w c off vs)
    (hs : segAt (leafs k x) o = some (.dat (.arr n k') l :: rest)) (hi : i < n) : RepL S m w (.fp k' (gd k' l i) 0) [.pointer (some ⟨c, off + o + i * k'.sz, none⟩)] := by
  obtain ⟨g1, d1, d2, g2, g3, g4⟩ := segAt_rep (m := m) hs (leafs_rep.2 hD)
  have g5 := g3.2.2 i hi
  refine ⟨c, off + o + i * k'.sz, _, rfl, hS, hc, g5, ?_⟩
  have hat2 : At w c (off + o) d1 := by
    intro j v hj
    exact (hat.drop o) j v (by rw [g2, List.getElem?_append_left (by have := List.getElem?_eq_some_iff.1 hj; exact this.1)]; exact hj)
  exact (hat2.drop (i * k'.sz)).take k'.sz

theorem qIndexAddr_run {t : TypeId} {x i r : SV} {v u : Value} (h : Yd C L (qIndexAddr P t x i) r) (hx : RepS S m w x v) (hi : RepS S m w i u) :
    ∃ y, (Instr.indexAt t v u).run P w = Result.ok y w ∧ RepS S m w r y := by
  unfold qIndexAddr at h
  split at h
  · exact fail_absurd h
  · rename_i k n hn
    obtain rfl := asI_rep hn hi
    split at h
    · rename_i len e b o i0 r' hu
      obtain ⟨_, h1, h⟩ := yd_bind.1 h
      obtain ⟨_, h2, h⟩ := yd_bind.1 h
      have h1 := of_decide_eq_true (yd_need.1 h1)
      try simp only [llen, ssz] at h1
      have h2 := of_decide_eq_true (yd_need.1 h2)
      try simp only [llen, ssz] at h2
      split at h
      · rename_i z hz
        have h := yd_ret.1 h; subst h
        obtain ⟨c, base, hm, hv⟩ := (repS_one rfl).1 hx
        simp only [List.cons.injEq, and_true] at hv
        subst hv
        refine ⟨_, run_indexAt_ar hu hz h1 h2, (repS_one rfl).2 ⟨c, base, hm, ?_⟩⟩
        rw [add_none]; simp [Nat.add_assoc]
      · exact fail_absurd h
    · rename_i len e kk y o hu
      obtain ⟨_, h1, h⟩ := yd_bind.1 h
      obtain ⟨_, h2, h⟩ := yd_bind.1 h
      have h1 := of_decide_eq_true (yd_need.1 h1)
      try simp only [llen, ssz] at h1
      have h2 := of_decide_eq_true (yd_need.1 h2)
      try simp only [llen, ssz] at h2
      split at h
      · rename_i n' k' l rest z hs hz
        obtain ⟨_, h3, h9⟩ := yd_bind.1 h
        have h3 := yd_sure.1 h3
        simp only [Bool.and_eq_true] at h3
        have h3a := Nat.eq_of_beq_eq_true h3.1
        have h3b := Nat.eq_of_beq_eq_true h3.2
        have h9 := yd_ret.1 h9
        subst h9 h3a
        obtain ⟨c, off, vs, g1, g2, g3, g4, g5⟩ := (repS_one rfl).1 hx
        simp only [List.cons.injEq, and_true] at g1
        subst g1
        refine ⟨_, run_indexAt_ar hu hz h1 h2, (repS_one rfl).2 ?_⟩
        rw [add_none, h3b]
        exact fp_part g2 g3 g4 g5 hs (by omega)
      · exact fail_absurd h
    · rename_i e b o i0 len s hu
      obtain ⟨_, h1, h⟩ := yd_bind.1 h
      obtain ⟨_, h2, h⟩ := yd_bind.1 h
      have h1 := of_decide_eq_true (yd_need.1 h1)
      try simp only [llen, ssz] at h1
      have h2 := of_decide_eq_true (yd_need.1 h2)
      try simp only [llen, ssz] at h2
      split at h
      · rename_i z hz
        obtain ⟨_, h3, h9⟩ := yd_bind.1 h
        have h3 := Nat.eq_of_beq_eq_true (yd_sure.1 h3)
        have h9 := yd_ret.1 h9
        subst h9 h3
        obtain ⟨a, cap, g1, g2, g3⟩ := (repS_one rfl).1 hx
        simp only [List.cons.injEq, and_true] at g1
        subst g1
        rcases g3 with g3 | ⟨c, base, ty, sz, g4, g5, _⟩
        · omega
        · subst g5
          refine ⟨_, run_indexAt_sl hu hz h1 h2, (repS_one rfl).2 ⟨c, base, g4, ?_⟩⟩
          rw [add_none, Nat.add_mul]; simp [Nat.add_assoc]
      · exact fail_absurd h
    · rename_i e kk l hu
      obtain ⟨_, h1, h⟩ := yd_bind.1 h
      obtain ⟨_, h2, h⟩ := yd_bind.1 h
      have h1 := of_decide_eq_true (yd_need.1 h1)
      try simp only [llen, ssz] at h1
      have h2 := of_decide_eq_true (yd_need.1 h2)
      try simp only [llen, ssz] at h2
      split at h
      · rename_i z hz
        obtain ⟨_, h3, h9⟩ := yd_bind.1 h
        have h3 := Nat.eq_of_beq_eq_true (yd_sure.1 h3)
        have h9 := yd_ret.1 h9
        subst h9 h3
        obtain ⟨a, cap, g1, g2, g3⟩ := (repS_one rfl).1 hx
        simp only [List.cons.injEq, and_true] at g1
        subst g1
        obtain ⟨c, off, g4, g5, g6, g7⟩ := g3 (by intro e0; subst e0; simp at h2; omega)
        subst g4
        obtain ⟨vs, f1, f2, f3⟩ := g7 n.toNat (by omega)
        refine ⟨_, run_indexAt_sl hu hz h1 h2, (repS_one rfl).2 ⟨c, off + n.toNat * kk.sz, vs, ?_, g5, g6, f1, ?_⟩⟩
        · rw [add_none]; rfl
        · intro j v hj
          have := f3 j v hj
          rwa [← Nat.add_assoc] at this
      · exact fail_absurd h
    · exact fail_absurd h

/-! ### The place of a field -/
def qFieldAddr (P : Program) (t : TypeId) (x : SV) (f : Nat) : Pg SV :=
  match P.underlying t with
  | some (.struct fs) =>
    match fs[f]? with
    | some fd =>
      match szOf P fd.type with
      | some (z + 1) =>
        match x with
        | .av (.one (.ptr b o i 0 r)) => .ret (.av (.one (.ptr b (o + fd.offset) i 0 r)))
        | .av (.one (.ptr b o i (s + 1) r)) => .ret (.av (.one (.ptr b o i (s + 1) (r + fd.offset))))
        | .av (.one (.fp k y o)) => .ret (.av (.one (.fp k y (o + fd.offset))))
        | _ => .fail
      | _ => .fail
    | none => .fail
  | _ => .fail

theorem run_fieldAt {t : TypeId} {fs : Array Field} {f : Nat} {fd : Field} {z : Nat} {a : Addr} (hu : P.underlying t = some (.struct fs)) (hf : fs[f]? = some fd) (hz : szOf P fd.type = some (z + 1)) :
    (Instr.fieldAt t (.pointer (some a)) f).run P w = Result.ok (.pointer (some (a.add fd.offset))) w := by
  simp [Instr.fieldAt, run_underlying hu, hf, Instr.sureAddr, fieldPlace, run_sizeOf' hz]

theorem qFieldAddr_run {t : TypeId} {x r : SV} {f : Nat} {v : Value} (h : Yd C L (qFieldAddr P t x f) r) (hx : RepS S m w x v) :
    ∃ y, (Instr.fieldAt t v f).run P w = Result.ok y w ∧ RepS S m w r y := by
  unfold qFieldAddr at h
  split at h
  · rename_i fs hu
    split at h
    · rename_i fd hf
      split at h
      · rename_i z hz
        split at h
        · rename_i b o i r'
          have h := yd_ret.1 h; subst h
          obtain ⟨c, base, hm, hv⟩ := (repS_one rfl).1 hx
          simp only [List.cons.injEq, and_true] at hv
          subst hv
          refine ⟨_, run_fieldAt hu hf hz, (repS_one rfl).2 ⟨c, base, hm, ?_⟩⟩
          rw [add_none]; simp; omega
        · rename_i b o i s r'
          have h := yd_ret.1 h; subst h
          obtain ⟨c, base, hm, hv⟩ := (repS_one rfl).1 hx
          simp only [List.cons.injEq, and_true] at hv
          subst hv
          refine ⟨_, run_fieldAt hu hf hz, (repS_one rfl).2 ⟨c, base, hm, ?_⟩⟩
          rw [add_none]; simp; omega
        · rename_i k y o
          have h := yd_ret.1 h; subst h
          obtain ⟨c, off, vs, g1, g2⟩ := (repS_one rfl).1 hx
          simp only [List.cons.injEq, and_true] at g1
          subst g1
          refine ⟨_, run_fieldAt hu hf hz, (repS_one rfl).2 ⟨c, off, vs, ?_, g2⟩⟩
          rw [add_none]; simp; omega
        · exact fail_absurd h
      · exact fail_absurd h
    · exact fail_absurd h
  · exact fail_absurd h

/-! ### A part of a value -/
/-- The leaves of a struct's or an array's value. -/
def partsOf : AV → Option (List Lf)
  | .agg l => some l
  | .one (.dat (.pair a b) x) => some (leafs (.pair a b) x)
  | _ => none

def qPart (P : Program) (t : TypeId) (l : List Lf) (off : Nat) : Pg SV :=
  match szOf P t, aggOf P t with
  | some n, some g => opt ((segAt l off).bind fun l1 => (segTake l1 n).bind fun l2 => (mkA g l2).map .av)
  | _, _ => .fail

theorem qPart_run {t : TypeId} {l : List Lf} {off : Nat} {r : SV} {cs : Array Value} (h : Yd C L (qPart P t l off) r) (hr : RepLs S m w l cs.toList) :
    ∃ y, (part t cs off).run P w = Result.ok y w ∧ RepS S m w r y := by
  unfold qPart at h
  split at h
  · rename_i n g hn hg
    have h := yd_opt.1 h
    simp only [Option.bind_eq_some_iff, Option.map_eq_some_iff] at h
    obtain ⟨l1, h1, l2, h2, av, h3, rfl⟩ := h
    obtain ⟨f1, f2⟩ := segAt_rep h1 hr
    obtain ⟨f3, f4⟩ := segTake_rep h2 f2
    cases g with
    | true =>
      refine ⟨.agg (cs.extract off (off + n)), by simp [part, run_isAgg' hg, run_sizeOf' hn], mkA_agg h3 ?_⟩
      simp only [Array.toList_extract, List.extract_eq_take_drop, Nat.add_sub_cancel_left]
      exact f4
    | false =>
      obtain ⟨u, e, f5⟩ := mkA_one h3 f4
      refine ⟨u, ?_, f5⟩
      have hc : cs[off]? = some u := by
        have h6 : ((cs.toList.drop off).take n)[0]? = some u := by rw [e]; rfl
        rw [List.getElem?_take] at h6
        split at h6
        · simpa using h6
        · cases h6
      simp [part, run_isAgg' hg, hc]
  · exact fail_absurd h

def qField (P : Program) (t : TypeId) (x : SV) (f : Nat) : Pg SV :=
  match x with
  | .av y =>
    match partsOf y, P.underlying t with
    | some l, some (.struct fs) => match fs[f]? with | some fd => qPart P fd.type l fd.offset | none => .fail
    | _, _ => .fail
  | _ => .fail

theorem partsOf_rep {x : AV} {l : List Lf} {v : Value} (h : partsOf x = some l) (hr : RepA S m w x v) : ∃ cs, v = .agg cs ∧ RepLs S m w l cs.toList := by
  unfold partsOf at h
  split at h
  · simp only [Option.some.injEq] at h; subst h; exact hr
  · rename_i a b y
    simp only [Option.some.injEq] at h; subst h
    simp only [RepA, Lf.wide, K.wide, if_true] at hr
    obtain ⟨cs, e, h1⟩ := hr
    exact ⟨cs, e, leafs_rep.2 h1⟩
  · cases h

theorem qField_run {t : TypeId} {x r : SV} {f : Nat} {v : Value} (h : Yd C L (qField P t x f) r) (hx : RepS S m w x v) :
    ∃ y, (Instr.field t v f).run P w = Result.ok y w ∧ RepS S m w r y := by
  unfold qField at h
  split at h
  · rename_i y
    split at h
    · rename_i l fs hl hu
      split at h
      · rename_i fd hf
        obtain ⟨cs, rfl, h1⟩ := partsOf_rep hl hx
        obtain ⟨u, h2, h3⟩ := qPart_run h h1
        exact ⟨u, by simp [Instr.field, run_underlying hu, hf, asAgg, h2], h3⟩
      · exact fail_absurd h
    · exact fail_absurd h
  · exact fail_absurd h

/-! ### An element of a string or an array -/
def qIndex (P : Program) (t : TypeId) (x i : SV) : Pg SV :=
  match asI i with
  | none => .fail
  | some (_, i) =>
    match P.underlying t, x with
    | some .string, .av (.one (.v (.string s))) =>
      (need (ile 0 i)).bind fun _ => (need (ilt i (ssz s))).bind fun _ => .ret (vv (.int .u8 (bt s i)))
    | some (.array n e), .av (.one (.dat (.arr n' k) l)) =>
      (need (ile 0 i)).bind fun _ => (need (ilt i (n : Int))).bind fun _ =>
      match szOf P e with
      | some z => (sure (Nat.beq n n' && Nat.beq z k.sz)).bind fun _ => qPart P e (leafs k (gd k l i.toNat)) 0
      | none => .fail
    | _, _ => .fail

theorem qIndex_run {t : TypeId} {x i r : SV} {v u : Value} (h : Yd C L (qIndex P t x i) r) (hx : RepS S m w x v) (hi : RepS S m w i u) :
    ∃ y, (Instr.index t v u).run P w = Result.ok y w ∧ RepS S m w r y := by
  unfold qIndex at h
  split at h
  · exact fail_absurd h
  · rename_i k n hn
    obtain rfl := asI_rep hn hi
    split at h
    · rename_i s hu
      obtain ⟨_, h1, h⟩ := yd_bind.1 h
      obtain ⟨_, h2, h⟩ := yd_bind.1 h
      have h1 := of_decide_eq_true (yd_need.1 h1)
      try simp only [llen, ssz] at h1
      have h2 := of_decide_eq_true (yd_need.1 h2)
      try simp only [llen, ssz] at h2
      have h := yd_ret.1 h; subst h
      obtain ⟨rfl, _⟩ := repS_v.1 hx
      refine ⟨_, ?_, rep_v rfl⟩
      rw [run_index_string _ _ _ _ _ hu, dif_pos ⟨h1, h2⟩]
      simp only [bt]
      rw [dif_pos (by omega)]
    · rename_i len e n' kk l hu
      obtain ⟨_, h1, h⟩ := yd_bind.1 h
      obtain ⟨_, h2, h⟩ := yd_bind.1 h
      have h1 := of_decide_eq_true (yd_need.1 h1)
      try simp only [llen, ssz] at h1
      have h2 := of_decide_eq_true (yd_need.1 h2)
      try simp only [llen, ssz] at h2
      split at h
      · rename_i z hz
        obtain ⟨_, h3, h8⟩ := yd_bind.1 h
        have h3 := yd_sure.1 h3
        simp only [Bool.and_eq_true] at h3
        have h3a := Nat.eq_of_beq_eq_true h3.1
        have h3b := Nat.eq_of_beq_eq_true h3.2
        clear h
        have h := h8
        clear h8
        subst h3a
        simp only [RepS, RepA, Lf.wide, K.wide, if_true] at hx
        obtain ⟨cs, rfl, g1, g2, g3⟩ := hx
        have g4 := g3 n.toNat (by omega)
        have hsz : z = kk.sz := h3b
        have hlen : n.toNat * kk.sz + kk.sz ≤ cs.size := by
          have : (n.toNat + 1) * kk.sz ≤ len * kk.sz := Nat.mul_le_mul_right _ (by omega)
          rw [Nat.add_mul, Nat.one_mul, ← g2] at this
          simpa using this
        have g5 : RepLs S m w (leafs kk (gd kk l n.toNat)) (cs.extract (n.toNat * kk.sz) (n.toNat * kk.sz + kk.sz)).toList := by
          simp only [Array.toList_extract, List.extract_eq_take_drop, Nat.add_sub_cancel_left]
          exact leafs_rep.2 g4
        obtain ⟨y, f1, f2⟩ := qPart_run h g5
        refine ⟨y, ?_, f2⟩
        have key : (part e cs (n.toNat * z)).run P w = (part e (cs.extract (n.toNat * kk.sz) (n.toNat * kk.sz + kk.sz)) 0).run P w := by
          subst hsz
          unfold qPart at h
          split at h
          · rename_i n1 g hn1 hg
            rw [hz] at hn1
            simp only [Option.some.injEq] at hn1
            subst hn1
            cases g with
            | true =>
              simp [part, run_isAgg' hg, run_sizeOf' hz, Array.extract_extract]
            | false =>
              have hk1 : 0 < kk.sz := by
                have h := yd_opt.1 h
                simp only [Option.bind_eq_some_iff, Option.map_eq_some_iff] at h
                obtain ⟨l1, h1, l2, h2, av, h3, _⟩ := h
                rcases Nat.eq_zero_or_pos kk.sz with hz0 | hz0
                · exfalso
                  rw [hz0] at h2
                  have : l2 = [] := by cases l1 <;> simp_all [segTake]
                  subst this
                  simp [mkA] at h3
                · exact hz0
              simp only [part, run_isAgg' hg, Sem.run_bind, Result.andThen, Bool.false_eq_true, if_false]
              rw [Array.getElem?_extract]
              simp [hk1, show min (n.toNat * kk.sz + kk.sz) cs.size - n.toNat * kk.sz = kk.sz from by omega]
          · exact fail_absurd h
        simp [Instr.index, asIntOf, run_underlying hu, h1, h2, run_sizeOf' hz, key, f1]
      · exact fail_absurd h
    · exact fail_absurd h
end
end Vam
