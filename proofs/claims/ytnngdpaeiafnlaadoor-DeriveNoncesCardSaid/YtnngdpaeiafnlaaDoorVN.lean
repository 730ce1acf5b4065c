/- Events: stores, appends, copies; all events under one name. -/
import Derived.Test.YtnngdpaeiafnlaaDoorVM
namespace Vam
open Go Pg
set_option linter.unusedVariables false
set_option linter.unusedSimpArgs false
section
variable {S S' : Nat → Prop} {m m' : Mp} {w w' : World} {P : Program} {C : FuncId → List AV → Hp → SV → Hp → Prop} {L : Code → St → Ex → St → Prop} {H : Hp}

theorem run_storeAt_of {t : TypeId} {c off n : Nat} {v : Value} {w' : World} (hn : szOf P t = some n) (hv : v.cells.size = n) (h : (storeCells ⟨c, off, none⟩ v.cells.toList).run P w = .ok () w') :
    (Instr.storeAt t (.pointer (some ⟨c, off, none⟩)) v).run P w = .ok () w' := by
  simp only [Instr.storeAt, Instr.sureAddr, Sem.run_bind, Sem.run_pure, Result.andThen_ok, storeVar, run_sizeOf' hn]
  rw [if_neg (by omega)]
  simp [h]

theorem newElem_rep {k : K} {old y : k.T} {r n : Nat} {new : List Lf} {E vs : List Value} (h : newElem k old r n new = some y) (hE : RepD S w k old E) (hv : RepLs S m w new vs) (hn : vs.length = n) (hr : r + n ≤ k.sz) :
    RepD S w k y (splice E r vs) := by
  have hlen := hE.length
  unfold newElem at h
  split at h
  · rename_i e
    simp only [Bool.and_eq_true] at e
    have e1 := Nat.eq_of_beq_eq_true e.1
    have e2 := Nat.eq_of_beq_eq_true e.2
    have h1 := dec_rep h hv
    have : splice E r vs = vs := by
      unfold splice
      rw [e1, List.take_zero, List.nil_append, List.drop_of_length_le (by omega), List.append_nil]
    rw [this]; exact h1
  · simp only [Option.bind_eq_some_iff] at h
    obtain ⟨l, h1, h2⟩ := h
    obtain ⟨g1, g2⟩ := putSegs_rep h1 (leafs_rep.2 hE) hv
    have := dec_rep h2 g2
    unfold splice
    rw [hn]; exact this

theorem eStore_run {t : TypeId} {p x r : SV} {U : Hp} {v u : Value} (hH : SimH S m w H) (h : Yd C L (eStore P H t p x) (r, U)) (hp : RepS S m w p v) (hx : RepS S m w x u) :
    ∃ w', (Instr.storeAt t v u).run P w = .ok () w' ∧ Ev S m w H S m w' U ∧ r = .un := by
  unfold eStore at h
  split at h
  · rename_i b o i s r' new n hnew hn
    obtain ⟨_, h0, h⟩ := yd_bind.1 h
    have h0 := Nat.eq_of_beq_eq_true (yd_sure.1 h0)
    have hls := allLeaves_rep hnew hx
    have hlen := wsum_len hls
    have hone := rep_one hls
    obtain ⟨c, base, hm, hv⟩ := (repS_one rfl).1 hp
    simp only [List.cons.injEq, and_true] at hv
    subst hv
    have hcs : u.cells.toList.length = n := by omega
    split at h
    · split at h
      · rename_i ty l hb
        obtain ⟨l', h1, h⟩ := yd_bind.1 h
        have h1 := yd_opt.1 h1
        obtain ⟨rfl, rfl⟩ := Prod.mk.inj (yd_ret.1 h)
        obtain ⟨c', cs, fr, e1, e2, e3, e4, e5⟩ := hH.blk _ _ hb
        rw [hm] at e1
        simp only [Option.some.injEq, Prod.mk.injEq] at e1
        obtain ⟨rfl, rfl⟩ := e1
        obtain ⟨g1, g2⟩ := putSegs_rep h1 e5 hls
        obtain ⟨w', cs', f1, f2, f3⟩ := store_row (P := P) (vs := u.cells.toList) (o := o + r') e2 (by simp at g1; simp at hcs; omega) e3 hone
        refine ⟨w', run_storeAt_of hn (by simpa using hcs) (by simpa using f1), ev_write hb rfl hm e4 f2 ?_, rfl⟩
        rw [hm]
        refine ⟨c, cs', fr, rfl, f2.new, by rw [f2.same]; exact e3, e4, ?_⟩
        rw [f3, hcs]
        exact RepLs.mv (f2.mv e4) g2
      · exact fail_absurd h
    · rename_i s _
      split at h
      · rename_i V hV
        obtain ⟨_, h1, h⟩ := yd_bind.1 h
        have h1 := yd_sure.1 h1
        simp only [Bool.and_eq_true] at h1
        have h1a := Nat.eq_of_beq_eq_true h1.1
        have h1b := Nat.le_of_ble_eq_true h1.2
        obtain ⟨_, h2, h⟩ := yd_bind.1 h
        have h2 := of_decide_eq_true (yd_need.1 h2)
        obtain ⟨y, h3, h⟩ := yd_bind.1 h
        have h3 := yd_opt.1 h3
        obtain ⟨B, h4, h⟩ := yd_bind.1 h
        have h4 := yd_opt.1 h4
        obtain ⟨rfl, rfl⟩ := Prod.mk.inj (yd_ret.1 h)
        obtain ⟨B0, ty, fr, cs, A, D, E, g1, g2, g3, g4, g5, g6, g7, g8, g9⟩ := viewArr_rep hH hV hm
        obtain ⟨A2, E2, D2, k1, k2, k3, k4⟩ := arr_split g8 h2
        have hE2 := k3.length
        have hy := newElem_rep h3 k3 hls hcs h1b
        have h5 := k4 _ _ hy
        have hcsl : cs.toList = (A ++ A2) ++ (E2 ++ (D2 ++ E)) := by rw [g6, k1]; simp
        have hAl : (A ++ A2).length = base + o + i * V.k.sz := by simp [g7, k2]
        have hoff : base + (o + i * (s + 1) + r') = (A ++ A2).length + r' := by rw [hAl, h1a]; omega
        have hfit : base + (o + i * (s + 1) + r') + u.cells.toList.length ≤ cs.size := by
          have := congrArg List.length hcsl
          simp only [List.length_append, Array.length_toList] at this
          rw [hoff]
          simp only [List.length_append]
          omega
        obtain ⟨w', cs', f1, f2, f3⟩ := store_row (P := P) (vs := u.cells.toList) (o := base + (o + i * (s + 1) + r')) g3 hfit g4 hone
        refine ⟨w', run_storeAt_of hn (by simpa using hcs) f1, ev_write g1 g2 hm g5 f2 ?_, rfl⟩
        rw [hm]
        refine g9 _ (A2 ++ (splice E2 r' u.cells.toList ++ D2)) w' cs' B f2 ?_ h5 h4
        have f3' : cs'.toList = splice cs.toList (base + (o + i * (s + 1) + r')) u.cells.toList := f3
        rw [f3', hoff, hcsl, splice_mid (by omega)]
        simp
      · exact fail_absurd h
  · exact fail_absurd h

/-! ### What is appended or copied -/
theorem content2_src {k : K} {t e : TypeId} {y : SV} {ys : List k.T} {v : Value} (hH : SimH S m w H) (h : Yd C L (content2 P H k t y) ys) (hy : RepS S m w y v) :
    ∃ vs, Src P k.sz t v ys.length vs w ∧ RepD S w (.arr ys.length k) ys vs ∧ (∀ w', (Builtin.lenOf v).run P w' = .ok ys.length w') ∧ ∀ n, n ≤ ys.length → (Builtin.firstCells k.sz n v).run P w = .ok (vs.take (n * k.sz)).toArray w := by
  unfold content2 at h
  split at h
  · rename_i e' hu
    obtain ⟨a, cap, vs, rfl, h2, h3, h4, h5⟩ := sliceAt_cells (content_rep hH h hy) (Nat.le_refl _)
    rw [List.take_length] at h3
    have hl := h3.2.1
    cases a with
    | none =>
      obtain rfl := h4 rfl
      obtain rfl : vs = [] := by simpa using hl
      refine ⟨[], Src.ofNil w hu cap, h3, fun _ => rfl, fun n hn => ?_⟩
      simp at hn; subst hn
      simp [Builtin.firstCells]
    | some ad =>
      refine ⟨vs, Src.ofSlice w hu ad _ cap vs hl (h5 ad rfl) (rep_one_D h3), h3, fun _ => rfl, fun n hn => ?_⟩
      have hle : n * k.sz ≤ ys.length * k.sz := Nat.mul_le_mul_right _ hn
      exact run_firstCells_some w k.sz n ad _ cap _ (by simp; omega) (fun j u hj => h5 ad rfl j u (by
        rw [List.getElem?_take] at hj
        split at hj
        · exact hj
        · cases hj))
  · rename_i hu
    split at h
    · rename_i s hs
      obtain ⟨e, rfl⟩ := castL_eq (yd_opt.1 h)
      subst e
      obtain rfl := asSt_rep hs hy
      have hl := nums_length s
      refine ⟨byteCells s, ?_, ?_, fun _ => ?_, fun n hn => ?_⟩
      · show Src P 1 t (.string s) (nums s).length _ w
        rw [hl]; exact Src.ofString w hu s
      · show RepD S w (.arr (nums s).length (.int .u8)) (nums s : List Int) _
        rw [hl]; exact nums_cells
      · show _ = Result.ok (nums s).length _
        rw [hl]; rfl
      · have hn : n ≤ s.size := Nat.le_trans hn (Nat.le_of_eq hl)
        show (Builtin.firstCells 1 n (.string s)).run P w = .ok ((byteCells s).take (n * 1)).toArray w
        simp [Builtin.firstCells, byteCells]
        apply Array.ext'
        simp [ByteArray.data_extract, List.map_take]
    · exact fail_absurd h
  · exact fail_absurd h

theorem Ev.dead {S' : Nat → Prop} {m' : Mp} {U : Hp} {b : Nat} (h : Ev S m w H S' m' w' U) : Ev S m w H S' m' w' ((b, .dead) :: U) := by
  refine ⟨h.mv, fun c hc hf => h.frame c hc fun b1 B p h1 => hf b1 B p (by simp only [keys, List.map_cons, List.mem_cons]; exact .inr h1), fun b1 B h1 => ?_, fun b1 B p h1 hl hp => ?_, fun b1 b2 B1 B2 p p' h1 h2 l1 l2 => ?_, fun b1 h1 => h.dom b1 fun h2 => h1 (by simp only [keys, List.map_cons, List.mem_cons]; exact .inr h2)⟩
  · rcases List.mem_cons.1 h1 with h1 | h1
    · obtain ⟨rfl, rfl⟩ := Prod.mk.inj h1; trivial
    · exact h.sim b1 B h1
  · rcases List.mem_cons.1 h1 with h1 | h1
    · obtain ⟨rfl, rfl⟩ := Prod.mk.inj h1; cases hl
    · rcases h.own b1 B p h1 hl hp with h2 | ⟨b0, B0, p0, g0, g1⟩
      · exact .inl h2
      · exact .inr ⟨b0, B0, p0, by simp only [keys, List.map_cons, List.mem_cons]; exact .inr g0, g1⟩
  · rcases List.mem_cons.1 h1 with h1 | h1
    · obtain ⟨rfl, rfl⟩ := Prod.mk.inj h1; cases l1
    · rcases List.mem_cons.1 h2 with h2 | h2
      · obtain ⟨rfl, rfl⟩ := Prod.mk.inj h2; cases l2
      · exact h.inj b1 b2 B1 B2 p p' h1 h2 l1 l2

/-- Nothing but a name for an empty row. -/
theorem ev_empty {d : Nat} {e : TypeId} {k : K} (hd : m d = none) : Ev S m w H S m w [(d, .row e k [])] := by
  refine ⟨Mv.refl S m w, fun _ _ _ => ⟨rfl, id⟩, fun b B h => ?_, fun b B p h _ hp => ?_, fun b b' B B' p p' h1 h2 _ _ _ _ _ => ?_, fun _ _ => rfl⟩
  · simp only [List.mem_singleton, Prod.mk.injEq] at h
    obtain ⟨rfl, rfl⟩ := h
    exact .inl ⟨hd, rfl⟩
  · simp only [List.mem_singleton, Prod.mk.injEq] at h
    obtain ⟨rfl, rfl⟩ := h
    rw [hd] at hp; cases hp
  · simp only [List.mem_singleton, Prod.mk.injEq] at h1 h2
    exact h1.1.trans h2.1.symm

theorem run_append_none {t tx ty e : TypeId} {i : TypeInfo} {k : K} {base : Option Addr} {x : Value} (ht : P.underlying t = some (.slice e)) (hi : P.info? e = some i) (hs : Src P i.size tx x 0 [] w) :
    (Builtin.append_ #[t, tx] ty #[.slice base 0 0, x]).run P w = .ok (.slice base 0 0) w := by
  rcases hs.kind with ⟨e', hk⟩ | hk <;> cases base <;> simp [Builtin.append_, run_underlying ht, run_underlying hk, Go.sizeOf, typeInfo, hi, hs.len, hs.cells, storeCells]

/-- An append that finds no room. -/
theorem grow_run {d n cap : Nat} {t tx ty e : TypeId} {i : TypeInfo} {k : K} {z : Value} {base : Option Addr} {x : Value} {l ys : List k.T} {olds vs : List Value} (hd : m d = none) (ht : P.underlying t = some (.slice e)) (hi : P.info? e = some i) (hz : i.zero = some z) (hsz : i.size = k.sz)
    (hzr : ∀ S w, RepD S w k k.dflt z.cells.toList) (hl : RepD S w (.arr n k) l olds) (hold : ∀ w' : World, w'.heap = w.heap → (Builtin.firstCells i.size n (.slice base n cap)).run P w' = .ok olds.toArray w') (hs : Src P i.size tx x ys.length vs w) (hv : RepD S w (.arr ys.length k) ys vs)
    (hg : cap < n + ys.length) (h63 : n + ys.length ≤ 9223372036854775807) (hfit : (n + ys.length) * i.bytes ≤ 140737488355328) :
    ∃ z' w', (Builtin.append_ #[t, tx] ty #[.slice base n cap, x]).run P w = .ok z' w' ∧ ∃ S' m', Ev S m w H S' m' w' [(d, .row e k (l ++ ys))] ∧ RepS S' m' w' (rowSV d (n + ys.length) k.sz) z' := by
  have hrun := run_append_grow_src w t tx ty e i z ht hi hz base n cap olds (hold w.drew rfl) x ys.length vs hs hg (by omega) (growslice_fits hg hfit)
  have hge := grownCap_ge w (n + ys.length) cap e
  have hzl : z.cells.size = k.sz := by have := (hzr S w).length; simpa using this
  have ho := hl.2.1
  have hvl := hv.2.1
  refine ⟨_, _, hrun, ev_row (cap := grownCap w (n + ys.length) cap e) hd ⟨World.size_alloc w.drew _, ⟨rfl, rfl, rfl⟩⟩ (fun c hc => heap_old w.drew _ hc) (heap_new w.drew _) (frOk0 _) ?_ hge ?_ ?_⟩
  · have : l.length = n := hl.1
    simp [this]
  · have e1 : (Builtin.zeroCells z.cells (grownCap w (n + ys.length) cap e - (n + ys.length))).size = (grownCap w (n + ys.length) cap e - (n + ys.length)) * k.sz := by simp [Builtin.zeroCells, hzl]
    have e2 : grownCap w (n + ys.length) cap e = n + ys.length + (grownCap w (n + ys.length) cap e - (n + ys.length)) := by omega
    rw [Array.size_append, e1]
    simp only [List.size_toArray, List.length_append, ho, hvl]
    rw [← Nat.add_mul, ← Nat.add_mul, ← e2]
  · rw [Array.toList_append, List.take_append_of_le_length (by simp [ho, hvl, Nat.add_mul]), List.take_of_length_le (by simp [ho, hvl, Nat.add_mul])]
    exact arr_append hl hv

/-- A row of which the tail is appended to. -/
theorem longer_run {d b i0 n s : Nat} {t tx ty e ty' : TypeId} {i : TypeInfo} {k : K} {z : Value} {l00 ys : List k.T} {vs : List Value} {r : SV} {U : Hp} {v u : Value} (hH : SimH S m w H) (hd : ∀ d, d ∈ keys U → hg H d = none → m d = none) (hf : hg H d = none)
    (ht : P.underlying t = some (.slice e)) (hi : P.info? e = some i) (hz : i.zero = some z) (hsz : i.size = k.sz) (hzr : ∀ S w, RepD S w k k.dflt z.cells.toList) (hs : Src P i.size tx u ys.length vs w) (hv : RepD S w (.arr ys.length k) ys vs)
    (hte : ty' = e) (h2 : s = k.sz) (hb : hg H b = some (.row ty' k l00)) (hi0 : i0 ≤ l00.length) (h : Yd C L (eLonger d b e i.bytes s n k (l00.drop i0) ys) (r, U)) (hx : RepS S m w (.av (.one (.own b 0 i0 n s))) v) :
    ∃ z w', (Builtin.append_ #[t, tx] ty #[v, u]).run P w = .ok z w' ∧ ∃ S' m', Ev S m w H S' m' w' U ∧ RepS S' m' w' r z := by
  unfold eLonger at h
  obtain ⟨_, h4, h⟩ := yd_bind.1 h
  obtain ⟨_, h5, h⟩ := yd_bind.1 h
  obtain ⟨_, h6, h⟩ := yd_bind.1 h
  have h4 := of_decide_eq_true (yd_need.1 h4)
  have h5 := of_decide_eq_true (yd_need.1 h5)
  have h6 := of_decide_eq_true (yd_need.1 h6)
  obtain ⟨rfl, rfl⟩ := Prod.mk.inj (yd_ret.1 h)
  have hap : ∀ a b : List k.T, List.append a b = a ++ b := fun _ _ => rfl
  simp only [hap] at h5 h6 hd ⊢
  have hl0 : (l00.drop i0).length = l00.length - i0 := List.length_drop
  generalize hl1 : l00.drop i0 = l0 at *
  rw [List.length_append] at h5 h6
  subst h2 hte
  obtain ⟨a, cap, e1, e2, e3⟩ := (repS_one rfl).1 hx
  simp only [List.cons.injEq, and_true] at e1
  subst e1
  subst h4
  have hd' := hd d (by simp [keys]) hf
  rcases Nat.eq_zero_or_pos cap with hc | hc
  · subst hc
    have hl0' : l0 = [] := List.length_eq_zero_iff.1 (by omega)
    subst hl0'
    rcases Nat.eq_zero_or_pos ys.length with h0 | h0
    · have hys : ys = [] := List.length_eq_zero_iff.1 h0
      subst hys
      obtain rfl : vs = [] := by have := hv.2.1; simpa using this
      exact ⟨_, w, run_append_none (k := k) ht hi hs, S, m, (ev_empty hd').dead, (repS_one rfl).2 ⟨a, 0, rfl, Nat.le_refl _, .inl rfl⟩⟩
    · have hfc : ∀ w' : World, (Builtin.firstCells i.size 0 (.slice a 0 0)).run P w' = .ok (([] : List Value).toArray) w' := fun w' => by
        cases a with
        | none => exact run_firstCells_none w' _ _ _ _
        | some a => exact run_firstCells_some w' i.size 0 a _ _ [] (by simp) (fun j v h => by simp at h)
      obtain ⟨z', w', g1, S', m', g2, g3⟩ := grow_run (H := H) (ty := ty) (base := a) (n := 0) (cap := 0) (l := ([] : List k.T)) (olds := []) hd' ht hi hz hsz hzr arr_nil (fun w' _ => hfc w') hs hv (by omega) (by simpa using h5) (by simpa using h6)
      exact ⟨z', w', g1, S', m', g2.dead, by simpa using g3⟩
  · rcases e3 with e3 | ⟨c, base0, ty2, sz2, f1, f2, f3, f4⟩
    · omega
    simp only [Nat.zero_add] at f2 f4
    subst f2
    rcases hH.blk _ _ hb with ⟨e0, _⟩ | ⟨c', base', cs, fr, q1, q2, q3, q4, q5, q6⟩
    · rw [f1] at e0; cases e0
    rw [f1] at q1
    simp only [Option.some.injEq, Prod.mk.injEq] at q1
    obtain ⟨rfl, rfl⟩ := q1
    simp only [World.shape?, q2, Option.some.injEq, Prod.mk.injEq] at f3
    obtain ⟨-, rfl⟩ := f3
    obtain ⟨p01, p02⟩ := (row_view (S := S) (w := w) (cs := cs.toList) (l := l00) rfl).1 ⟨by simpa using q5, q6⟩
    rw [Nat.add_mul] at f4
    have hmul : l00.length * k.sz = i0 * k.sz + (l00.length - i0) * k.sz := by rw [← Nat.add_mul]; congr 1; omega
    generalize hbase : base0 + i0 * k.sz = base at *
    have p1 : base + l0.length * k.sz ≤ cs.toList.length := by rw [hl0]; omega
    have p2 : RepD S w (.arr l0.length k) l0 ((cs.toList.drop base).take (l0.length * k.sz)) := by
      have := arr_drop p02 hi0
      rw [hl1, ← hl0, List.drop_take, List.drop_drop, hbase, hmul, Nat.add_sub_cancel_left, ← hl0] at this
      exact this
    have hvl := hv.2.1
    by_cases hroom : l0.length + ys.length ≤ cap
    · have hle : (l0.length + ys.length) * k.sz ≤ cap * k.sz := Nat.mul_le_mul_right _ hroom
      have hle2 := Nat.add_mul l0.length ys.length k.sz
      have hcells : ∀ j, j < vs.length → ((w.cell? ⟨c, base + l0.length * i.size + j, none⟩).isSome = true) ∧ w.frozen? ⟨c, base + l0.length * i.size + j, none⟩ = false := by
        intro j hj
        rw [hsz]
        constructor
        · simp only [World.cell?, q2, Option.isSome_none, Bool.false_eq_true, if_false]
          rw [Array.getElem?_eq_getElem (by omega)]; rfl
        · simp only [World.frozen?, q2]
          exact q3 _ (by omega)
      have hrun := run_append_room_src w t tx ty _ i ht hi c base l0.length cap u ys.length vs hs hroom (fun j hj => (hcells j hj).1) (fun j hj => (hcells j hj).2)
      obtain ⟨cs', w1, w2⟩ := setCells_heap vs (base + l0.length * i.size) w cs q2 (by rw [hsz]; omega)
      refine ⟨_, _, hrun, S, _, ev_move (base' := base) hb rfl f1 hd' q4 w1 ?_, (repS_one rfl).2 ⟨_, cap, by rw [List.length_append], by rw [List.length_append]; exact hroom, .inr ⟨c, base, ty', cs.size, setm_eq, by simp, ?_, by simp; omega⟩⟩⟩
      · have hmv : Mv S m w S (setm m d (c, base)) (w.setCells c (base + l0.length * i.size) vs) := mv_setm (w1.mv q4) hd'
        have hall := arr_append p2 hv
        have hsame := w1.same
        have hbl : base + (l0.length + ys.length) * k.sz ≤ cs'.toList.length := by simp; omega
        have h3 := (row_view (S := S) (w := w.setCells c (base + l0.length * i.size) vs) (base := base) (n := l0.length + ys.length) (k := k) (l := l0 ++ ys) (cs := cs'.toList) (by simp)).2 ⟨hbl, by
          have e5 : (cs'.toList.drop base).take ((l0.length + ys.length) * k.sz) = (cs.toList.drop base).take (l0.length * k.sz) ++ vs := by
            rw [w2, hsz]
            have hA : (cs.toList.take (base + l0.length * k.sz)).length = base + l0.length * k.sz := by simp; omega
            rw [List.drop_append_of_le_length (by omega), List.drop_take, show base + l0.length * k.sz - base = l0.length * k.sz from by omega]
            have hB : ((cs.toList.drop base).take (l0.length * k.sz)).length = l0.length * k.sz := by simp; omega
            rw [← List.append_assoc, List.take_append_of_le_length (by simp only [List.length_append, hB]; omega), List.take_of_length_le (by simp only [List.length_append, hB]; omega)]
          rw [e5]
          exact RepD.mv hmv hall⟩
        exact .inr ⟨c, base, cs', fr, rfl, w1.new, by rw [hsame]; exact q3, q4, by simpa using h3.1, fun j hj => h3.2 j (by simpa using hj)⟩
      · simp only [World.shape?, w1.new, w1.same]
    · have hfc : ∀ w' : World, w'.heap = w.heap → (Builtin.firstCells i.size l0.length (.slice (some ⟨c, base, none⟩) l0.length cap)).run P w' = .ok (((cs.toList.drop base).take (l0.length * k.sz)).toArray) w' := by
        intro w' hw'
        refine run_firstCells_some w' i.size l0.length _ _ _ _ (by rw [hsz]; exact p2.2.1) (fun j v hj => ?_)
        rw [add_none]
        have := ((at_block (ty := ty') (fr := fr) (show w'.heap[c]? = _ from by rw [hw']; exact q2)).drop base).take (l0.length * k.sz) j v hj
        simpa using this
      obtain ⟨z', w', g1, S', m', g2, g3⟩ := grow_run (H := H) (ty := ty) (base := some ⟨c, base, none⟩) (cap := cap) hd' ht hi hz hsz hzr p2 hfc hs hv (by omega) h5 h6
      exact ⟨z', w', g1, S', m', g2.dead, by rw [List.length_append]; exact g3⟩

theorem eAppend_run {d : Nat} {t tx ty : TypeId} {x y r : SV} {U : Hp} {v u : Value} (hH : SimH S m w H) (hd : ∀ d, d ∈ keys U → hg H d = none → m d = none) (hf : hg H d = none) (h : Yd C L (eAppend P H d t tx x y) (r, U)) (hx : RepS S m w x v) (hy : RepS S m w y u) :
    ∃ z w', (Builtin.append_ #[t, tx] ty #[v, u]).run P w = .ok z w' ∧ ∃ S' m', Ev S m w H S' m' w' U ∧ RepS S' m' w' r z := by
  unfold eAppend at h
  split at h
  · rename_i e ht
    split at h
    · rename_i k i hk hi
      obtain ⟨i', z, hi', hz, hsz, hzr⟩ := zeroK_rep hk
      rw [hi] at hi'
      simp only [Option.some.injEq] at hi'
      subst hi'
      obtain ⟨ys, h1, h⟩ := yd_bind.1 h
      obtain ⟨vs, hs, hv, _, _⟩ := content2_src (e := e) hH h1 hy
      rw [← hsz] at hs
      split at h
      · obtain ⟨_, h2, h⟩ := yd_bind.1 h
        obtain ⟨_, h3, h⟩ := yd_bind.1 h
        have h2 := of_decide_eq_true (yd_need.1 h2)
        have h3 := of_decide_eq_true (yd_need.1 h3)
        obtain ⟨rfl, rfl⟩ := Prod.mk.inj (yd_ret.1 h)
        obtain ⟨rfl, _⟩ := repS_v.1 hx
        have hd' := hd d (by simp [keys]) hf
        rcases Nat.eq_zero_or_pos ys.length with h0 | h0
        · have hys : ys = [] := List.length_eq_zero_iff.1 h0
          subst hys
          obtain rfl : vs = [] := by have := hv.2.1; simpa using this
          exact ⟨_, w, run_append_none (k := k) ht hi hs, S, m, ev_empty hd', (repS_one rfl).2 ⟨none, 0, rfl, Nat.le_refl _, .inl rfl⟩⟩
        · have := grow_run (H := H) (ty := ty) (base := none) (n := 0) (cap := 0) (l := ([] : List k.T)) (olds := []) hd' ht hi hz hsz hzr arr_nil (fun w' _ => run_firstCells_none w' _ _ _ _) hs hv (by omega) (by omega) (by rw [Nat.zero_add]; exact h3)
          simpa using this
      · rename_i b i0 n s _
        split at h
        · rename_i ty' k' l00 hb
          obtain ⟨_, h2, h⟩ := yd_bind.1 h
          have h2 := yd_sure.1 h2
          simp only [Bool.and_eq_true] at h2
          have hte := Nat.eq_of_beq_eq_true h2.2
          have h2 := Nat.eq_of_beq_eq_true h2.1
          obtain ⟨l, h3, h⟩ := yd_bind.1 h
          obtain ⟨ek, rfl⟩ := castL_eq (yd_opt.1 h3)
          subst ek
          dsimp only at h
          have h4 : i0 ≤ l00.length ∧ Yd C L (eLonger d b e i.bytes s n k' (l00.drop i0) ys) (r, U) := by
            rcases yd_pick.1 h with h | h
            · obtain ⟨_, hc, h⟩ := yd_bind.1 h
              have hc := Nat.eq_of_beq_eq_true (yd_need.1 hc)
              exact ⟨by omega, by rw [hc, List.drop_zero]; exact h⟩
            · obtain ⟨_, h5, h⟩ := yd_bind.1 h
              exact ⟨of_decide_eq_true (yd_need.1 h5), h⟩
          obtain ⟨hi0, h⟩ := h4
          exact longer_run hH hd hf ht hi hz hsz hzr hs hv hte h2 hb hi0 h hx
        · exact fail_absurd h
      · exact fail_absurd h
    · exact fail_absurd h
  · exact fail_absurd h

/-- A block said again. -/
theorem ev_same {b : Nat} {B : Blk} (hH : SimH S m w H) (hb : hg H b = some B) : Ev S m w H S m w [(b, B)] := by
  refine ⟨Mv.refl S m w, fun _ _ _ => ⟨rfl, id⟩, fun b1 B1 h1 => ?_, fun b1 B1 p h1 hl hp => ?_, fun b1 b2 B1 B2 p p' h1 h2 _ _ _ _ _ => ?_, fun _ _ => rfl⟩
  · simp only [List.mem_singleton, Prod.mk.injEq] at h1
    obtain ⟨rfl, rfl⟩ := h1
    exact hH.blk _ _ hb
  · simp only [List.mem_singleton, Prod.mk.injEq] at h1
    obtain ⟨rfl, rfl⟩ := h1
    exact .inr ⟨b1, B1, p, by simp [keys], hb, hl, hp, rfl⟩
  · simp only [List.mem_singleton, Prod.mk.injEq] at h1 h2
    exact h1.1.trans h2.1.symm

theorem ev_same' {b : Nat} {ty ty' : TypeId} {l l' : List Lf} {B : Blk} (hH : SimH S m w H) (hb : hg H b = some (.cells ty l)) (ht : ty' = ty) (hB : B = .cells ty' l')
    (h : ∀ c cs fr, m b = some (c, 0) → w.heap[c]? = some (.cells cs ty fr) → FrOk fr cs.size → S c → RepLs S m w l cs.toList → RepLs S m w l' cs.toList) : Ev S m w H S m w [(b, B)] := by
  subst ht hB
  refine ⟨Mv.refl S m w, fun _ _ _ => ⟨rfl, id⟩, fun b1 B1 h1 => ?_, fun b1 B1 p h1 hl hp => ?_, fun b1 b2 B1 B2 p p' h1 h2 _ _ _ _ _ => ?_, fun _ _ => rfl⟩
  · simp only [List.mem_singleton, Prod.mk.injEq] at h1
    obtain ⟨rfl, rfl⟩ := h1
    obtain ⟨c, cs, fr, e1, e2, e3, e4, e5⟩ := hH.blk _ _ hb
    exact ⟨c, cs, fr, e1, e2, e3, e4, h c cs fr e1 e2 e3 e4 e5⟩
  · simp only [List.mem_singleton, Prod.mk.injEq] at h1
    obtain ⟨rfl, rfl⟩ := h1
    exact .inr ⟨b1, _, p, by simp [keys], hb, rfl, hp, rfl⟩
  · simp only [List.mem_singleton, Prod.mk.injEq] at h1 h2
    exact h1.1.trans h2.1.symm

theorem eCopy_run {t tx ty : TypeId} {x y r : SV} {U : Hp} {v u : Value} (hH : SimH S m w H) (h : Yd C L (eCopy P H t tx x y) (r, U)) (hx : RepS S m w x v) (hy : RepS S m w y u) :
    ∃ z w', (Builtin.copy_ #[t, tx] ty #[v, u]).run P w = .ok z w' ∧ Ev S m w H S m w' U ∧ RepS S m w' r z := by
  unfold eCopy at h
  split at h
  · rename_i e b o i n s ht
    split at h
    · rename_i V z hV hz
      obtain ⟨_, h1, h⟩ := yd_bind.1 h
      have h1 := yd_sure.1 h1
      simp only [Bool.and_eq_true] at h1
      have h1a := Nat.eq_of_beq_eq_true h1.1
      have h1b := Nat.eq_of_beq_eq_true h1.2
      obtain ⟨ys, h2, h⟩ := yd_bind.1 h
      obtain ⟨_, h3, h⟩ := yd_bind.1 h
      have h3 := of_decide_eq_true (yd_need.1 h3)
      obtain ⟨vs, hs, hv, hlen, hcells⟩ := content2_src (e := e) hH h2 hy
      obtain ⟨a, cap, e1, e2, e3⟩ := (repS_one rfl).1 hx
      simp only [List.cons.injEq, and_true] at e1
      subst e1
      have hie : (Go.sizeOf e).run P w = .ok V.k.sz w := by rw [run_sizeOf' hz, h1b, h1a]
      have key : ∀ (p : Nat) (ys' : List V.k.T) (B : Blk), p = min ys.length n → ys' = ys.take p → V.back (over V.x i ys') = some B →
          ∃ z w', (Builtin.copy_ #[t, tx] ty #[.slice a n cap, u]).run P w = .ok z w' ∧ Ev S m w H S m w' [(b, B)] ∧ z = .int .i64 (p : Int) := by
        intro p ys' B hp hys hB
        have hpl : p ≤ ys.length := by omega
        have hfc := hcells p hpl
        have hrep := arr_take hv hpl
        rw [← hys] at hrep
        have hvl := hv.2.1
        have hle : p * V.k.sz ≤ ys.length * V.k.sz := Nat.mul_le_mul_right _ hpl
        have hmin : Nat.min ys.length n = p := hp.symm
        rcases Nat.eq_zero_or_pos cap with hc | hc
        · have hp0 : p = 0 := by omega
          subst hp0
          have hst : ∀ a : Addr, (storeCells a (vs.take (0 * V.k.sz))).run P w = .ok () w := fun a => by simp [storeCells]
          have hst2 : ∀ a : Addr, (storeCells a []).run P w = .ok () w := fun a => by simp [storeCells]
          have hb0 : ys' = [] := by rw [hys]; simp
          have hrun : (Builtin.copy_ #[t, tx] ty #[.slice a n cap, u]).run P w = .ok (.int .i64 ((0 : Nat) : Int)) w := by
            cases a <;> simp [Builtin.copy_, run_underlying ht, hlen, hie, hmin, hfc, goInt, hst2]
          refine ⟨_, w, hrun, ?_, rfl⟩
          have hover : over V.x i ys' = V.x := by rw [hb0]; simp [over]
          rw [hover] at hB
          have hsame := hB
          clear hover
          -- the block as it is, under its own name
          unfold viewArr at hV
          split at hV
          · rename_i ty' k l hb
            split at hV
            · simp only [Option.some.injEq] at hV
              subst hV
              simp only [Option.some.injEq] at hB
              subst hB
              exact ev_same hH hb
            · cases hV
          · rename_i ty' ls hb
            split at hV
            · rename_i N k x rest hseg
              simp only [Option.some.injEq] at hV
              subst hV
              obtain ⟨l', hB2, rfl⟩ := Option.map_eq_some_iff.1 hB
              refine ev_same' hH hb rfl rfl fun c cs fr q1 q2 q3 q4 q5 => ?_
              obtain ⟨g1, d1, d2, g2, g3, g4⟩ := segAt_rep hseg q5
              obtain ⟨p1, p2⟩ := putSegs_rep (vs := d1) hB2 q5 (RepLs.single.2 g3)
              have hd1 : d1.length = N * k.sz := g3.2.1
              have : cs.toList.take o ++ (d1 ++ cs.toList.drop (o + N * k.sz)) = cs.toList := by
                have h3 : cs.toList.drop (o + N * k.sz) = d2 := by
                  rw [← List.drop_drop, g2, List.drop_append, List.drop_of_length_le (by omega), List.nil_append, hd1, Nat.sub_self, List.drop_zero]
                rw [h3, ← g2, List.take_append_drop]
              rw [this] at p2
              exact p2
            · cases hV
          · cases hV
        · rcases e3 with e3 | ⟨c, base, ty2, sz2, f1, f2, f3, f4⟩
          · omega
          subst f2
          obtain ⟨B0, ty', fr, cs, A, D, E, g1, g2, g3, g4, g5, g6, g7, g8, g9⟩ := viewArr_rep hH hV f1
          have hD := g8.2.1
          have hov := arr_over g8 hrep (show i + p ≤ V.n by omega)
          have hl2 : (vs.take (p * V.k.sz)).length = p * V.k.sz := by simp; omega
          have hmul : (i + p) * V.k.sz ≤ V.n * V.k.sz := Nat.mul_le_mul_right _ (by omega)
          rw [Nat.add_mul] at hmul
          have hoff : base + (o + i * s) = A.length + i * V.k.sz := by rw [g7, h1a]; omega
          have hfit : base + (o + i * s) + (vs.take (p * V.k.sz)).length ≤ cs.size := by
            have := congrArg List.length g6
            simp only [List.length_append, Array.length_toList] at this
            rw [hoff, hl2]
            omega
          obtain ⟨w', cs', k1, k2, k3⟩ := store_row (P := P) (vs := vs.take (p * V.k.sz)) g3 hfit g4 (fun x hx => rep_one_D hv x (List.mem_of_mem_take hx))
          refine ⟨.int .i64 (p : Int), w', ?_, ev_write g1 g2 f1 g5 k2 ?_, rfl⟩
          · simp [Builtin.copy_, run_underlying ht, hlen, hie, hmin, hfc, goInt, k1]
          · rw [f1]
            refine g9 _ _ w' cs' B k2 ?_ hov hB
            have k3' : cs'.toList = splice cs.toList (base + (o + i * s)) (vs.take (p * V.k.sz)) := k3
            rw [k3', hoff, g6, splice_mid (by rw [hl2]; omega)]
      simp only [Yd] at h
      split at h
      · rename_i hc
        have hc := of_decide_eq_true hc
        obtain ⟨B, h4, h⟩ := yd_bind.1 h
        have h4 := yd_opt.1 h4
        obtain ⟨rfl, rfl⟩ := Prod.mk.inj (yd_ret.1 h)
        obtain ⟨z, w', g1, g2, rfl⟩ := key ys.length ys B (by omega) (by simp) h4
        exact ⟨_, w', g1, g2, rep_v rfl⟩
      · rename_i hc
        have hc := of_decide_eq_false hc
        obtain ⟨B, h4, h⟩ := yd_bind.1 h
        have h4 := yd_opt.1 h4
        obtain ⟨rfl, rfl⟩ := Prod.mk.inj (yd_ret.1 h)
        obtain ⟨z, w', g1, g2, rfl⟩ := key n (ys.take n) B (by omega) rfl h4
        exact ⟨_, w', g1, g2, rep_v rfl⟩
    · exact fail_absurd h
  · exact fail_absurd h

theorem estep_run {G : Nat → Option AV} {tm : Tm} {a : Act} {o : Oper} {r : SV} {U : Hp} (hH : SimH S m w H) (hG : RepG S m w G) (hT : RepT S m w tm a.tmps) (hd : ∀ d, d ∈ keys U → hg H d = none → m d = none)
    (hf : ∀ d, o.dst = some d → hg H d = none) (h : Yd C L (estep P G H tm o.dst o.op) (r, U)) :
    ∃ n z w' S' m', (execOp a.eval o).run P w = .ok n w' ∧ (n = .value z ∨ n = .skip ∧ z = undef) ∧ Ev S m w H S' m' w' U ∧ RepS S' m' w' r z := by
  have R : ∀ {x : Operand} {y : SV}, opd G tm x = some y → RepS S m w y (a.eval x) := fun h => opd_rep hG hT h
  unfold execOp
  unfold estep at h
  split at h
  · rename_i t d ho hdst
    rw [ho]
    have hf := hf d hdst
    obtain ⟨z, w', g1, g2, S', m', g3, g4⟩ := eAlloc_run hd hf h
    exact ⟨_, _, w', S', m', by simp [Instr.alloc, g1, g2], .inl rfl, g3, g4⟩
  · rename_i t x d ho hdst
    rw [ho]
    obtain ⟨y, h1, h⟩ := yd_bind.1 h
    obtain ⟨w', g2, S', m', g3, g4⟩ := eBox_run (P := P) hd (hf d hdst) h (R (yd_opt.1 h1))
    exact ⟨_, _, w', S', m', by simp [Instr.box, g2], .inl rfl, g3, g4⟩
  · rename_i t n parts d ho hdst
    rw [ho]
    obtain ⟨ps, h1, h⟩ := yd_bind.1 h
    have hp := opdP_rep hG hT (yd_opt.1 h1)
    obtain ⟨z, w', g1, S', m', g3, g4⟩ := eRow_run (P := P) (ps := parts.map fun p => (p.1, a.eval p.2)) hd (hf d hdst) h (by simpa using hp)
    exact ⟨_, _, w', S', m', by simp only [Sem.run_bind, g1, Result.andThen_ok, Sem.run_pure], .inl rfl, g3, g4⟩
  · rename_i t l c d ho hdst
    rw [ho]
    obtain ⟨x, h1, h⟩ := yd_bind.1 h
    obtain ⟨y, h2, h⟩ := yd_bind.1 h
    obtain ⟨z, w', g1, S', m', g3, g4⟩ := eMake_run (P := P) hd (hf d hdst) h (R (yd_opt.1 h1)) (R (yd_opt.1 h2))
    exact ⟨_, _, w', S', m', by simp only [Sem.run_bind, g1, Result.andThen_ok, Sem.run_pure], .inl rfl, g3, g4⟩
  · rename_i s t x d ho hdst
    rw [ho]
    obtain ⟨y, h1, h⟩ := yd_bind.1 h
    obtain ⟨z, w', g1, S', m', g3, g4⟩ := eBytes_run (P := P) hd (hf d hdst) h (R (yd_opt.1 h1))
    exact ⟨_, _, w', S', m', by simp only [Sem.run_bind, g1, Result.andThen_ok, Sem.run_pure], .inl rfl, g3, g4⟩
  · rename_i t p x ho
    rw [ho]
    obtain ⟨p', h1, h⟩ := yd_bind.1 h
    obtain ⟨x', h2, h⟩ := yd_bind.1 h
    obtain ⟨w', g1, g2, rfl⟩ := eStore_run (P := P) hH h (R (yd_opt.1 h1)) (R (yd_opt.1 h2))
    exact ⟨_, undef, w', S, m, by simp only [Sem.run_bind, g1, Result.andThen_ok, Sem.run_pure], .inr ⟨rfl, rfl⟩, g2, rfl⟩
  · rename_i c ho
    rw [ho]
    obtain ⟨callee, args, tys⟩ := c
    dsimp only at h ⊢
    split at h
    · rename_i x y t tx d ha ht hdst
      obtain ⟨args⟩ := args
      obtain ⟨tys⟩ := tys
      dsimp only at ha ht
      subst ha ht
      obtain ⟨x', h1, h⟩ := yd_bind.1 h
      obtain ⟨y', h2, h⟩ := yd_bind.1 h
      obtain ⟨z, w', g1, S', m', g3, g4⟩ := eAppend_run (P := P) (ty := o.type) hH hd (hf d hdst) h (R (yd_opt.1 h1)) (R (yd_opt.1 h2))
      refine ⟨_, z, w', S', m', ?_, .inl rfl, g3, g4⟩
      simp only [resolve, Sem.run_bind, Sem.run_pure, Result.andThen_ok, invoke, builtin]
      simp [g1]
    · rename_i x y t tx ha ht
      obtain ⟨args⟩ := args
      obtain ⟨tys⟩ := tys
      dsimp only at ha ht
      subst ha ht
      obtain ⟨x', h1, h⟩ := yd_bind.1 h
      obtain ⟨y', h2, h⟩ := yd_bind.1 h
      obtain ⟨z, w', g1, g3, g4⟩ := eCopy_run (P := P) (ty := o.type) hH h (R (yd_opt.1 h1)) (R (yd_opt.1 h2))
      refine ⟨_, z, w', S, m, ?_, .inl rfl, g3, g4⟩
      simp only [resolve, Sem.run_bind, Sem.run_pure, Result.andThen_ok, invoke, builtin]
      simp [g1]
    · exact fail_absurd h
  · exact fail_absurd h
end
end Vam
