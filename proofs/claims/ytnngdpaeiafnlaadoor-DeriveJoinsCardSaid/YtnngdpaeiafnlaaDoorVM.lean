/- Events: memory made, memory written. -/
import Derived.Test.YtnngdpaeiafnlaaDoorVL
namespace Vam
open Go Pg
set_option linter.unusedVariables false
set_option linter.unusedSimpArgs false

/-- An element type's kind, its zero value held against the machine's. -/
def zeroK (P : Program) (e : TypeId) : Option K :=
  (kindOf P 20 e).bind fun k => match (P.info? e).bind (·.zero), flatD k k.dflt, szOf P e with
    | some z, some cs, some n => match vsEq z.cells.toList cs && Nat.beq n k.sz with
      | true => some k
      | false => none
    | _, _, _ => none

def nums (s : ByteArray) : List Int := s.data.toList.map fun b => (b.toNat : Int)

/-- What is appended or copied: a slice's content, a string's bytes. -/
def content2 (P : Program) (H : Hp) (k : K) (t : TypeId) (y : SV) : Pg (List k.T) :=
  match P.underlying t with
  | some (.slice _) => content H k y
  | some .string => match asSt y with
    | some s => opt (castL (.int .u8) k (nums s))
    | none => .fail
  | _ => .fail

def rowSV (d n s : Nat) : SV := .av (.one (.own d 0 0 n s))

def eAlloc (P : Program) (d : Nat) (t : TypeId) : Pg (SV × Hp) :=
  match zeroOf P t with
  | some l => .ret (.av (.one (.ptr d 0 0 0 0)), [(d, .cells t l)])
  | none => .fail

def eBox (d : Nat) (t : TypeId) (x : SV) : Pg (SV × Hp) :=
  match allLeaves x with
  | some l => .ret (.av (.one (.ptr d 0 0 0 0)), [(d, .cells t l)])
  | none => .fail

def eRow (P : Program) (d : Nat) (t : TypeId) (n : Nat) (parts : List (Nat × SV)) : Pg (SV × Hp) :=
  match P.underlying t with
  | some (.slice e) => match zeroK P e, partLeaves parts with
    | some k, some pl => (sure (Nat.ble (n * k.sz) 16777216)).bind fun _ =>
      (opt (putElems k (List.replicate n k.dflt) pl)).bind fun l => .ret (rowSV d n k.sz, [(d, .row e k l)])
    | _, _ => .fail
  | _ => .fail

def eMake (P : Program) (d : Nat) (t : TypeId) (l c : SV) : Pg (SV × Hp) :=
  match P.underlying t with
  | some (.slice e) => match zeroK P e, P.info? e, asI l, asI c with
    | some k, some i, some (_, l), some (_, c) => (sure (Nat.ble 1 i.bytes)).bind fun _ => (need (ile 0 l)).bind fun _ => (need (ile l c)).bind fun _ =>
      (need (ile (Int.mul (i.bytes : Int) c) 281474976710656)).bind fun _ => .ret (rowSV d l.toNat k.sz, [(d, .row e k (List.replicate l.toNat k.dflt))])
    | _, _, _, _ => .fail
  | _ => .fail

def eBytes (P : Program) (d : Nat) (s t : TypeId) (x : SV) : Pg (SV × Hp) :=
  match P.underlying s, P.underlying t, asSt x with
  | some .string, some (.slice e), some b => match P.underlying e with
    | some (.int .u8) => .ret (rowSV d b.size 1, [(d, .row e (.int .u8) (nums b))])
    | _ => .fail
  | _, _, _ => .fail

/-- An element with some cells new. -/
def newElem (k : K) (old : k.T) (r n : Nat) (new : List Lf) : Option k.T :=
  match Nat.beq r 0 && Nat.beq n k.sz with
  | true => dec k new
  | false => (putSegs (leafs k old) r n new).bind (dec k)

def eStore (P : Program) (H : Hp) (t : TypeId) (p x : SV) : Pg (SV × Hp) :=
  match p, allLeaves x, szOf P t with
  | .av (.one (.ptr b o i s r)), some new, some n => (sure (Nat.beq (wsum new) n)).bind fun _ =>
    match s with
    | 0 => match hg H b with
      | some (.cells ty l) => (opt (putSegs l (o + r) n new)).bind fun l' => .ret (.un, [(b, .cells ty l')])
      | _ => .fail
    | s + 1 => match viewArr H b o with
      | some V => (sure (Nat.beq V.k.sz (s + 1) && Nat.ble (r + n) V.k.sz)).bind fun _ => (need (nlt i V.n)).bind fun _ =>
        (opt (newElem V.k (gd V.k V.x i) r n new)).bind fun y => (opt (V.back (V.x.set i y))).bind fun B => .ret (.un, [(b, B)])
      | none => .fail
  | _, _, _ => .fail

/-- A row goes on under a new name, longer. -/
def eLonger (d b : Nat) (e : TypeId) (bytes s n : Nat) (k : K) (l ys : List k.T) : Pg (SV × Hp) :=
  (need (nEq n (List.length l))).bind fun _ => (need (nle (List.length (List.append l ys)) 9223372036854775807)).bind fun _ => (need (nle ((List.length (List.append l ys)) * bytes) 140737488355328)).bind fun _ =>
  .ret (rowSV d (List.length (List.append l ys)) s, [(b, .dead), (d, .row e k (List.append l ys))])

def eAppend (P : Program) (H : Hp) (d : Nat) (t tx : TypeId) (x y : SV) : Pg (SV × Hp) :=
  match P.underlying t with
  | some (.slice e) => match zeroK P e, P.info? e with
    | some k, some inf => (content2 P H k tx y).bind fun ys =>
      match x with
      | .av (.one (.v (.slice none 0 0))) => (need (nle (List.length ys) 9223372036854775807)).bind fun _ => (need (nle (List.length ys * inf.bytes) 140737488355328)).bind fun _ => .ret (rowSV d ys.length k.sz, [(d, .row e k ys)])
      | .av (.one (.own b 0 i n s)) => match hg H b with
        | some (.row ty k' l) => (sure (Nat.beq s k.sz && Nat.beq ty e)).bind fun _ => (opt (castL k' k l)).bind fun l =>
          .pick fun c => match c with
            | true => (need (Nat.beq i 0)).bind fun _ => eLonger d b e inf.bytes s n k l ys
            | false => (need (nle i (List.length l))).bind fun _ => eLonger d b e inf.bytes s n k (List.drop i l) ys
        | _ => .fail
      | _ => .fail
    | _, _ => .fail
  | _ => .fail

def eCopy (P : Program) (H : Hp) (t tx : TypeId) (x y : SV) : Pg (SV × Hp) :=
  match P.underlying t, x with
  | some (.slice e), .av (.one (.own b o i n s)) => match viewArr H b o, szOf P e with
    | some V, some z => (sure (Nat.beq V.k.sz s && Nat.beq z s)).bind fun _ => (content2 P H V.k tx y).bind fun ys => (need (nle (i + n) V.n)).bind fun _ =>
      .ask (nle (List.length ys) n) fun c => match c with
        | true => (opt (V.back (over V.x i ys))).bind fun B => .ret (vv (.int .i64 (llen ys)), [(b, B)])
        | false => (opt (V.back (over V.x i (ys.take n)))).bind fun B => .ret (vv (.int .i64 (n : Int)), [(b, B)])
    | _, _ => .fail
  | _, _ => .fail

def estep (P : Program) (G : Nat → Option AV) (H : Hp) (tm : Tm) (dst : Option Nat) (op : Op) : Pg (SV × Hp) :=
  match op, dst with
  | .alloc t, some d => eAlloc P d t
  | .box t x, some d => (opt (opd G tm x)).bind fun x => eBox d t x
  | .buildSlice t n parts, some d => (opt (opdP G tm parts.toList)).bind fun ps => eRow P d t n ps
  | .makeSlice t l c, some d => (opt (opd G tm l)).bind fun l => (opt (opd G tm c)).bind fun c => eMake P d t l c
  | .convert s t x, some d => (opt (opd G tm x)).bind fun x => eBytes P d s t x
  | .store t p x, _ => (opt (opd G tm p)).bind fun p => (opt (opd G tm x)).bind fun x => eStore P H t p x
  | .call c, d => match c.callee, c.args.toList, c.argTypes.toList, d with
    | .builtin .append, [x, y], [t, tx], some d => (opt (opd G tm x)).bind fun x => (opt (opd G tm y)).bind fun y => eAppend P H d t tx x y
    | .builtin .copy, [x, y], [t, tx], _ => (opt (opd G tm x)).bind fun x => (opt (opd G tm y)).bind fun y => eCopy P H t tx x y
    | _, _, _, _ => .fail
  | _, _ => .fail

section
variable {S S' : Nat → Prop} {m m' : Mp} {w w' : World} {P : Program} {C : FuncId → List AV → Hp → SV → Hp → Prop} {L : Code → St → Ex → St → Prop} {H : Hp}

theorem zeroK_rep {e : TypeId} {k : K} (h : zeroK P e = some k) : ∃ i z, P.info? e = some i ∧ i.zero = some z ∧ i.size = k.sz ∧ ∀ S w, RepD S w k k.dflt z.cells.toList := by
  unfold zeroK at h
  simp only [Option.bind_eq_some_iff] at h
  obtain ⟨k', h1, h2⟩ := h
  split at h2
  · rename_i z cs n hz hc hn
    split at h2
    · rename_i he
      simp only [Bool.and_eq_true] at he
      simp only [Option.some.injEq] at h2; subst h2
      have he1 := vsEq_eq he.1
      have he2 := Nat.eq_of_beq_eq_true he.2
      simp only [Option.bind_eq_some_iff] at hz
      obtain ⟨i, hi, hz⟩ := hz
      refine ⟨i, z, hi, hz, ?_, fun S w => by rw [he1]; exact flatD_rep hc⟩
      unfold szOf at hn
      rw [hi] at hn
      simp at hn
      omega
    · cases h2
  · cases h2

theorem made_rep {k : K} {z : Array Value} {n : Nat} (hz : RepD S w k k.dflt z.toList) : RepD S w (.arr n k) (List.replicate n k.dflt : List k.T) (madeCells z (n * k.sz)).toList := by
  have hl : z.size = k.sz := by have := hz.length; simpa using this
  refine ⟨by show (List.replicate n k.dflt).length = n; simp, by simp [madeCells], fun i hi => ?_⟩
  have : gd k (List.replicate n k.dflt) i = k.dflt := by
    unfold gd; simp only [List.getD_eq_getElem?_getD, List.getElem?_replicate, hi, if_true]; rfl
  rw [this]
  have hle : (i + 1) * k.sz ≤ n * k.sz := Nat.mul_le_mul_right _ (by omega)
  rw [Nat.add_mul, Nat.one_mul] at hle
  have e : (((madeCells z (n * k.sz)).toList.drop (i * k.sz)).take k.sz) = z.toList := by
    apply List.ext_getElem?
    intro q
    rw [List.getElem?_take]
    split
    · rename_i hq
      rw [List.getElem?_drop]
      have : (i * k.sz + q) % k.sz = q := by rw [Nat.mul_comm, Nat.mul_add_mod, Nat.mod_eq_of_lt hq]
      simp [madeCells, show i * k.sz + q < n * k.sz from by omega, hl, this, hq]
    · rename_i hq
      rw [List.getElem?_eq_none (by simp; omega)]
  rw [e]; exact hz

theorem heap_new (w : World) (o : Obj) : (w.alloc o).heap[w.heap.size]? = some o := by show (w.heap.push o)[w.heap.size]? = some o; simp
theorem heap_old (w : World) (o : Obj) {c : Nat} (h : c < w.heap.size) : (w.alloc o).heap[c]? = w.heap[c]? := by
  show (w.heap.push o)[c]? = w.heap[c]?
  rw [Array.getElem?_push, if_neg (by omega)]

theorem frOk0 (n : Nat) : FrOk (0, 0) n := fun j _ => by simp

/-- A new block of leaves. -/
theorem ev_cells {d : Nat} {t : TypeId} {l : List Lf} {cs : Array Value} (hd : m d = none) (hl : RepLs S m w l cs.toList) :
    ∃ S' m', Ev S m w H S' m' (w.alloc (.cells cs t)) [(d, .cells t l)] ∧ RepS S' m' (w.alloc (.cells cs t)) (.av (.one (.ptr d 0 0 0 0))) (.pointer (some ⟨w.heap.size, 0, none⟩)) := by
  have hmv : Mv S m w (addS S w.heap.size) (setm m d (w.heap.size, 0)) (w.alloc (.cells cs t)) := mv_new (o := .cells cs t) hd ⟨by simp, ⟨rfl, rfl, rfl⟩⟩ (fun c hc => heap_old w _ hc)
  refine ⟨_, _, ev_new (o := .cells cs t) hd ⟨by simp, ⟨rfl, rfl, rfl⟩⟩ (fun c hc => heap_old w _ hc) ?_, (repS_one rfl).2 ⟨w.heap.size, 0, setm_eq, rfl⟩⟩
  exact ⟨w.heap.size, cs, (0, 0), rfl, heap_new w _, frOk0 _, .inr rfl, RepLs.mv hmv hl⟩

/-- A new row. -/
theorem ev_row {d n cap : Nat} {e : TypeId} {k : K} {l : List k.T} {cs : Array Value} {fr : Nat × Nat} {w' : World} (hd : m d = none) (hs : w'.heap.size = w.heap.size + 1 ∧ Same w w') (hold : ∀ c, c < w.heap.size → w'.heap[c]? = w.heap[c]?)
    (hnew : w'.heap[w.heap.size]? = some (.cells cs e fr)) (hfr : FrOk fr cs.size) (hn : l.length = n) (hcap : n ≤ cap) (hsz : cs.size = cap * k.sz) (hl : RepD S w (.arr n k) l (cs.toList.take (n * k.sz))) :
    ∃ S' m', Ev S m w H S' m' w' [(d, .row e k l)] ∧ RepS S' m' w' (rowSV d n k.sz) (.slice (some ⟨w.heap.size, 0, none⟩) n cap) := by
  have hmv : Mv S m w (addS S w.heap.size) (setm m d (w.heap.size, 0)) w' := mv_new (o := .cells cs e) hd hs hold
  have hle : n * k.sz ≤ cap * k.sz := Nat.mul_le_mul_right _ hcap
  refine ⟨_, _, ev_new (o := .cells cs e) hd hs hold ?_, (repS_one rfl).2 ⟨_, cap, rfl, hcap, .inr ⟨w.heap.size, 0, e, cs.size, setm_eq, by simp, ?_, by rw [hsz]; simp⟩⟩⟩
  · have h1 := (row_view (S := addS S w.heap.size) (w := w') (base := 0) (n := n) (k := k) (l := l) (cs := cs.toList) hn).2 ⟨by simp; omega, by rw [List.drop_zero]; exact RepD.mv hmv hl⟩
    exact .inr ⟨w.heap.size, 0, cs, fr, rfl, hnew, hfr, .inr rfl, by simp; rw [hn]; omega, fun i hi => by rw [hn] at hi; exact h1.2 i hi⟩
  · simp only [World.shape?, hnew]

theorem eAlloc_run {d : Nat} {t : TypeId} {r : SV} {U : Hp} (hd : ∀ d, d ∈ keys U → hg H d = none → m d = none) (hf : hg H d = none) (h : Yd C L (eAlloc P d t) (r, U)) :
    ∃ z w', (zeroValue t).run P w = .ok z w ∧ (newVar t z).run P w = .ok ⟨w.heap.size, 0, none⟩ w' ∧ ∃ S' m', Ev S m w H S' m' w' U ∧ RepS S' m' w' r (.pointer (some ⟨w.heap.size, 0, none⟩)) := by
  unfold eAlloc at h
  split at h
  · rename_i l hl
    obtain ⟨rfl, rfl⟩ := Prod.mk.inj (yd_ret.1 h)
    obtain ⟨z, h1, h2⟩ := zeroOf_rep hl
    exact ⟨z, _, h1 w, by simp [newVar, newRow], ev_cells (hd d (by simp [keys]) hf) (h2 S m w)⟩
  · exact fail_absurd h

theorem eBox_run {d : Nat} {t : TypeId} {x r : SV} {v : Value} {U : Hp} (hd : ∀ d, d ∈ keys U → hg H d = none → m d = none) (hf : hg H d = none) (h : Yd C L (eBox d t x) (r, U)) (hx : RepS S m w x v) :
    ∃ w', (newVar t v).run P w = .ok ⟨w.heap.size, 0, none⟩ w' ∧ ∃ S' m', Ev S m w H S' m' w' U ∧ RepS S' m' w' r (.pointer (some ⟨w.heap.size, 0, none⟩)) := by
  unfold eBox at h
  split at h
  · rename_i l hl
    obtain ⟨rfl, rfl⟩ := Prod.mk.inj (yd_ret.1 h)
    exact ⟨_, by simp [newVar, newRow], ev_cells (hd d (by simp [keys]) hf) (allLeaves_rep hl hx)⟩
  · exact fail_absurd h

theorem eRow_run {d n : Nat} {t : TypeId} {parts : List (Nat × SV)} {r : SV} {U : Hp} {ps : Array (Nat × Value)} (hd : ∀ d, d ∈ keys U → hg H d = none → m d = none) (hf : hg H d = none) (h : Yd C L (eRow P d t n parts) (r, U)) (hp : RepP S m w parts ps.toList) :
    ∃ z w', (Instr.buildSlice t n ps).run P w = .ok z w' ∧ ∃ S' m', Ev S m w H S' m' w' U ∧ RepS S' m' w' r z := by
  unfold eRow at h
  split at h
  · rename_i e hu
    split at h
    · rename_i k pl hk hpl
      obtain ⟨_, h0, h⟩ := yd_bind.1 h
      have h0 := Nat.le_of_ble_eq_true (yd_sure.1 h0)
      obtain ⟨l, h1, h⟩ := yd_bind.1 h
      have h1 := yd_opt.1 h1
      obtain ⟨rfl, rfl⟩ := Prod.mk.inj (yd_ret.1 h)
      obtain ⟨i, z, hi, hz, hsz, hrep⟩ := zeroK_rep hk
      have hz0 : RepD S w (.arr n k) (List.replicate n k.dflt : List k.T) (madeCells z.cells (n * k.sz)).toList := made_rep (hrep S w)
      obtain ⟨cells', f1, f2⟩ := putElems_fill hpl h1 hz0 hp
      have hsize : cells'.size = n * k.sz := by have := f2.2.1; simpa using this
      have hrun : (Instr.buildSlice t n ps).run P w = .ok (.slice (some ⟨w.heap.size, 0, none⟩) n n) (w.alloc (.cells cells' e)) := by
        by_cases hpos : n * i.size = 0
        · have e0 : (madeCells z.cells (n * k.sz)) = #[] := by rw [← hsz, hpos]; simp [madeCells]
          rw [e0, ← hsz] at f1
          simp [Instr.buildSlice, run_underlying hu, Go.sizeOf, typeInfo, hi, hpos, newRow, f1, Array.range_zero']
        · exact run_buildSlice w t e n ps cells' i z hu hi hz (by rw [hsz]; omega) hpos (by rw [hsz]; exact f1)
      refine ⟨_, _, hrun, ev_row (cap := n) (hd d (by simp [keys]) hf) ⟨by simp, ⟨rfl, rfl, rfl⟩⟩ (fun c hc => heap_old w _ hc) (heap_new w _) (frOk0 _) f2.1 (Nat.le_refl _) hsize ?_⟩
      rw [List.take_of_length_le (by simp; omega)]
      exact f2
    · exact fail_absurd h
  · exact fail_absurd h

theorem eMake_run {d : Nat} {t : TypeId} {x y r : SV} {U : Hp} {v u : Value} (hd : ∀ d, d ∈ keys U → hg H d = none → m d = none) (hf : hg H d = none) (h : Yd C L (eMake P d t x y) (r, U)) (hx : RepS S m w x v) (hy : RepS S m w y u) :
    ∃ z w', (Instr.makeSlice t v u).run P w = .ok z w' ∧ ∃ S' m', Ev S m w H S' m' w' U ∧ RepS S' m' w' r z := by
  unfold eMake at h
  split at h
  · rename_i e hu
    split at h
    · rename_i k i _ l _ c hk hi hl hc
      obtain rfl := asI_rep hl hx
      obtain rfl := asI_rep hc hy
      obtain ⟨_, h0, h⟩ := yd_bind.1 h
      obtain ⟨_, h1, h⟩ := yd_bind.1 h
      obtain ⟨_, h2, h⟩ := yd_bind.1 h
      obtain ⟨_, h3, h⟩ := yd_bind.1 h
      have h0 := Nat.le_of_ble_eq_true (yd_sure.1 h0)
      have h1 := of_decide_eq_true (yd_need.1 h1)
      have h2 := of_decide_eq_true (yd_need.1 h2)
      have h3 : (i.bytes : Int) * c ≤ 281474976710656 := of_decide_eq_true (yd_need.1 h3)
      obtain ⟨rfl, rfl⟩ := Prod.mk.inj (yd_ret.1 h)
      obtain ⟨i', z, hi', hz, hsz, hrep⟩ := zeroK_rep hk
      rw [hi] at hi'
      simp only [Option.some.injEq] at hi'
      subst hi'
      have h63 : c ≤ 9223372036854775807 := by
        have : 1 * c ≤ (i.bytes : Int) * c := Int.mul_le_mul_of_nonneg_right (by omega) (by omega)
        omega
      have hrun := run_make (P := P) w t e i z hu hi hz ‹_› ‹_› l c h1 h2 h3 h63
      refine ⟨_, _, hrun, ev_row (cap := c.toNat) (hd d (by simp [keys]) hf) ⟨by simp, ⟨rfl, rfl, rfl⟩⟩ (fun c hc => heap_old w _ hc) (heap_new w _) (frOk0 _) (by simp) (by omega) (by rw [size_madeCells, hsz]) ?_⟩
      have hz0 : RepD S w (.arr c.toNat k) (List.replicate c.toNat k.dflt : List k.T) (madeCells z.cells (c.toNat * k.sz)).toList := made_rep (hrep S w)
      have := arr_take hz0 (show l.toNat ≤ c.toNat by omega)
      rw [List.take_replicate, Nat.min_eq_left (by omega)] at this
      rw [hsz]
      exact this
    · exact fail_absurd h
  · exact fail_absurd h

theorem nums_length (s : ByteArray) : (nums s).length = s.size := by
  simp only [nums, List.length_map, Array.length_toList]; rfl
theorem nums_cells {s : ByteArray} : RepD S w (.arr s.size (.int .u8)) (nums s : List Int) (byteCells s) := by
  refine ⟨nums_length s, by rw [byteCells_length]; exact (Nat.mul_one _).symm, fun i hi => ?_⟩
  have hi2 : i < (byteCells s).length := by rw [byteCells_length]; exact hi
  have e : gd (.int .u8) (nums s) i = (nums s)[i]'(by rw [nums_length]; exact hi) := gd_lt (e := .int .u8) (l := nums s) (Nat.lt_of_lt_of_eq hi (nums_length s).symm)
  show ((byteCells s).drop (i * 1)).take 1 = [Value.int .u8 (gd (.int .u8) (nums s) i)]
  rw [e, Nat.mul_one, List.drop_eq_getElem_cons hi2]
  simp [nums, byteCells]

theorem eBytes_run {d : Nat} {s t : TypeId} {x r : SV} {U : Hp} {v : Value} (hd : ∀ d, d ∈ keys U → hg H d = none → m d = none) (hf : hg H d = none) (h : Yd C L (eBytes P d s t x) (r, U)) (hx : RepS S m w x v) :
    ∃ z w', (convert s t v).run P w = .ok z w' ∧ ∃ S' m', Ev S m w H S' m' w' U ∧ RepS S' m' w' r z := by
  unfold eBytes at h
  split at h
  · rename_i e b hs ht hb
    obtain rfl := asSt_rep hb hx
    split at h
    · rename_i he
      obtain ⟨rfl, rfl⟩ := Prod.mk.inj (yd_ret.1 h)
      have hcap := grownCap_ge w b.size 0 e
      have hsz : (bytesRow b (grownCap w b.size 0 e)).size = grownCap w b.size 0 e := by
        simp [bytesRow]
        show b.size + _ = _
        omega
      refine ⟨_, _, run_bytes_of_string w s t e b hs ht he, ev_row (k := .int .u8) (cap := grownCap w b.size 0 e) (hd d (by simp [keys]) hf) ⟨World.size_alloc w.drew _, ⟨rfl, rfl, rfl⟩⟩ (fun c hc => ?_) (heap_new w.drew _) ?_ (nums_length b) hcap (by simp [K.sz, hsz]) ?_⟩
      · exact heap_old w.drew _ hc
      · intro j hj
        simp; omega
      · have e1 : (bytesRow b (grownCap w b.size 0 e)).toList.take (b.size * 1) = byteCells b := by
          simp only [bytesRow, Array.toList_append, Array.toList_map, Nat.mul_one, byteCells]
          rw [List.take_append_of_le_length (by simp), List.take_of_length_le (by simp)]
        show RepD S w (.arr b.size (.int .u8)) (nums b : List Int) ((bytesRow b (grownCap w b.size 0 e)).toList.take (b.size * 1))
        rw [e1]; exact nums_cells
    · exact fail_absurd h
  · exact fail_absurd h
end
end Vam
