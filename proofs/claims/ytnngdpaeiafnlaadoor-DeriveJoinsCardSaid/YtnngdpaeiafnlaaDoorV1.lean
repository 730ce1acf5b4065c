/- Rows of tied cards: what package variables hold, weights, a law's call with variables. -/
import Derived.Test.YtnngdpaeiafnlaaDoorVZ
import Derived.Test.YtnngdpaeiafnlaaDoorVV
import Derived.Test.YtnngdpaeiafnlaaDoorVX
import Derived.Lib.LaidTab
import Derived.Lib.LaidU8
import Derived.LaidMore
namespace Vam
open Go Pg Go.WideShapes
set_option linter.unusedVariables false
set_option linter.unusedSimpArgs false

/-- A law's call, over package variables. -/
theorem law_trueG {P : Program} {f : FuncId} {fn : Func} {xs : List AV} {G : Nat → Option AV} {L' : Hp} {w : World} {vs : List Value} (h : Snd P G f xs [] (.av (vb true)) L') (hf : P.funcs[f]? = some fn) (hname : (fn.name == "runtime.NumGoroutine") = false) (hb : fn.body.isSome = true)
    (hG : RepG (fun _ => False) (fun _ => none) w G) (hA : RepAs (fun _ => False) (fun _ => none) w xs vs) :
    Calls P f vs.toArray w fun e w' => e = .returned (.bool true) ∧ RowKit.Below w.heap.size w w' := by
  obtain ⟨c, hc⟩ := Option.isSome_iff_exists.1 hb
  have hent : (callFunc f vs.toArray).run P w = .ok (.enter f vs.toArray) w := by
    simp [callFunc, hf, (show fn.name ≠ "runtime.NumGoroutine" by simpa using hname), hc]
  have := h (fun _ => False) (fun _ => none) w vs hG hA ⟨fun b B hb => (by cases hb), fun b b' B B' p p' hb => (by cases hb)⟩ (fun _ _ => rfl)
  rcases this with ⟨_, h2⟩ | ⟨v, w', h1, _⟩
  · refine Calls.mono h2 fun e w' he => ?_
    cases e with
    | returned v =>
      obtain ⟨S', m', hT, _, _, hr⟩ := he
      obtain ⟨rfl, _⟩ := repS_v.1 hr
      exact ⟨rfl, ⟨hT.mv.sm.os, hT.mv.sm.tape, hT.mv.sm.output, hT.mv.size, fun k hk => (hT.mv.fro k hk (fun h => h)).2⟩⟩
    | panicked => exact he.elim
    | outgrown => exact he.elim
  · rw [hent] at h1; cases h1

/-- A table of numbers that a variable holds. -/
theorem repG_tab {P : Program} {w : World} {name : String} {k : IntKind} {zs : List Int} {n g : Nat} (h : Lib.TabIs P w name k zs) (hg : P.globalNamed name = some g) (hn : zs.length = n) (h0 : 0 < n) :
    RepA (fun _ => False) (fun _ => none) w (.one (.fp (.arr n (.int k)) zs 0)) (.pointer (some ⟨g, 0, none⟩)) := by
  have hz : ∀ i, i < n → w.cell? ⟨g, i, none⟩ = some (.int k (zs.getD i 0)) := fun i hi => h.cell hg i (by omega)
  have hlt : g < w.heap.size := by
    obtain ⟨c, off, e, hc⟩ := spot_none (hz 0 h0)
    cases e; exact hc
  refine (show RepL (fun _ => False) (fun _ => none) w (.fp (.arr n (.int k)) zs 0) [.pointer (some ⟨g, 0, none⟩)] from ?_)
  refine ⟨g, 0, zs.map fun z => Value.int k z, rfl, fun h => h, hlt, ⟨hn, by simp [K.sz, hn], fun i hi => ?_⟩, fun j v hj => ?_⟩
  · show List.take (K.sz (.int k)) (List.drop (i * K.sz (.int k)) (zs.map fun z => Value.int k z)) = [Value.int k (gd (.int k) zs i)]
    have e1 : K.sz (.int k) = 1 := rfl
    rw [e1, Nat.mul_one]
    have hi' : i < zs.length := by omega
    have hl : i < (zs.map fun z => Value.int k z).length := by simpa using hi'
    rw [List.drop_eq_getElem_cons hl]
    simp only [List.take_succ_cons, List.take_zero, List.getElem_map]
    congr 2
    show zs[i] = zs.getD i 0
    rw [List.getD_eq_getElem?_getD, List.getElem?_eq_getElem hi']; rfl
  · rw [List.getElem?_map] at hj
    obtain ⟨z, h1, rfl⟩ := Option.map_eq_some_iff.1 hj
    have hjl : j < n := by
      have := (List.getElem?_eq_some_iff.1 h1).1
      omega
    have := hz j hjl
    rw [Nat.zero_add, this, List.getD_eq_getElem?_getD, h1]
    rfl

theorem tabIs_of_reads {P : Program} {W : World} {name : String} {k : IntKind} {zs : List Int} {l : List (String × DataW Unit)} {g : Nat} {t e : TypeId} {n : Nat}
    (hg : P.globalNamed name = some g) (hty : (P.globals[g]?).map (·.type) = some t) (ht : P.underlying t = some (.array n e)) (he : P.underlying e = some (.int k)) (hce : P.cellsOf e = 1) (hct : P.cellsOf t = n)
    (h : laidMet P l W) (hm : (name, Lib.tabData k zs) ∈ l) : Lib.TabIs P W name k zs := by
  obtain ⟨g', t', cs, fuel, p, hg', ht', hvar, hd⟩ := Lib.laidMet.reads h hm
  obtain rfl := Option.some.inj (hg.symm.trans hg')
  obtain rfl := Option.some.inj (hty.symm.trans ht')
  unfold Lib.TabIs
  rw [hvar, ← Lib.cells_of_tab ht he hce hct hd]

/-- What is handed in as a slice takes no more room than may be. -/
theorem slice_weight {H : Type} {enc : TypeId × Value → H} {P : Program} {w : World} {base : Nat} {sp : Nat → Bool} {held : Bool} {t e : TypeId} {a : Option Addr} {n cap : Nat} {d : DataW H} {ps : List MemPlace} (hu : P.underlying t = some (.slice e))
    (h : DataW.Trod enc P w base sp held t (.slice a n cap) d ps) (hs : ∀ m, m ∈ d.weights P t → m ≤ reachBytes) : n * P.bytesOf e ≤ reachBytes := by
  obtain ⟨fuel, hf⟩ := h
  cases fuel with
  | zero => simp [DataW.trod] at hf
  | succ fuel =>
    rcases DataW.trod_slice hu hf with ⟨h1, _⟩ | ⟨a', len, cap', elems, rest, m, _, h1, h2, hb, hl, hm, hlen, hel, hsp, hns⟩
    · have h1 : [Value.slice a n cap] = _ := h1
      simp at h1
      obtain ⟨_, rfl, _⟩ := h1
      simp
    · have h1 : [Value.slice a n cap] = _ := h1
      simp at h1
      obtain ⟨_, rfl, _⟩ := h1
      obtain ⟨rfl, rfl⟩ : d = _ ∧ ps = _ := by simpa using h2
      have := hs _ (by simp only [DataW.weights, hu]; exact List.mem_cons_self)
      refine Nat.le_trans (Nat.mul_le_mul_right _ ?_) this
      simp
      omega
end Vam
