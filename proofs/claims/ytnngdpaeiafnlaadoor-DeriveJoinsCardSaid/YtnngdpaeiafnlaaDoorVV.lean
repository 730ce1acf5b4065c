/- Words for proofs over printed paths; a law's call. -/
import Derived.Test.YtnngdpaeiafnlaaDoorVU
import Derived.Below
import Derived.Laws.Bits64
namespace Vam
open Go Pg
set_option linter.unusedVariables false
set_option linter.unusedSimpArgs false

theorem ile_t {a b : Int} : ile a b = true ↔ a ≤ b := by simp [ile]
theorem ile_f {a b : Int} : ile a b = false ↔ b < a := by simp [ile]
theorem ilt_t {a b : Int} : ilt a b = true ↔ a < b := by simp [ilt]
theorem ilt_f {a b : Int} : ilt a b = false ↔ b ≤ a := by simp [ilt]
theorem ieq_t {a b : Int} : ieq a b = true ↔ a = b := by simp [ieq]
theorem ieq_f {a b : Int} : ieq a b = false ↔ ¬ a = b := by simp [ieq]
theorem nle_t {a b : Nat} : nle a b = true ↔ a ≤ b := by simp [nle]
theorem nle_f {a b : Nat} : nle a b = false ↔ b < a := by simp [nle]
theorem nlt_t {a b : Nat} : nlt a b = true ↔ a < b := by simp [nlt]
theorem nlt_f {a b : Nat} : nlt a b = false ↔ b ≤ a := by simp [nlt]
theorem nEq_t {a b : Nat} : nEq a b = true ↔ a = b := by simp [nEq]
theorem nEq_f {a b : Nat} : nEq a b = false ↔ ¬ a = b := by simp [nEq]
theorem bno_t {a : Bool} : bno a = true ↔ a = false := by cases a <;> simp [bno]
theorem bno_f {a : Bool} : bno a = false ↔ a = true := by cases a <;> simp [bno]
theorem bxn_t {a b : Bool} : bxn a b = true ↔ a = b := by simp [bxn]
theorem bxn_f {a b : Bool} : bxn a b = false ↔ ¬ a = b := by simp [bxn]
theorem toList_inj {a b : ByteArray} (h : a.toList = b.toList) : a = b := by
  have e : ∀ c : ByteArray, c.toList = c.data.toList := fun c => Go.ByteArray.toList_eq c
  rw [e, e] at h
  obtain ⟨⟨a⟩⟩ := a
  obtain ⟨⟨b⟩⟩ := b
  simp at h
  rw [h]
theorem seq_t {a b : ByteArray} : seq a b = true ↔ a = b := by
  unfold seq
  rw [beq_iff_eq]
  exact ⟨toList_inj, fun h => by rw [h]⟩
theorem seq_f {a b : ByteArray} : seq a b = false ↔ ¬ a = b := by
  rw [← seq_t]; cases seq a b <;> simp
theorem lieq_t {a b : List Int} : lieq a b = true ↔ a = b := by simp [lieq]
theorem sel_intro {c : Bool} {a b : Prop} (h1 : c = true → a) (h2 : c = false → b) : sel c a b := by cases c; exact h2 rfl; exact h1 rfl
theorem and_t {a b : Bool} : (a && b) = true ↔ a = true ∧ b = true := by simp

theorem iadd64 {a b : Int} (h : -9223372036854775808 ≤ a + b) (h' : a + b < 9223372036854775808) : iadd .i64 a b = a + b := by
  unfold iadd; rw [IntKind.wrap_i64]; omega
theorem isub64 {a b : Int} (h : -9223372036854775808 ≤ a - b) (h' : a - b < 9223372036854775808) : isub .i64 a b = a - b := by
  unfold isub; rw [IntKind.wrap_i64]; omega
theorem imul64 {a b : Int} (h : -9223372036854775808 ≤ a * b) (h' : a * b < 9223372036854775808) : imul .i64 a b = a * b := by
  unfold imul; rw [IntKind.wrap_i64]; omega
theorem icv64 {a : Int} (h : -9223372036854775808 ≤ a) (h' : a < 9223372036854775808) : icv .i64 a = a := by
  unfold icv; rw [IntKind.wrap_i64]; omega
theorem icv8 {a : Int} : icv .u8 a = a % 256 := by unfold icv; rw [IntKind.wrap_u8]
theorem icvu64 {a : Int} : icv .u64 a = a % 18446744073709551616 := by unfold icv; rw [IntKind.wrap_u64]
theorem icvu32 {a : Int} : icv .u32 a = a % 4294967296 := by unfold icv; rw [IntKind.wrap_u32]
theorem bt_range {s : ByteArray} {i : Int} : 0 ≤ bt s i ∧ bt s i < 256 := by
  unfold bt
  split
  · have := (s[i.toNat]'(by assumption)).toNat_lt
    omega
  · omega

theorem wk_of {N : Nat} {G : Nat → Option AV} {K0 : List Nat} {σ τ : St} (R : Rn) (keep : List Nat) (h1 : rnOk R = true) (h2 : keepsK R K0 = true) (h3 : nrm R keep σ = τ) : Wk N G K0 σ τ := by
  subst h3; exact nrm_wk h1 h2

/-- A call of a law: nothing that was there is changed. -/
theorem law_call {P : Program} {f : FuncId} {fn : Func} {as : List AV} {r : SV} {L' : Hp} {w : World} {vs : List Value} (h : Snd P (fun _ => none) f as [] r L') (hf : P.funcs[f]? = some fn) (hname : (fn.name == "runtime.NumGoroutine") = false) (hb : fn.body.isSome = true)
    (hA : RepAs (fun _ => False) (fun _ => none) w as vs) :
    Calls P f vs.toArray w fun e w' => ∃ v, e = .returned v ∧ RowKit.Below w.heap.size w w' ∧ ∃ S' m', RepS S' m' w' r v := by
  obtain ⟨c, hc⟩ := Option.isSome_iff_exists.1 hb
  have hent : (callFunc f vs.toArray).run P w = .ok (.enter f vs.toArray) w := by
    simp [callFunc, hf, (show fn.name ≠ "runtime.NumGoroutine" by simpa using hname), hc]
  have := h (fun _ => False) (fun _ => none) w vs (fun g x hx => (by cases hx)) hA ⟨fun b B hb => (by cases hb), fun b b' B B' p p' hb => (by cases hb)⟩ (fun _ _ => rfl)
  rcases this with ⟨_, h2⟩ | ⟨v, w', h1, _⟩
  · refine Calls.mono h2 fun e w' he => ?_
    cases e with
    | returned v =>
      obtain ⟨S', m', hT, _, _, hr⟩ := he
      exact ⟨v, rfl, ⟨hT.mv.sm.os, hT.mv.sm.tape, hT.mv.sm.output, hT.mv.size, fun k hk => (hT.mv.fro k hk (fun h => h)).2⟩, S', m', hr⟩
    | panicked => exact he.elim
    | outgrown => exact he.elim
  · rw [hent] at h1; cases h1

theorem law_true {P : Program} {f : FuncId} {fn : Func} {as : List AV} {L' : Hp} {w : World} {vs : List Value} (h : Snd P (fun _ => none) f as [] (.av (vb true)) L') (hf : P.funcs[f]? = some fn) (hname : (fn.name == "runtime.NumGoroutine") = false) (hb : fn.body.isSome = true)
    (hA : RepAs (fun _ => False) (fun _ => none) w as vs) :
    Calls P f vs.toArray w fun e w' => e = .returned (.bool true) ∧ RowKit.Below w.heap.size w w' :=
  Calls.mono (law_call h hf hname hb hA) fun e w' ⟨v, h1, h2, S', m', h3⟩ => by
    obtain ⟨rfl, _⟩ := repS_v.1 h3
    exact ⟨h1, h2⟩
end Vam
