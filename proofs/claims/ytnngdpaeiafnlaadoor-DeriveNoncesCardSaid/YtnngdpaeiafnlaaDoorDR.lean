/- A part of the proof that the laws of this seat hold for every input; no conditions of its own. -/
import Derived.Test.YtnngdpaeiafnlaaDoorDM
import Derived.Test.YtnngdpaeiafnlaaDoorV1
import Derived.Test.YtnngdpaeiafnlaaDoorRows
import Derived.Test.YtnngdpaeiafnlaaDoorTie
import Derived.Test.YtnngdpaeiafnlaaDoorCards
import Derived.ShutString
import Derived.ChangeOld
open Go Vam Vam.Pg Go.Proofs
set_option linter.unusedVariables false
set_option linter.unusedSimpArgs false
namespace Go.Proofs.YtnngdpaeiafnlaaDoor
theorem laidOut : laidOutB Tryd.prog = true := by kernel_rfl
def laidL : List (String × DataW Unit) := [("billet/sha.first", Lib.tabData .u32 firstL), ("billet/sha.constants", Lib.tabData .u32 constL)]
theorem door_met (os : Os) (args : Array Value) : laidMetH Tryd.prog laidL ((World.doorLaid Tryd.prog 400 os).forCall (fun _ _ => 0) ⟨#[], args, []⟩).memory :=
  laidMetH_of_parts3 (fuel := 8) (laidMet_of_run' 8 (by kernel_rfl) (by kernel_rfl)) (by kernel_rfl) (by kernel_rfl)
theorem repG {W : World} (hL : laidMetH Tryd.prog laidL W) : RepG (fun _ => False) (fun _ => none) W noG := by
  rw [MakeChecks.laidMetH_plain _ _ _ (by kernel_rfl)] at hL
  have h0 : Lib.TabIs Tryd.prog W "billet/sha.first" .u32 firstL := tabIs_of_reads (g := 0) (t := 56) (e := 23) (n := 8) (by kernel_rfl) (by kernel_rfl) (by kernel_rfl) (by kernel_rfl) (by kernel_rfl) (by kernel_rfl) hL List.mem_cons_self
  have h1 : Lib.TabIs Tryd.prog W "billet/sha.constants" .u32 constL := tabIs_of_reads (g := 1) (t := 59) (e := 23) (n := 64) (by kernel_rfl) (by kernel_rfl) (by kernel_rfl) (by kernel_rfl) (by kernel_rfl) (by kernel_rfl) hL (List.mem_cons_of_mem _ List.mem_cons_self)
  intro g x hx
  match g, hx with
  | 0, hx => cases hx; exact repG_tab h0 (by kernel_rfl) rfl (by decide)
  | 1, hx => cases hx; exact repG_tab h1 (by kernel_rfl) rfl (by decide)
  | n + 2, hx => cases hx
abbrev kA : K := .pair .str (.pair (.sl .str) (.pair (.int .u32) (.pair (.int .u64) .unit)))
abbrev kB : K := .pair (.int .u32) (.pair (.int .u32) (.pair (.int .u64) (.pair (.int .u64) .unit)))
theorem law3 (y : kA.T) (w : Wf kA y) : f3_m y.1 y.2.1 y.2.2.1 y.2.2.2.1 = some true := tells w.2.1 (wf_u32 w.2.2.1)
theorem law4 (a b : (K.sl .str).T) (wa : Wf (.sl .str) a) (wb : Wf (.sl .str) b) : f4_m a b = some true := apart wa wb
theorem law5 (y : kB.T) (w : Wf kB y) : f5_m y.1 y.2.1 y.2.2.1 y.2.2.2.1 = some true := nonces (wf_u32 w.1) (wf_u32 w.2.1) (wf_u64 w.2.2.1) (wf_u64 w.2.2.2.1)
theorem law6 (s : K.str.T) (a b : (K.sl .str).T) (w : Wf .str s) (wa : Wf (.sl .str) a) (wb : Wf (.sl .str) b) : f6_m s a b = some true := joins wa wb
namespace deriveTells
open Go.ChangeShapes Go.WideShapes Go.ChangeAt Go.RowKit
theorem own : ownKnob Tryd.prog.godebug = none := by kernel_rfl
set_option maxRecDepth 100000 in
theorem lifted (os : Os) (started : os.Started) (H : Type) (enc : TypeId × Value → H) :
    ReturnsInHanded {} Tryd.checked os 3 .any (fun w args => (Rows.deriveTellsSpec.pre enc Tryd.prog Tryd.f3 [] false w args ∧ laidMetH Tryd.prog laidL w) ∧ sizedMet enc Tryd.prog Tryd.f3 (OpenSpec.ofChange Rows.deriveTellsSpec) false w args) (Rows.deriveTellsSpec.post enc Tryd.prog Tryd.f3 false true false false) := by
  refine returnsInHanded_of_change_and (C := Tryd.checked) (X := fun w _ => laidMetH Tryd.prog laidL w) (fun _ _ _ hh h => h.of_heap hh) own started (by kernel_rfl) Tryd.func3
    (ChangeSpec.witness_shaped (enc := enc) (C := Tryd.checked) (os := os) (X := fun w _ => laidMetH Tryd.prog laidL w) false (World.doorLaid Tryd.prog 400 os) #[.agg #[.string ByteArray.empty, .slice none 0 0, .int .u32 0, .int .u64 0]] 12 rfl (World.shaped_of_RefB (by kernel_rfl) (by kernel_rfl)) (by kernel_rfl) (by kernel_rfl) (by kernel_rfl) (door_met os _)) ?_
  intro W base args ds gs before hval0 hW hcnd hsz0 hL _
  have hval : ∀ (j : Nat) t v, Tryd.f3.params[j]? = some t → args[j]? = some v → Value.okWide Tryd.prog W .any base t v := hval0
  have hW' := hW
  obtain ⟨p, q, hA0, hV, rfl, hfz, hnd⟩ := hW
  have hA : DataW.TrodAll enc Tryd.prog W 0 (fun _ => true) true Tryd.f3.params.toList args.toList ds p := hA0
  rw [Tryd.params3] at hA hval
  obtain ⟨v0, vs0, d0, ds0, p0, q0, hargs, rfl, rfl, h0, r0⟩ := trodAll_cons hA
  obtain ⟨rfl, rfl, rfl⟩ := trodAll_nil r0
  obtain rfl : args = #[v0] := by cases args; simp_all
  obtain ⟨rfl, rfl⟩ := trodVars_none hV
  have hG := repG hL
  obtain ⟨y0, g0, w0⟩ := arg_rep (k := K.pair K.str (K.pair (K.sl K.str) (K.pair (K.int IntKind.u32) (K.pair (K.int IntKind.u64) K.unit)))) 9 (by kernel_rfl) (hval 0 26 v0 rfl rfl) h0
  have hc := law_trueG (fn := Tryd.f3) (f3_s (law3 y0 w0)) (by kernel_rfl) (by kernel_rfl) (by kernel_rfl) (w := W) (vs := [v0]) hG ⟨_, _, rfl, g0, rfl⟩
  refine hc.mono fun e W' ⟨he, bel⟩ => ?_
  subst he
  have lt := hW'.lt
  exact ⟨_, rfl, _, _, _, [], _, [], hW', trodAll_mk1 (shut_bool Tryd.underlying4 _), (trodAll_cons_mk (Below.trod laidOut (by kernel_rfl) (of_decide_eq_true (by kernel_rfl)) h0 bel (fun x hx => lt x (by simp [hx]))) trodAll_mk0), rfl, bel.frame _, fun h => by cases h⟩
theorem over : Rows.deriveTellsRow.holds Tryd.pinned (OpenSpec.ofChange Rows.deriveTellsSpec) :=
  OpenClaim.holds_of_wide 3 Tryd.f3 rfl rfl rfl rfl rfl rfl rfl ⟨rfl, rfl, rfl, rfl, rfl⟩ rfl rfl rfl rfl rfl (by kernel_rfl) Tryd.func3 (by kernel_rfl)
    (of_decide_eq_true (by kernel_rfl)) (by unfold Func.isWrapper; first | (rw [if_pos (by decide +kernel)]; kernel_rfl) | (rw [if_neg (by decide +kernel)]; exact ⟨rfl, rfl⟩))
    (fun os started H enc _ => lifted os started H enc)
end deriveTells
/-- The row. -/
theorem deriveTells_holds : Rows.DeriveTellsSaid := deriveTells.over
/-- The card. -/
theorem deriveTells_card_holds : Rows.DeriveTellsCardSaid :=
  Claim7.holds_tied_plain_at .later [] [.data, .data] true (true, "69b863f9281f7484f0888d19628124832e40c528266a720a8642b1d9e1f90fe1") false
    deriveTells_holds (fun _ h => by cases h) (by kernel_rfl) (fun _ h => by cases h) deriveTells_row_tie rfl ⟨rfl, rfl⟩ (by kernel_rfl) rfl
    (fun f fn hf hfn => by
      obtain rfl : f = 3 := Option.some.inj ((show Tryd.prog.funcNamed _ = some 3 by kernel_rfl).symm.trans hf) |>.symm
      obtain rfl : fn = Tryd.f3 := (Option.some.inj (Tryd.func3.symm.trans hfn)).symm
      exact ⟨by kernel_rfl, fun j t ht => by
        rw [Tryd.params3] at ht
        have hm : t ∈ [26] := by simpa using Array.mem_of_getElem? ht
        have hall : ([26].all fun u => !Tryd.prog.wantsStandIn u) = true := by kernel_rfl
        exact (show Tryd.prog.wantsStandIn t = false by simpa using List.all_eq_true.1 hall t hm)⟩)
    (by kernel_rfl)
namespace deriveApart
open Go.ChangeShapes Go.WideShapes Go.ChangeAt Go.RowKit
theorem own : ownKnob Tryd.prog.godebug = none := by kernel_rfl
set_option maxRecDepth 100000 in
theorem lifted (os : Os) (started : os.Started) (H : Type) (enc : TypeId × Value → H) :
    ReturnsInHanded {} Tryd.checked os 4 .any (fun w args => (Rows.deriveApartSpec.pre enc Tryd.prog Tryd.f4 [] false w args ∧ laidMetH Tryd.prog laidL w) ∧ sizedMet enc Tryd.prog Tryd.f4 (OpenSpec.ofChange Rows.deriveApartSpec) false w args) (Rows.deriveApartSpec.post enc Tryd.prog Tryd.f4 false true false false) := by
  refine returnsInHanded_of_change_and (C := Tryd.checked) (X := fun w _ => laidMetH Tryd.prog laidL w) (fun _ _ _ hh h => h.of_heap hh) own started (by kernel_rfl) Tryd.func4
    (ChangeSpec.witness_shaped (enc := enc) (C := Tryd.checked) (os := os) (X := fun w _ => laidMetH Tryd.prog laidL w) false (World.doorLaid Tryd.prog 400 os) #[.slice none 0 0, .slice none 0 0] 12 rfl (World.shaped_of_RefB (by kernel_rfl) (by kernel_rfl)) (by kernel_rfl) (by kernel_rfl) (by kernel_rfl) (door_met os _)) ?_
  intro W base args ds gs before hval0 hW hcnd hsz0 hL _
  have hval : ∀ (j : Nat) t v, Tryd.f4.params[j]? = some t → args[j]? = some v → Value.okWide Tryd.prog W .any base t v := hval0
  have hW' := hW
  obtain ⟨p, q, hA0, hV, rfl, hfz, hnd⟩ := hW
  have hA : DataW.TrodAll enc Tryd.prog W 0 (fun _ => true) true Tryd.f4.params.toList args.toList ds p := hA0
  rw [Tryd.params4] at hA hval
  obtain ⟨v0, vs0, d0, ds0, p0, q0, hargs, rfl, rfl, h0, r0⟩ := trodAll_cons hA
  obtain ⟨v1, vs1, d1, ds1, p1, q1, rfl, rfl, rfl, h1, r1⟩ := trodAll_cons r0
  obtain ⟨rfl, rfl, rfl⟩ := trodAll_nil r1
  obtain rfl : args = #[v0, v1] := by cases args; simp_all
  obtain ⟨rfl, rfl⟩ := trodVars_none hV
  have hG := repG hL
  obtain ⟨y0, g0, w0⟩ := arg_rep (k := K.sl K.str) 9 (by kernel_rfl) (hval 0 22 v0 rfl rfl) h0
  obtain ⟨y1, g1, w1⟩ := arg_rep (k := K.sl K.str) 9 (by kernel_rfl) (hval 1 22 v1 rfl rfl) h1
  have hc := law_trueG (fn := Tryd.f4) (f4_s (law4 y0 y1 w0 w1)) (by kernel_rfl) (by kernel_rfl) (by kernel_rfl) (w := W) (vs := [v0, v1]) hG ⟨_, _, rfl, g0, ⟨_, _, rfl, g1, rfl⟩⟩
  refine hc.mono fun e W' ⟨he, bel⟩ => ?_
  subst he
  have lt := hW'.lt
  exact ⟨_, rfl, _, _, _, [], _, [], hW', trodAll_mk1 (shut_bool Tryd.underlying4 _), (trodAll_cons_mk (Below.trod laidOut (by kernel_rfl) (of_decide_eq_true (by kernel_rfl)) h0 bel (fun x hx => lt x (by simp [hx]))) (trodAll_cons_mk (Below.trod laidOut (by kernel_rfl) (of_decide_eq_true (by kernel_rfl)) h1 bel (fun x hx => lt x (by simp [hx]))) trodAll_mk0)), rfl, bel.frame _, fun h => by cases h⟩
theorem over : Rows.deriveApartRow.holds Tryd.pinned (OpenSpec.ofChange Rows.deriveApartSpec) :=
  OpenClaim.holds_of_wide 4 Tryd.f4 rfl rfl rfl rfl rfl rfl rfl ⟨rfl, rfl, rfl, rfl, rfl⟩ rfl rfl rfl rfl rfl (by kernel_rfl) Tryd.func4 (by kernel_rfl)
    (of_decide_eq_true (by kernel_rfl)) (by unfold Func.isWrapper; first | (rw [if_pos (by decide +kernel)]; kernel_rfl) | (rw [if_neg (by decide +kernel)]; exact ⟨rfl, rfl⟩))
    (fun os started H enc _ => lifted os started H enc)
end deriveApart
/-- The row. -/
theorem deriveApart_holds : Rows.DeriveApartSaid := deriveApart.over
/-- The card. -/
theorem deriveApart_card_holds : Rows.DeriveApartCardSaid :=
  Claim7.holds_tied_plain_at .later [] [.data, .data] true (true, "69b863f9281f7484f0888d19628124832e40c528266a720a8642b1d9e1f90fe1") false
    deriveApart_holds (fun _ h => by cases h) (by kernel_rfl) (fun _ h => by cases h) deriveApart_row_tie rfl ⟨rfl, rfl⟩ (by kernel_rfl) rfl
    (fun f fn hf hfn => by
      obtain rfl : f = 4 := Option.some.inj ((show Tryd.prog.funcNamed _ = some 4 by kernel_rfl).symm.trans hf) |>.symm
      obtain rfl : fn = Tryd.f4 := (Option.some.inj (Tryd.func4.symm.trans hfn)).symm
      exact ⟨by kernel_rfl, fun j t ht => by
        rw [Tryd.params4] at ht
        have hm : t ∈ [22, 22] := by simpa using Array.mem_of_getElem? ht
        have hall : ([22, 22].all fun u => !Tryd.prog.wantsStandIn u) = true := by kernel_rfl
        exact (show Tryd.prog.wantsStandIn t = false by simpa using List.all_eq_true.1 hall t hm)⟩)
    (by kernel_rfl)
namespace deriveNonces
open Go.ChangeShapes Go.WideShapes Go.ChangeAt Go.RowKit
theorem own : ownKnob Tryd.prog.godebug = none := by kernel_rfl
set_option maxRecDepth 100000 in
theorem lifted (os : Os) (started : os.Started) (H : Type) (enc : TypeId × Value → H) :
    ReturnsInHanded {} Tryd.checked os 5 .any (fun w args => (Rows.deriveNoncesSpec.pre enc Tryd.prog Tryd.f5 [] false w args ∧ laidMetH Tryd.prog laidL w) ∧ sizedMet enc Tryd.prog Tryd.f5 (OpenSpec.ofChange Rows.deriveNoncesSpec) false w args) (Rows.deriveNoncesSpec.post enc Tryd.prog Tryd.f5 false true false false) := by
  refine returnsInHanded_of_change_and (C := Tryd.checked) (X := fun w _ => laidMetH Tryd.prog laidL w) (fun _ _ _ hh h => h.of_heap hh) own started (by kernel_rfl) Tryd.func5
    (ChangeSpec.witness_shaped (enc := enc) (C := Tryd.checked) (os := os) (X := fun w _ => laidMetH Tryd.prog laidL w) false (World.doorLaid Tryd.prog 400 os) #[.agg #[.int .u32 0, .int .u32 0, .int .u64 0, .int .u64 0]] 12 rfl (World.shaped_of_RefB (by kernel_rfl) (by kernel_rfl)) (by kernel_rfl) (by kernel_rfl) (by kernel_rfl) (door_met os _)) ?_
  intro W base args ds gs before hval0 hW hcnd hsz0 hL _
  have hval : ∀ (j : Nat) t v, Tryd.f5.params[j]? = some t → args[j]? = some v → Value.okWide Tryd.prog W .any base t v := hval0
  have hW' := hW
  obtain ⟨p, q, hA0, hV, rfl, hfz, hnd⟩ := hW
  have hA : DataW.TrodAll enc Tryd.prog W 0 (fun _ => true) true Tryd.f5.params.toList args.toList ds p := hA0
  rw [Tryd.params5] at hA hval
  obtain ⟨v0, vs0, d0, ds0, p0, q0, hargs, rfl, rfl, h0, r0⟩ := trodAll_cons hA
  obtain ⟨rfl, rfl, rfl⟩ := trodAll_nil r0
  obtain rfl : args = #[v0] := by cases args; simp_all
  obtain ⟨rfl, rfl⟩ := trodVars_none hV
  have hG := repG hL
  obtain ⟨y0, g0, w0⟩ := arg_rep (k := K.pair (K.int IntKind.u32) (K.pair (K.int IntKind.u32) (K.pair (K.int IntKind.u64) (K.pair (K.int IntKind.u64) K.unit)))) 9 (by kernel_rfl) (hval 0 47 v0 rfl rfl) h0
  have hc := law_trueG (fn := Tryd.f5) (f5_s (law5 y0 w0)) (by kernel_rfl) (by kernel_rfl) (by kernel_rfl) (w := W) (vs := [v0]) hG ⟨_, _, rfl, g0, rfl⟩
  refine hc.mono fun e W' ⟨he, bel⟩ => ?_
  subst he
  have lt := hW'.lt
  exact ⟨_, rfl, _, _, _, [], _, [], hW', trodAll_mk1 (shut_bool Tryd.underlying4 _), (trodAll_cons_mk (Below.trod laidOut (by kernel_rfl) (of_decide_eq_true (by kernel_rfl)) h0 bel (fun x hx => lt x (by simp [hx]))) trodAll_mk0), rfl, bel.frame _, fun h => by cases h⟩
theorem over : Rows.deriveNoncesRow.holds Tryd.pinned (OpenSpec.ofChange Rows.deriveNoncesSpec) :=
  OpenClaim.holds_of_wide 5 Tryd.f5 rfl rfl rfl rfl rfl rfl rfl ⟨rfl, rfl, rfl, rfl, rfl⟩ rfl rfl rfl rfl rfl (by kernel_rfl) Tryd.func5 (by kernel_rfl)
    (of_decide_eq_true (by kernel_rfl)) (by unfold Func.isWrapper; first | (rw [if_pos (by decide +kernel)]; kernel_rfl) | (rw [if_neg (by decide +kernel)]; exact ⟨rfl, rfl⟩))
    (fun os started H enc _ => lifted os started H enc)
end deriveNonces
/-- The row. -/
theorem deriveNonces_holds : Rows.DeriveNoncesSaid := deriveNonces.over
/-- The card. -/
theorem deriveNonces_card_holds : Rows.DeriveNoncesCardSaid :=
  Claim7.holds_tied_plain_at .later [] [.data, .data] true (true, "69b863f9281f7484f0888d19628124832e40c528266a720a8642b1d9e1f90fe1") false
    deriveNonces_holds (fun _ h => by cases h) (by kernel_rfl) (fun _ h => by cases h) deriveNonces_row_tie rfl ⟨rfl, rfl⟩ (by kernel_rfl) rfl
    (fun f fn hf hfn => by
      obtain rfl : f = 5 := Option.some.inj ((show Tryd.prog.funcNamed _ = some 5 by kernel_rfl).symm.trans hf) |>.symm
      obtain rfl : fn = Tryd.f5 := (Option.some.inj (Tryd.func5.symm.trans hfn)).symm
      exact ⟨by kernel_rfl, fun j t ht => by
        rw [Tryd.params5] at ht
        have hm : t ∈ [47] := by simpa using Array.mem_of_getElem? ht
        have hall : ([47].all fun u => !Tryd.prog.wantsStandIn u) = true := by kernel_rfl
        exact (show Tryd.prog.wantsStandIn t = false by simpa using List.all_eq_true.1 hall t hm)⟩)
    (by kernel_rfl)
namespace deriveJoins
open Go.ChangeShapes Go.WideShapes Go.ChangeAt Go.RowKit
theorem own : ownKnob Tryd.prog.godebug = none := by kernel_rfl
set_option maxRecDepth 100000 in
theorem lifted (os : Os) (started : os.Started) (H : Type) (enc : TypeId × Value → H) :
    ReturnsInHanded {} Tryd.checked os 6 .any (fun w args => (Rows.deriveJoinsSpec.pre enc Tryd.prog Tryd.f6 [] false w args ∧ laidMetH Tryd.prog laidL w) ∧ sizedMet enc Tryd.prog Tryd.f6 (OpenSpec.ofChange Rows.deriveJoinsSpec) false w args) (Rows.deriveJoinsSpec.post enc Tryd.prog Tryd.f6 false true false false) := by
  refine returnsInHanded_of_change_and (C := Tryd.checked) (X := fun w _ => laidMetH Tryd.prog laidL w) (fun _ _ _ hh h => h.of_heap hh) own started (by kernel_rfl) Tryd.func6
    (ChangeSpec.witness_shaped (enc := enc) (C := Tryd.checked) (os := os) (X := fun w _ => laidMetH Tryd.prog laidL w) false (World.doorLaid Tryd.prog 400 os) #[.string ByteArray.empty, .slice none 0 0, .slice none 0 0] 12 rfl (World.shaped_of_RefB (by kernel_rfl) (by kernel_rfl)) (by kernel_rfl) (by kernel_rfl) (by kernel_rfl) (door_met os _)) ?_
  intro W base args ds gs before hval0 hW hcnd hsz0 hL _
  have hval : ∀ (j : Nat) t v, Tryd.f6.params[j]? = some t → args[j]? = some v → Value.okWide Tryd.prog W .any base t v := hval0
  have hW' := hW
  obtain ⟨p, q, hA0, hV, rfl, hfz, hnd⟩ := hW
  have hA : DataW.TrodAll enc Tryd.prog W 0 (fun _ => true) true Tryd.f6.params.toList args.toList ds p := hA0
  rw [Tryd.params6] at hA hval
  obtain ⟨v0, vs0, d0, ds0, p0, q0, hargs, rfl, rfl, h0, r0⟩ := trodAll_cons hA
  obtain ⟨v1, vs1, d1, ds1, p1, q1, rfl, rfl, rfl, h1, r1⟩ := trodAll_cons r0
  obtain ⟨v2, vs2, d2, ds2, p2, q2, rfl, rfl, rfl, h2, r2⟩ := trodAll_cons r1
  obtain ⟨rfl, rfl, rfl⟩ := trodAll_nil r2
  obtain rfl : args = #[v0, v1, v2] := by cases args; simp_all
  obtain ⟨rfl, rfl⟩ := trodVars_none hV
  have hG := repG hL
  obtain ⟨y0, g0, w0⟩ := arg_rep (k := K.str) 9 (by kernel_rfl) (hval 0 9 v0 rfl rfl) h0
  obtain ⟨y1, g1, w1⟩ := arg_rep (k := K.sl K.str) 9 (by kernel_rfl) (hval 1 22 v1 rfl rfl) h1
  obtain ⟨y2, g2, w2⟩ := arg_rep (k := K.sl K.str) 9 (by kernel_rfl) (hval 2 22 v2 rfl rfl) h2
  have hc := law_trueG (fn := Tryd.f6) (f6_s (law6 y0 y1 y2 w0 w1 w2)) (by kernel_rfl) (by kernel_rfl) (by kernel_rfl) (w := W) (vs := [v0, v1, v2]) hG ⟨_, _, rfl, g0, ⟨_, _, rfl, g1, ⟨_, _, rfl, g2, rfl⟩⟩⟩
  refine hc.mono fun e W' ⟨he, bel⟩ => ?_
  subst he
  have lt := hW'.lt
  exact ⟨_, rfl, _, _, _, [], _, [], hW', trodAll_mk1 (shut_bool Tryd.underlying4 _), (trodAll_cons_mk (Below.trod laidOut (by kernel_rfl) (of_decide_eq_true (by kernel_rfl)) h0 bel (fun x hx => lt x (by simp [hx]))) (trodAll_cons_mk (Below.trod laidOut (by kernel_rfl) (of_decide_eq_true (by kernel_rfl)) h1 bel (fun x hx => lt x (by simp [hx]))) (trodAll_cons_mk (Below.trod laidOut (by kernel_rfl) (of_decide_eq_true (by kernel_rfl)) h2 bel (fun x hx => lt x (by simp [hx]))) trodAll_mk0))), rfl, bel.frame _, fun h => by cases h⟩
theorem over : Rows.deriveJoinsRow.holds Tryd.pinned (OpenSpec.ofChange Rows.deriveJoinsSpec) :=
  OpenClaim.holds_of_wide 6 Tryd.f6 rfl rfl rfl rfl rfl rfl rfl ⟨rfl, rfl, rfl, rfl, rfl⟩ rfl rfl rfl rfl rfl (by kernel_rfl) Tryd.func6 (by kernel_rfl)
    (of_decide_eq_true (by kernel_rfl)) (by unfold Func.isWrapper; first | (rw [if_pos (by decide +kernel)]; kernel_rfl) | (rw [if_neg (by decide +kernel)]; exact ⟨rfl, rfl⟩))
    (fun os started H enc _ => lifted os started H enc)
end deriveJoins
/-- The row. -/
theorem deriveJoins_holds : Rows.DeriveJoinsSaid := deriveJoins.over
/-- The card. -/
theorem deriveJoins_card_holds : Rows.DeriveJoinsCardSaid :=
  Claim7.holds_tied_plain_at .later [] [.data, .data] true (true, "69b863f9281f7484f0888d19628124832e40c528266a720a8642b1d9e1f90fe1") false
    deriveJoins_holds (fun _ h => by cases h) (by kernel_rfl) (fun _ h => by cases h) deriveJoins_row_tie rfl ⟨rfl, rfl⟩ (by kernel_rfl) rfl
    (fun f fn hf hfn => by
      obtain rfl : f = 6 := Option.some.inj ((show Tryd.prog.funcNamed _ = some 6 by kernel_rfl).symm.trans hf) |>.symm
      obtain rfl : fn = Tryd.f6 := (Option.some.inj (Tryd.func6.symm.trans hfn)).symm
      exact ⟨by kernel_rfl, fun j t ht => by
        rw [Tryd.params6] at ht
        have hm : t ∈ [9, 22, 22] := by simpa using Array.mem_of_getElem? ht
        have hall : ([9, 22, 22].all fun u => !Tryd.prog.wantsStandIn u) = true := by kernel_rfl
        exact (show Tryd.prog.wantsStandIn t = false by simpa using List.all_eq_true.1 hall t hm)⟩)
    (by kernel_rfl)
end Go.Proofs.YtnngdpaeiafnlaaDoor
