/- A part of the proof that the laws of this seat hold for every input; no conditions of its own. -/
import Derived.Test.YtnngdpaeiafnlaaDoorDS
open Go Vam Vam.Pg Go.Proofs
set_option linter.unusedVariables false
set_option maxRecDepth 100000
namespace Go.Proofs.YtnngdpaeiafnlaaDoor
def f7_hn : Hn := Hn.mk [] [] [] [] [(3, [0, 1, 5])]
def f7_l2_D (p2_0 : List ByteArray) (x : Int × Int) : St := St.mk [(0, SV.av (AV.one (Lf.dat (K.sl K.str) p2_0))), (1, SV.av (AV.one (Lf.v (Value.int IntKind.i64 (Prod.fst x))))), (5, SV.av (AV.one (Lf.v (Value.int IntKind.i64 (Prod.snd x)))))] []
def f7_l2_E0 (p2_0 : List ByteArray) (y : Unit) : St := St.mk [(4, SV.av (AV.one (Lf.v (Value.bool true))))] []
def f7_l2_E1 (p2_0 : List ByteArray) (y : Unit) : St := St.mk [] []
def f7_l2_E (p2_0 : List ByteArray) : Unit ⊕ Unit → Ex × St
  | (.inl y) => (Ex.ret, f7_l2_E0 p2_0 y)
  | (.inr y) => (Ex.exit 0, f7_l2_E1 p2_0 y)
noncomputable def f7_l2_t (p2_0 : List ByteArray) (x : Int × Int) : DT (Ex × St) ((Int × Int) ⊕ (Unit ⊕ Unit)) :=
 (.ask (ilt (Prod.snd x) (llen p2_0))
 (.need (ile 0 (Prod.snd x)) true
 (.sure (ilt (Prod.snd x) (llen p2_0)) true
 (.ask (ilt (Prod.fst x) (ssz (gd K.str p2_0 (Int.toNat (Prod.snd x)))))
 (.leaf (Ex.ret, St.mk [(0, SV.av (AV.one (Lf.dat (K.sl K.str) p2_0))), (1, SV.av (AV.one (Lf.v (Value.int IntKind.i64 (Prod.fst x))))), (4, SV.av (AV.one (Lf.v (Value.bool true)))), (5, SV.av (AV.one (Lf.v (Value.int IntKind.i64 (Prod.snd x)))))] []) (.inr (.inl (()))))
 (.sure (ile 0 (Prod.snd x)) true
 (.sure (ilt (Prod.snd x) (llen p2_0)) true
 (.leaf (Vam.Ex.normal, St.mk [(0, SV.av (AV.one (Lf.dat (K.sl K.str) p2_0))), (1, SV.av (AV.one (Lf.v (Value.int IntKind.i64 (isub IntKind.i64 (Prod.fst x) (ssz (gd K.str p2_0 (Int.toNat (Prod.snd x))))))))), (5, SV.av (AV.one (Lf.v (Value.int IntKind.i64 (iadd IntKind.i64 (Prod.snd x) 1)))))] []) (.inl ((isub IntKind.i64 (Prod.fst x) (ssz (gd K.str p2_0 (Int.toNat (Prod.snd x)))), iadd IntKind.i64 (Prod.snd x) 1)))))))))
 (.leaf (Ex.exit 0, St.mk [(0, SV.av (AV.one (Lf.dat (K.sl K.str) p2_0))), (1, SV.av (AV.one (Lf.v (Value.int IntKind.i64 (Prod.fst x))))), (5, SV.av (AV.one (Lf.v (Value.int IntKind.i64 (Prod.snd x)))))] []) (.inr (.inr (())))))
theorem f7_l2_v (p2_0 : List ByteArray) (x : Int × Int) : vc (execK P noG Tryd.f7.ntmps f7_hn [0, 1, 4, 5] (loopOf Tryd.f7 2) (f7_l2_D p2_0 x)) (f7_l2_t p2_0 x) = vcT (f7_l2_t p2_0 x) := by kernel_rfl
theorem f7_l2_o (d : Nat) (p2_0 : List ByteArray) (x : Int × Int) : obl (Snd P noG) (Lp P noG Tryd.f7.ntmps [] f7_hn d) (RelL Tryd.f7.ntmps noG [] (f7_l2_D p2_0) (f7_l2_E p2_0)) (f7_l2_t p2_0 x) := by
 unfold f7_l2_t
 exact (oAsk (fun h0 => (oNeed fun h1 => (oSure h0 (oAsk (fun h2 => (oLeaf (relR rfl (wk_tw [] [4] [] (by kernel_rfl) (by kernel_rfl)))))
 (fun h2 => (oSure h1 (oSure h0 (oLeaf (relN (wk_tw [] [0, 1, 5] [] (by kernel_rfl) (by kernel_rfl)))))))))))
 (fun h0 => (oLeaf (relE rfl (wk_tw [] [] [] (by kernel_rfl) (by kernel_rfl))))))
noncomputable def f7_l2_m (p2_0 : List ByteArray) (x : Int × Int) : Option (Unit ⊕ Unit) := lrun (fun x => mod (f7_l2_t p2_0 x)) x
theorem f7_l2_e (p2_0 : List ByteArray) (x : Int × Int) : mod (f7_l2_t p2_0 x) =
 (sel (ilt (Prod.snd x) (llen p2_0))
 (sel (ile 0 (Prod.snd x))
 (sel (ilt (Prod.fst x) (ssz (gd K.str p2_0 (Int.toNat (Prod.snd x)))))
 (some ((.inr (.inl (())))))
 (some ((.inl ((isub IntKind.i64 (Prod.fst x) (ssz (gd K.str p2_0 (Int.toNat (Prod.snd x)))), iadd IntKind.i64 (Prod.snd x) 1)))))) none)
 (some ((.inr (.inr (())))))) := by kernel_rfl
theorem f7_l2_s0 (d : Nat) {p2_0 : List ByteArray} {σ : St} {x : Int × Int} {z : Unit} (h : f7_l2_m p2_0 x = some (.inl z)) (hw : Wk Tryd.f7.ntmps noG [] σ (f7_l2_D p2_0 x)) : Lp P noG Tryd.f7.ntmps [] f7_hn (d + 1) (loopOf Tryd.f7 2) σ (Ex.ret) (f7_l2_E0 p2_0 z) :=
 lp_tree (D := f7_l2_D p2_0) (E := f7_l2_E p2_0) (f7_l2_v p2_0) (f7_l2_o d p2_0) h hw
theorem f7_l2_s1 (d : Nat) {p2_0 : List ByteArray} {σ : St} {x : Int × Int} {z : Unit} (h : f7_l2_m p2_0 x = some (.inr z)) (hw : Wk Tryd.f7.ntmps noG [] σ (f7_l2_D p2_0 x)) : Lp P noG Tryd.f7.ntmps [] f7_hn (d + 1) (loopOf Tryd.f7 2) σ (Ex.exit 0) (f7_l2_E1 p2_0 z) :=
 lp_tree (D := f7_l2_D p2_0) (E := f7_l2_E p2_0) (f7_l2_v p2_0) (f7_l2_o d p2_0) h hw
def f7_R (a0 : List ByteArray) (a1 : Int) : Bool → SV × Hp
  | z => (SV.av (AV.one (Lf.v (Value.bool z))), [])
noncomputable def f7_t (a0 : List ByteArray) (a1 : Int) : DT (SV × Hp) (Bool) :=
 (.loop2 (loopOf Tryd.f7 2) (St.mk [(0, SV.av (AV.one (Lf.dat (K.sl K.str) a0))), (1, SV.av (AV.one (Lf.v (Value.int IntKind.i64 a1)))), (5, SV.av (AV.one (Lf.v (Value.int IntKind.i64 0))))] []) (f7_l2_m a0 (a1, 0)) (Ex.ret) (f7_l2_E0 a0) (Ex.exit 0) (f7_l2_E1 a0) (fun z9 =>
 (.leaf (SV.av (AV.one (Lf.v (Value.bool true))), []) (true))) fun z10 =>
 (.leaf (SV.av (AV.one (Lf.v (Value.bool false))), []) (false)))
theorem f7_v (a0 : List ByteArray) (a1 : Int) : vc (runR P noG Tryd.f7 f7_hn [AV.one (Lf.dat (K.sl K.str) a0), AV.one (Lf.v (Value.int IntKind.i64 a1))] []) (f7_t a0 a1) = vcT (f7_t a0 a1) := by kernel_rfl
theorem f7_o (a0 : List ByteArray) (a1 : Int) : obl (Snd P noG) (Lp P noG Tryd.f7.ntmps [] f7_hn 1) (RelF [] (f7_R a0 a1)) (f7_t a0 a1) := by
 unfold f7_t
 exact (oLoop2 (fun _ e => f7_l2_s0 0 e (wk_tw [] [0, 1, 5] [] (by kernel_rfl) (by kernel_rfl))) (fun _ e => f7_l2_s1 0 e (wk_tw [] [0, 1, 5] [] (by kernel_rfl) (by kernel_rfl))) (fun z9 _ =>
 (oLeaf (wks_tw [] [] (by kernel_rfl) (by kernel_rfl)))) fun z10 _ =>
 (oLeaf (wks_tw [] [] (by kernel_rfl) (by kernel_rfl))))
noncomputable def f7_m (a0 : List ByteArray) (a1 : Int) : Option (Bool) := mod (f7_t a0 a1)
theorem f7_e (a0 : List ByteArray) (a1 : Int) : f7_m a0 a1 =
 (Option.bind (f7_l2_m a0 (a1, 0)) (Sum.elim (fun z9 =>
 (some ((true)))) fun z10 =>
 (some ((false))))) := by kernel_rfl
theorem f7_s {a0 : List ByteArray} {a1 : Int} {z : Bool} (h : f7_m a0 a1 = some z) : Snd P noG 7 [AV.one (Lf.dat (K.sl K.str) a0), AV.one (Lf.v (Value.int IntKind.i64 a1))] [] (SV.av (AV.one (Lf.v (Value.bool z)))) [] :=
 snd_tree (hn := f7_hn) 1 (f7_R a0 a1) mixed (by kernel_rfl) (by kernel_rfl) (by kernel_rfl) (by kernel_rfl) (by kernel_rfl) (f7_v a0 a1) (f7_o a0 a1) h
def f21_hn : Hn := Hn.mk [] [] [] [] [(4, [0, 5, 10, 11])]
def f21_l3_D (p3_0 : Int) (p3_1 : Nat) (p3_2 : Int) (x : List Int × Int) : St := St.mk [(0, SV.av (AV.one (Lf.v (Value.int IntKind.u64 p3_0)))), (5, SV.av (AV.one (Lf.own 30300 0 0 p3_1 1))), (10, SV.av (AV.one (Lf.v (Value.int IntKind.i64 p3_2)))), (11, SV.av (AV.one (Lf.v (Value.int IntKind.i64 (Prod.snd x)))))] [(30300, Blk.row 5 (K.int IntKind.u8) (Prod.fst x))]
def f21_l3_E0 (p3_0 : Int) (p3_1 : Nat) (p3_2 : Int) (y : List Int) : St := St.mk [(5, SV.av (AV.one (Lf.own 60300 0 0 p3_1 1)))] [(60300, Blk.row 5 (K.int IntKind.u8) y)]
def f21_l3_E (p3_0 : Int) (p3_1 : Nat) (p3_2 : Int) : List Int → Ex × St
  | y => (Ex.exit 0, f21_l3_E0 p3_0 p3_1 p3_2 y)
noncomputable def f21_l3_t (p3_0 : Int) (p3_1 : Nat) (p3_2 : Int) (x : List Int × Int) : DT (Ex × St) ((List Int × Int) ⊕ (List Int)) :=
 (.ask (ilt (Prod.snd x) p3_2)
 (.need (ile 0 (imul IntKind.i64 8 (Prod.snd x))) true
 (.need (ile 0 (Prod.snd x)) true
 (.need (ilt (Prod.snd x) ↑p3_1) true
 (.need (nlt (0 + Int.toNat (Prod.snd x)) (List.length (Prod.fst x))) true
 (.leaf (Vam.Ex.normal, St.mk [(0, SV.av (AV.one (Lf.v (Value.int IntKind.u64 p3_0)))), (5, SV.av (AV.one (Lf.own 30300 0 0 p3_1 1))), (10, SV.av (AV.one (Lf.v (Value.int IntKind.i64 p3_2)))), (11, SV.av (AV.one (Lf.v (Value.int IntKind.i64 (iadd IntKind.i64 (Prod.snd x) 1)))))] [(30300, Blk.row 5 (K.int IntKind.u8) (List.set (Prod.fst x) (0 + Int.toNat (Prod.snd x)) (icv IntKind.u8 (shr IntKind.u64 p3_0 (imul IntKind.i64 8 (Prod.snd x))))))]) (.inl ((List.set (Prod.fst x) (0 + Int.toNat (Prod.snd x)) (icv IntKind.u8 (shr IntKind.u64 p3_0 (imul IntKind.i64 8 (Prod.snd x)))), iadd IntKind.i64 (Prod.snd x) 1))))))))
 (.leaf (Ex.exit 0, St.mk [(0, SV.av (AV.one (Lf.v (Value.int IntKind.u64 p3_0)))), (5, SV.av (AV.one (Lf.own 30300 0 0 p3_1 1))), (10, SV.av (AV.one (Lf.v (Value.int IntKind.i64 p3_2)))), (11, SV.av (AV.one (Lf.v (Value.int IntKind.i64 (Prod.snd x)))))] [(30300, Blk.row 5 (K.int IntKind.u8) (Prod.fst x))]) (.inr (Prod.fst x))))
theorem f21_l3_v (p3_0 : Int) (p3_1 : Nat) (p3_2 : Int) (x : List Int × Int) : vc (execK P noG Tryd.f21.ntmps f21_hn [0, 5, 10, 11] (loopOf Tryd.f21 3) (f21_l3_D p3_0 p3_1 p3_2 x)) (f21_l3_t p3_0 p3_1 p3_2 x) = vcT (f21_l3_t p3_0 p3_1 p3_2 x) := by kernel_rfl
theorem f21_l3_o (d : Nat) (p3_0 : Int) (p3_1 : Nat) (p3_2 : Int) (x : List Int × Int) : obl (Snd P noG) (Lp P noG Tryd.f21.ntmps [] f21_hn d) (RelL Tryd.f21.ntmps noG [] (f21_l3_D p3_0 p3_1 p3_2) (f21_l3_E p3_0 p3_1 p3_2)) (f21_l3_t p3_0 p3_1 p3_2 x) := by
 unfold f21_l3_t
 exact (oAsk (fun h0 => (oNeed fun h1 => (oNeed fun h2 => (oNeed fun h3 => (oNeed fun h4 => (oLeaf (relN (wk_tw [(30300, 30300)] [0, 5, 10, 11] [] (by kernel_rfl) (by kernel_rfl)))))))))
 (fun h0 => (oLeaf (relE rfl (wk_tw [(30300, 60300)] [5] [] (by kernel_rfl) (by kernel_rfl))))))
noncomputable def f21_l3_m (p3_0 : Int) (p3_1 : Nat) (p3_2 : Int) (x : List Int × Int) : Option (List Int) := lrun (fun x => mod (f21_l3_t p3_0 p3_1 p3_2 x)) x
theorem f21_l3_e (p3_0 : Int) (p3_1 : Nat) (p3_2 : Int) (x : List Int × Int) : mod (f21_l3_t p3_0 p3_1 p3_2 x) =
 (sel (ilt (Prod.snd x) p3_2)
 (sel (ile 0 (imul IntKind.i64 8 (Prod.snd x)))
 (sel (ile 0 (Prod.snd x))
 (sel (ilt (Prod.snd x) ↑p3_1)
 (sel (nlt (0 + Int.toNat (Prod.snd x)) (List.length (Prod.fst x)))
 (some ((.inl ((List.set (Prod.fst x) (0 + Int.toNat (Prod.snd x)) (icv IntKind.u8 (shr IntKind.u64 p3_0 (imul IntKind.i64 8 (Prod.snd x)))), iadd IntKind.i64 (Prod.snd x) 1))))) none) none) none) none)
 (some ((.inr (Prod.fst x))))) := by kernel_rfl
theorem f21_l3_s0 (d : Nat) {p3_0 : Int} {p3_1 : Nat} {p3_2 : Int} {σ : St} {x : List Int × Int} {z : List Int} (h : f21_l3_m p3_0 p3_1 p3_2 x = some z) (hw : Wk Tryd.f21.ntmps noG [] σ (f21_l3_D p3_0 p3_1 p3_2 x)) : Lp P noG Tryd.f21.ntmps [] f21_hn (d + 1) (loopOf Tryd.f21 3) σ (Ex.exit 0) (f21_l3_E0 p3_0 p3_1 p3_2 z) :=
 lp_tree (D := f21_l3_D p3_0 p3_1 p3_2) (E := f21_l3_E p3_0 p3_1 p3_2) (f21_l3_v p3_0 p3_1 p3_2) (f21_l3_o d p3_0 p3_1 p3_2) h hw
def f21_R (a0 : Int) (a1 : Int) : ByteArray → SV × Hp
  | z => (SV.av (AV.one (Lf.v (Value.string z))), [])
noncomputable def f21_t (a0 : Int) (a1 : Int) : DT (SV × Hp) (ByteArray) :=
 (.need (ile 0 a1) true
 (.sure (ile a1 a1) true
 (.need (ile (Int.mul 1 a1) 281474976710656) true
 (.loop (loopOf Tryd.f21 3) (St.mk [(0, SV.av (AV.one (Lf.v (Value.int IntKind.u64 a0)))), (5, SV.av (AV.one (Lf.own 8 0 0 (Int.toNat a1) 1))), (10, SV.av (AV.one (Lf.v (Value.int IntKind.i64 ↑(Int.toNat a1))))), (11, SV.av (AV.one (Lf.v (Value.int IntKind.i64 0))))] [(8, Blk.row 5 (K.int IntKind.u8) (List.replicate (Int.toNat a1) (0 : Int)))]) (f21_l3_m a0 (Int.toNat a1) ↑(Int.toNat a1) (List.replicate (Int.toNat a1) 0, 0)) (Ex.exit 0) (f21_l3_E0 a0 (Int.toNat a1) ↑(Int.toNat a1)) fun z10 =>
 (.pick false (.need (nle (0 + Int.toNat a1) (List.length z10)) true
 (.leaf (SV.av (AV.one (Lf.v (Value.string (strOfNums (List.take (Int.toNat a1) (List.drop 0 z10)))))), [(60300, Blk.row 5 (K.int IntKind.u8) z10)]) (strOfNums (List.take (Int.toNat a1) (List.drop 0 z10))))))))))
theorem f21_v (a0 : Int) (a1 : Int) : vc (runR P noG Tryd.f21 f21_hn [AV.one (Lf.v (Value.int IntKind.u64 a0)), AV.one (Lf.v (Value.int IntKind.i64 a1))] []) (f21_t a0 a1) = vcT (f21_t a0 a1) := by kernel_rfl
theorem f21_o (a0 : Int) (a1 : Int) : obl (Snd P noG) (Lp P noG Tryd.f21.ntmps [] f21_hn 1) (RelF [] (f21_R a0 a1)) (f21_t a0 a1) := by
 unfold f21_t
 exact (oNeed fun h0 => (oSure (ile_t.2 (Int.le_refl _)) (oNeed fun h1 => (oLoop (fun _ e => f21_l3_s0 0 e (wk_tw [(8, 30300)] [0, 5, 10, 11] [] (by kernel_rfl) (by kernel_rfl))) fun z10 _ =>
 (oPick (oNeed fun h2 => (oLeaf (wks_tw [] [] (by kernel_rfl) (by kernel_rfl)))))))))
noncomputable def f21_m (a0 : Int) (a1 : Int) : Option (ByteArray) := mod (f21_t a0 a1)
theorem f21_e (a0 : Int) (a1 : Int) : f21_m a0 a1 =
 (sel (ile 0 a1)
 (sel (ile (Int.mul 1 a1) 281474976710656)
 (Option.bind (f21_l3_m a0 (Int.toNat a1) ↑(Int.toNat a1) (List.replicate (Int.toNat a1) 0, 0)) fun z10 =>
 (sel (nle (0 + Int.toNat a1) (List.length z10))
 (some ((strOfNums (List.take (Int.toNat a1) (List.drop 0 z10))))) none)) none) none) := by kernel_rfl
theorem f21_s {a0 : Int} {a1 : Int} {z : ByteArray} (h : f21_m a0 a1 = some z) : Snd P noG 21 [AV.one (Lf.v (Value.int IntKind.u64 a0)), AV.one (Lf.v (Value.int IntKind.i64 a1))] [] (SV.av (AV.one (Lf.v (Value.string z)))) [] :=
 snd_tree (hn := f21_hn) 1 (f21_R a0 a1) mixed (by kernel_rfl) (by kernel_rfl) (by kernel_rfl) (by kernel_rfl) (by kernel_rfl) (f21_v a0 a1) (f21_o a0 a1) h
def f9_hn : Hn := Hn.mk [] [] [] [] [(4, [3, 6, 7, 8])]
def f9_l3_D (p3_0 : List ByteArray) (p3_1 : Int) (x : List Int × Int) : St := St.mk [(3, SV.av (AV.one (Lf.own 30351 0 0 (List.length (Prod.fst x)) 1))), (6, SV.av (AV.one (Lf.dat (K.sl K.str) p3_0))), (7, SV.av (AV.one (Lf.v (Value.int IntKind.i64 p3_1)))), (8, SV.av (AV.one (Lf.v (Value.int IntKind.i64 (Prod.snd x)))))] [(30351, Blk.row 5 (K.int IntKind.u8) (Prod.fst x))]
def f9_l3_E0 (p3_0 : List ByteArray) (p3_1 : Int) (y : List Int) : St := St.mk [(3, SV.av (AV.one (Lf.own 60351 0 0 (List.length y) 1)))] [(60351, Blk.row 5 (K.int IntKind.u8) y)]
def f9_l3_E (p3_0 : List ByteArray) (p3_1 : Int) : List Int → Ex × St
  | y => (Ex.exit 0, f9_l3_E0 p3_0 p3_1 y)
noncomputable def f9_l3_t (p3_0 : List ByteArray) (p3_1 : Int) (x : List Int × Int) : DT (Ex × St) ((List Int × Int) ⊕ (List Int)) :=
 (.ask (ilt (Prod.snd x) p3_1)
 (.need (ile 0 (Prod.snd x)) true
 (.need (ilt (Prod.snd x) (llen p3_0)) true
 (.call 21 [AV.one (Lf.v (Value.int IntKind.u64 (icv IntKind.u64 (ssz (gd K.str p3_0 (Int.toNat (Prod.snd x))))))), AV.one (Lf.v (Value.int IntKind.i64 4))] [] (f21_m (icv IntKind.u64 (ssz (gd K.str p3_0 (Int.toNat (Prod.snd x))))) 4) (fun z48 => SV.av (AV.one (Lf.v (Value.string z48)))) (fun z48 => []) fun z48 =>
 (.pick true (.sure (true) true
 (.sure (nEq (List.length (Prod.fst x)) (List.length (Prod.fst x))) true
 (.need (nle (List.length (List.append (Prod.fst x) (nums z48))) 9223372036854775807) true
 (.need (nle (List.length (List.append (Prod.fst x) (nums z48)) * 1) 140737488355328) true
 (.pick true (.sure (true) true
 (.sure (nEq (List.length (List.append (Prod.fst x) (nums z48))) (List.length (List.append (Prod.fst x) (nums z48)))) true
 (.need (nle (List.length (List.append (List.append (Prod.fst x) (nums z48)) (nums (gd K.str p3_0 (Int.toNat (Prod.snd x)))))) 9223372036854775807) true
 (.need (nle (List.length (List.append (List.append (Prod.fst x) (nums z48)) (nums (gd K.str p3_0 (Int.toNat (Prod.snd x))))) * 1) 140737488355328) true
 (.leaf (Vam.Ex.normal, St.mk [(3, SV.av (AV.one (Lf.own 20 0 0 (List.length (List.append (List.append (Prod.fst x) (nums z48)) (nums (gd K.str p3_0 (Int.toNat (Prod.snd x)))))) 1))), (6, SV.av (AV.one (Lf.dat (K.sl K.str) p3_0))), (7, SV.av (AV.one (Lf.v (Value.int IntKind.i64 p3_1)))), (8, SV.av (AV.one (Lf.v (Value.int IntKind.i64 (iadd IntKind.i64 (Prod.snd x) 1)))))] [(17, Blk.dead), (20, Blk.row 5 (K.int IntKind.u8) (List.append (List.append (Prod.fst x) (nums z48)) (nums (gd K.str p3_0 (Int.toNat (Prod.snd x)))))), (30351, Blk.dead)]) (.inl ((List.append (List.append (Prod.fst x) (nums z48)) (nums (gd K.str p3_0 (Int.toNat (Prod.snd x)))), iadd IntKind.i64 (Prod.snd x) 1)))))))))))))))))
 (.leaf (Ex.exit 0, St.mk [(3, SV.av (AV.one (Lf.own 30351 0 0 (List.length (Prod.fst x)) 1))), (6, SV.av (AV.one (Lf.dat (K.sl K.str) p3_0))), (7, SV.av (AV.one (Lf.v (Value.int IntKind.i64 p3_1)))), (8, SV.av (AV.one (Lf.v (Value.int IntKind.i64 (Prod.snd x)))))] [(30351, Blk.row 5 (K.int IntKind.u8) (Prod.fst x))]) (.inr (Prod.fst x))))
theorem f9_l3_v (p3_0 : List ByteArray) (p3_1 : Int) (x : List Int × Int) : vc (execK P noG Tryd.f9.ntmps f9_hn [3, 6, 7, 8] (loopOf Tryd.f9 3) (f9_l3_D p3_0 p3_1 x)) (f9_l3_t p3_0 p3_1 x) = vcT (f9_l3_t p3_0 p3_1 x) := by kernel_rfl
theorem f9_l3_o (d : Nat) (p3_0 : List ByteArray) (p3_1 : Int) (x : List Int × Int) : obl (Snd P noG) (Lp P noG Tryd.f9.ntmps [] f9_hn d) (RelL Tryd.f9.ntmps noG [] (f9_l3_D p3_0 p3_1) (f9_l3_E p3_0 p3_1)) (f9_l3_t p3_0 p3_1 x) := by
 unfold f9_l3_t
 exact (oAsk (fun h0 => (oNeed fun h1 => (oNeed fun h2 => (oCall (fun _ e => f21_s e) fun z48 _ =>
 (oPick (oSure rfl (oSure (nEq_t.2 rfl) (oNeed fun h3 => (oNeed fun h4 => (oPick (oSure rfl (oSure (nEq_t.2 rfl) (oNeed fun h5 => (oNeed fun h6 => (oLeaf (relN (wk_tw [(20, 30351)] [3, 6, 7, 8] [] (by kernel_rfl) (by kernel_rfl))))))))))))))))))
 (fun h0 => (oLeaf (relE rfl (wk_tw [(30351, 60351)] [3] [] (by kernel_rfl) (by kernel_rfl))))))
noncomputable def f9_l3_m (p3_0 : List ByteArray) (p3_1 : Int) (x : List Int × Int) : Option (List Int) := lrun (fun x => mod (f9_l3_t p3_0 p3_1 x)) x
theorem f9_l3_e (p3_0 : List ByteArray) (p3_1 : Int) (x : List Int × Int) : mod (f9_l3_t p3_0 p3_1 x) =
 (sel (ilt (Prod.snd x) p3_1)
 (sel (ile 0 (Prod.snd x))
 (sel (ilt (Prod.snd x) (llen p3_0))
 (Option.bind (f21_m (icv IntKind.u64 (ssz (gd K.str p3_0 (Int.toNat (Prod.snd x))))) 4) fun z48 =>
 (sel (nle (List.length (List.append (Prod.fst x) (nums z48))) 9223372036854775807)
 (sel (nle (List.length (List.append (Prod.fst x) (nums z48)) * 1) 140737488355328)
 (sel (nle (List.length (List.append (List.append (Prod.fst x) (nums z48)) (nums (gd K.str p3_0 (Int.toNat (Prod.snd x)))))) 9223372036854775807)
 (sel (nle (List.length (List.append (List.append (Prod.fst x) (nums z48)) (nums (gd K.str p3_0 (Int.toNat (Prod.snd x))))) * 1) 140737488355328)
 (some ((.inl ((List.append (List.append (Prod.fst x) (nums z48)) (nums (gd K.str p3_0 (Int.toNat (Prod.snd x)))), iadd IntKind.i64 (Prod.snd x) 1))))) none) none) none) none)) none) none)
 (some ((.inr (Prod.fst x))))) := by kernel_rfl
theorem f9_l3_s0 (d : Nat) {p3_0 : List ByteArray} {p3_1 : Int} {σ : St} {x : List Int × Int} {z : List Int} (h : f9_l3_m p3_0 p3_1 x = some z) (hw : Wk Tryd.f9.ntmps noG [] σ (f9_l3_D p3_0 p3_1 x)) : Lp P noG Tryd.f9.ntmps [] f9_hn (d + 1) (loopOf Tryd.f9 3) σ (Ex.exit 0) (f9_l3_E0 p3_0 p3_1 z) :=
 lp_tree (D := f9_l3_D p3_0 p3_1) (E := f9_l3_E p3_0 p3_1) (f9_l3_v p3_0 p3_1) (f9_l3_o d p3_0 p3_1) h hw
def f9_R (a0 : List ByteArray) : ByteArray → SV × Hp
  | z => (SV.av (AV.one (Lf.v (Value.string z))), [])
noncomputable def f9_t (a0 : List ByteArray) : DT (SV × Hp) (ByteArray) :=
 (.loop (loopOf Tryd.f9 3) (St.mk [(3, SV.av (AV.one (Lf.v (Value.slice none 0 0)))), (6, SV.av (AV.one (Lf.dat (K.sl K.str) a0))), (7, SV.av (AV.one (Lf.v (Value.int IntKind.i64 (llen a0))))), (8, SV.av (AV.one (Lf.v (Value.int IntKind.i64 0))))] []) (f9_l3_m a0 (llen a0) ([], 0)) (Ex.exit 0) (f9_l3_E0 a0 (llen a0)) fun z49 =>
 (.pick true (.sure (nEq (List.length z49) (List.length z49)) true
 (.leaf (SV.av (AV.one (Lf.v (Value.string (strOfNums z49)))), [(60351, Blk.row 5 (K.int IntKind.u8) z49)]) (strOfNums z49)))))
theorem f9_v (a0 : List ByteArray) : vc (runR P noG Tryd.f9 f9_hn [AV.one (Lf.dat (K.sl K.str) a0)] []) (f9_t a0) = vcT (f9_t a0) := by kernel_rfl
theorem f9_o (a0 : List ByteArray) : obl (Snd P noG) (Lp P noG Tryd.f9.ntmps [] f9_hn 1) (RelF [] (f9_R a0)) (f9_t a0) := by
 unfold f9_t
 exact (oLoop (fun _ e => f9_l3_s0 0 e (wk_tw [] [3, 6, 7, 8] [(30351, 5, K.int IntKind.u8)] (by kernel_rfl) (by kernel_rfl))) fun z49 _ =>
 (oPick (oSure (nEq_t.2 rfl) (oLeaf (wks_tw [] [] (by kernel_rfl) (by kernel_rfl))))))
noncomputable def f9_m (a0 : List ByteArray) : Option (ByteArray) := mod (f9_t a0)
theorem f9_e (a0 : List ByteArray) : f9_m a0 =
 (Option.bind (f9_l3_m a0 (llen a0) ([], 0)) fun z49 =>
 (some ((strOfNums z49)))) := by kernel_rfl
theorem f9_s {a0 : List ByteArray} {z : ByteArray} (h : f9_m a0 = some z) : Snd P noG 9 [AV.one (Lf.dat (K.sl K.str) a0)] [] (SV.av (AV.one (Lf.v (Value.string z)))) [] :=
 snd_tree (hn := f9_hn) 1 (f9_R a0) mixed (by kernel_rfl) (by kernel_rfl) (by kernel_rfl) (by kernel_rfl) (by kernel_rfl) (f9_v a0) (f9_o a0) h
def f28_hn : Hn := Hn.mk [] [] [] [] []
def f28_R (a0 : Int) (a1 : Int) : Int → SV × Hp
  | z => (SV.av (AV.one (Lf.v (Value.int IntKind.u32 z))), [])
noncomputable def f28_t (a0 : Int) (a1 : Int) : DT (SV × Hp) (Int) :=
 (.need (ile 0 (iand IntKind.u64 (icv IntKind.u64 a1) 31)) true
 (.need (ile 0 (isub IntKind.u64 32 (iand IntKind.u64 (icv IntKind.u64 a1) 31))) true
 (.leaf (SV.av (AV.one (Lf.v (Value.int IntKind.u32 (ior IntKind.u32 (shl IntKind.u32 a0 (iand IntKind.u64 (icv IntKind.u64 a1) 31)) (shr IntKind.u32 a0 (isub IntKind.u64 32 (iand IntKind.u64 (icv IntKind.u64 a1) 31))))))), []) (ior IntKind.u32 (shl IntKind.u32 a0 (iand IntKind.u64 (icv IntKind.u64 a1) 31)) (shr IntKind.u32 a0 (isub IntKind.u64 32 (iand IntKind.u64 (icv IntKind.u64 a1) 31)))))))
theorem f28_v (a0 : Int) (a1 : Int) : vc (runR P noG Tryd.f28 f28_hn [AV.one (Lf.v (Value.int IntKind.u32 a0)), AV.one (Lf.v (Value.int IntKind.i64 a1))] []) (f28_t a0 a1) = vcT (f28_t a0 a1) := by kernel_rfl
theorem f28_o (a0 : Int) (a1 : Int) : obl (Snd P noG) (Lp P noG Tryd.f28.ntmps [] f28_hn 1) (RelF [] (f28_R a0 a1)) (f28_t a0 a1) := by
 unfold f28_t
 exact (oNeed fun h0 => (oNeed fun h1 => (oLeaf (wks_tw [] [] (by kernel_rfl) (by kernel_rfl)))))
noncomputable def f28_m (a0 : Int) (a1 : Int) : Option (Int) := mod (f28_t a0 a1)
theorem f28_e (a0 : Int) (a1 : Int) : f28_m a0 a1 =
 (sel (ile 0 (iand IntKind.u64 (icv IntKind.u64 a1) 31))
 (sel (ile 0 (isub IntKind.u64 32 (iand IntKind.u64 (icv IntKind.u64 a1) 31)))
 (some ((ior IntKind.u32 (shl IntKind.u32 a0 (iand IntKind.u64 (icv IntKind.u64 a1) 31)) (shr IntKind.u32 a0 (isub IntKind.u64 32 (iand IntKind.u64 (icv IntKind.u64 a1) 31)))))) none) none) := by kernel_rfl
theorem f28_s {a0 : Int} {a1 : Int} {z : Int} (h : f28_m a0 a1 = some z) : Snd P noG 28 [AV.one (Lf.v (Value.int IntKind.u32 a0)), AV.one (Lf.v (Value.int IntKind.i64 a1))] [] (SV.av (AV.one (Lf.v (Value.int IntKind.u32 z)))) [] :=
 snd_tree (hn := f28_hn) 1 (f28_R a0 a1) mixed (by kernel_rfl) (by kernel_rfl) (by kernel_rfl) (by kernel_rfl) (by kernel_rfl) (f28_v a0 a1) (f28_o a0 a1) h
def f27_hn : Hn := Hn.mk [] [] [] [] [(4, [0, 2, 3, 10]), (9, [2, 3, 5])]
def f27_l3_D (p3_0 : List Int) (x : List Int × Int) : St := St.mk [(0, SV.av (AV.one (Lf.dat (K.sl (K.int IntKind.u8)) p3_0))), (2, SV.av (AV.one (Lf.ptr 30300 0 0 0 0))), (3, SV.av (AV.one (Lf.ptr 30301 0 0 0 0))), (10, SV.av (AV.one (Lf.v (Value.int IntKind.i64 (Prod.snd x)))))] [(30300, Blk.cells 59 [Lf.dat (K.arr 64 (K.int IntKind.u32)) (List.replicate 64 (0 : Int))]), (30301, Blk.cells 59 [Lf.dat (K.arr 64 (K.int IntKind.u32)) (Prod.fst x)])]
def f27_l3_E0 (p3_0 : List Int) (y : List Int) : St := St.mk [(2, SV.av (AV.one (Lf.ptr 60300 0 0 0 0))), (3, SV.av (AV.one (Lf.ptr 60301 0 0 0 0)))] [(60300, Blk.cells 59 [Lf.dat (K.arr 64 (K.int IntKind.u32)) (List.replicate 64 (0 : Int))]), (60301, Blk.cells 59 [Lf.dat (K.arr 64 (K.int IntKind.u32)) y])]
def f27_l3_E (p3_0 : List Int) : List Int → Ex × St
  | y => (Ex.exit 0, f27_l3_E0 p3_0 y)
def f27_s0 (p3_0 : List Int) (x : List Int × Int) : Int := ior IntKind.u32 (ior IntKind.u32 (shl IntKind.u32 (icv IntKind.u32 (gd (K.int IntKind.u8) p3_0 (Int.toNat (imul IntKind.i64 4 (Prod.snd x))))) 24) (shl IntKind.u32 (icv IntKind.u32 (gd (K.int IntKind.u8) p3_0 (Int.toNat (iadd IntKind.i64 (imul IntKind.i64 4 (Prod.snd x)) 1)))) 16)) (shl IntKind.u32 (icv IntKind.u32 (gd (K.int IntKind.u8) p3_0 (Int.toNat (iadd IntKind.i64 (imul IntKind.i64 4 (Prod.snd x)) 2)))) 8)
noncomputable def f27_l3_t (p3_0 : List Int) (x : List Int × Int) : DT (Ex × St) ((List Int × Int) ⊕ (List Int)) :=
 (.ask (ilt (Prod.snd x) 16)
 (.need (ile 0 (imul IntKind.i64 4 (Prod.snd x))) true
 (.need (ilt (imul IntKind.i64 4 (Prod.snd x)) (llen p3_0)) true
 (.sure (true) true
 (.need (ile 0 (iadd IntKind.i64 (imul IntKind.i64 4 (Prod.snd x)) 1)) true
 (.need (ilt (iadd IntKind.i64 (imul IntKind.i64 4 (Prod.snd x)) 1) (llen p3_0)) true
 (.sure (true) true
 (.need (ile 0 (iadd IntKind.i64 (imul IntKind.i64 4 (Prod.snd x)) 2)) true
 (.need (ilt (iadd IntKind.i64 (imul IntKind.i64 4 (Prod.snd x)) 2) (llen p3_0)) true
 (.sure (true) true
 (.need (ile 0 (iadd IntKind.i64 (imul IntKind.i64 4 (Prod.snd x)) 3)) true
 (.need (ilt (iadd IntKind.i64 (imul IntKind.i64 4 (Prod.snd x)) 3) (llen p3_0)) true
 (.need (ile 0 (Prod.snd x)) true
 (.need (ilt (Prod.snd x) 64) true
 (.need (nlt (Int.toNat (Prod.snd x)) 64) true
 (.leaf (Vam.Ex.normal, St.mk [(0, SV.av (AV.one (Lf.dat (K.sl (K.int IntKind.u8)) p3_0))), (2, SV.av (AV.one (Lf.ptr 30300 0 0 0 0))), (3, SV.av (AV.one (Lf.ptr 30301 0 0 0 0))), (10, SV.av (AV.one (Lf.v (Value.int IntKind.i64 (iadd IntKind.i64 (Prod.snd x) 1)))))] [(30300, Blk.cells 59 [Lf.dat (K.arr 64 (K.int IntKind.u32)) (List.replicate 64 (0 : Int))]), (30301, Blk.cells 59 [Lf.dat (K.arr 64 (K.int IntKind.u32)) (List.set (Prod.fst x) (Int.toNat (Prod.snd x)) (ior IntKind.u32 (f27_s0 p3_0 x) (icv IntKind.u32 (gd (K.int IntKind.u8) p3_0 (Int.toNat (iadd IntKind.i64 (imul IntKind.i64 4 (Prod.snd x)) 3))))))])]) (.inl ((List.set (Prod.fst x) (Int.toNat (Prod.snd x)) (ior IntKind.u32 (f27_s0 p3_0 x) (icv IntKind.u32 (gd (K.int IntKind.u8) p3_0 (Int.toNat (iadd IntKind.i64 (imul IntKind.i64 4 (Prod.snd x)) 3))))), iadd IntKind.i64 (Prod.snd x) 1))))))))))))))))))
 (.leaf (Ex.exit 0, St.mk [(0, SV.av (AV.one (Lf.dat (K.sl (K.int IntKind.u8)) p3_0))), (2, SV.av (AV.one (Lf.ptr 30300 0 0 0 0))), (3, SV.av (AV.one (Lf.ptr 30301 0 0 0 0))), (10, SV.av (AV.one (Lf.v (Value.int IntKind.i64 (Prod.snd x)))))] [(30300, Blk.cells 59 [Lf.dat (K.arr 64 (K.int IntKind.u32)) (List.replicate 64 (0 : Int))]), (30301, Blk.cells 59 [Lf.dat (K.arr 64 (K.int IntKind.u32)) (Prod.fst x)])]) (.inr (Prod.fst x))))
theorem f27_l3_v (p3_0 : List Int) (x : List Int × Int) : vc (execK P noG Tryd.f27.ntmps f27_hn [0, 2, 3, 10] (loopOf Tryd.f27 3) (f27_l3_D p3_0 x)) (f27_l3_t p3_0 x) = vcT (f27_l3_t p3_0 x) := by kernel_rfl
theorem f27_l3_o (d : Nat) (p3_0 : List Int) (x : List Int × Int) : obl (Snd P noG) (Lp P noG Tryd.f27.ntmps [] f27_hn d) (RelL Tryd.f27.ntmps noG [] (f27_l3_D p3_0) (f27_l3_E p3_0)) (f27_l3_t p3_0 x) := by
 unfold f27_l3_t
 exact (oAsk (fun h0 => (oNeed fun h1 => (oNeed fun h2 => (oSure rfl (oNeed fun h3 => (oNeed fun h4 => (oSure rfl (oNeed fun h5 => (oNeed fun h6 => (oSure rfl (oNeed fun h7 => (oNeed fun h8 => (oNeed fun h9 => (oNeed fun h10 => (oNeed fun h11 => (oLeaf (relN (wk_tw [(30301, 30301), (30300, 30300)] [0, 2, 3, 10] [] (by kernel_rfl) (by kernel_rfl)))))))))))))))))))
 (fun h0 => (oLeaf (relE rfl (wk_tw [(30301, 60301), (30300, 60300)] [2, 3] [] (by kernel_rfl) (by kernel_rfl))))))
noncomputable def f27_l3_m (p3_0 : List Int) (x : List Int × Int) : Option (List Int) := lrun (fun x => mod (f27_l3_t p3_0 x)) x
theorem f27_l3_e (p3_0 : List Int) (x : List Int × Int) : mod (f27_l3_t p3_0 x) =
 (sel (ilt (Prod.snd x) 16)
 (sel (ile 0 (imul IntKind.i64 4 (Prod.snd x)))
 (sel (ilt (imul IntKind.i64 4 (Prod.snd x)) (llen p3_0))
 (sel (ile 0 (iadd IntKind.i64 (imul IntKind.i64 4 (Prod.snd x)) 1))
 (sel (ilt (iadd IntKind.i64 (imul IntKind.i64 4 (Prod.snd x)) 1) (llen p3_0))
 (sel (ile 0 (iadd IntKind.i64 (imul IntKind.i64 4 (Prod.snd x)) 2))
 (sel (ilt (iadd IntKind.i64 (imul IntKind.i64 4 (Prod.snd x)) 2) (llen p3_0))
 (sel (ile 0 (iadd IntKind.i64 (imul IntKind.i64 4 (Prod.snd x)) 3))
 (sel (ilt (iadd IntKind.i64 (imul IntKind.i64 4 (Prod.snd x)) 3) (llen p3_0))
 (sel (ile 0 (Prod.snd x))
 (sel (ilt (Prod.snd x) 64)
 (sel (nlt (Int.toNat (Prod.snd x)) 64)
 (some ((.inl ((List.set (Prod.fst x) (Int.toNat (Prod.snd x)) (ior IntKind.u32 (f27_s0 p3_0 x) (icv IntKind.u32 (gd (K.int IntKind.u8) p3_0 (Int.toNat (iadd IntKind.i64 (imul IntKind.i64 4 (Prod.snd x)) 3))))), iadd IntKind.i64 (Prod.snd x) 1))))) none) none) none) none) none) none) none) none) none) none) none)
 (some ((.inr (Prod.fst x))))) := by kernel_rfl
theorem f27_l3_s0 (d : Nat) {p3_0 : List Int} {σ : St} {x : List Int × Int} {z : List Int} (h : f27_l3_m p3_0 x = some z) (hw : Wk Tryd.f27.ntmps noG [] σ (f27_l3_D p3_0 x)) : Lp P noG Tryd.f27.ntmps [] f27_hn (d + 1) (loopOf Tryd.f27 3) σ (Ex.exit 0) (f27_l3_E0 p3_0 z) :=
 lp_tree (D := f27_l3_D p3_0) (E := f27_l3_E p3_0) (f27_l3_v p3_0) (f27_l3_o d p3_0) h hw
def f27_l8_D  (x : List Int × Int) : St := St.mk [(2, SV.av (AV.one (Lf.ptr 30800 0 0 0 0))), (3, SV.av (AV.one (Lf.ptr 30801 0 0 0 0))), (5, SV.av (AV.one (Lf.v (Value.int IntKind.i64 (Prod.snd x)))))] [(30800, Blk.cells 59 [Lf.dat (K.arr 64 (K.int IntKind.u32)) (List.replicate 64 (0 : Int))]), (30801, Blk.cells 59 [Lf.dat (K.arr 64 (K.int IntKind.u32)) (Prod.fst x)])]
def f27_l8_E0  (y : List Int) : St := St.mk [(2, SV.av (AV.one (Lf.ptr 60800 0 0 0 0))), (3, SV.av (AV.one (Lf.ptr 60801 0 0 0 0)))] [(60800, Blk.cells 59 [Lf.dat (K.arr 64 (K.int IntKind.u32)) (List.replicate 64 (0 : Int))]), (60801, Blk.cells 59 [Lf.dat (K.arr 64 (K.int IntKind.u32)) y])]
def f27_l8_E  : List Int → Ex × St
  | y => (Ex.exit 2, f27_l8_E0  y)
def f27_s1 (x : List Int × Int) (z150 : Int) (z158 : Int) : Int := iadd IntKind.u32 (iadd IntKind.u32 (gd (K.int IntKind.u32) (Prod.fst x) (Int.toNat (isub IntKind.i64 (Prod.snd x) 16))) (ixor IntKind.u32 (ixor IntKind.u32 z150 z158) (shr IntKind.u32 (gd (K.int IntKind.u32) (Prod.fst x) (Int.toNat (isub IntKind.i64 (Prod.snd x) 15))) 3))) (gd (K.int IntKind.u32) (Prod.fst x) (Int.toNat (isub IntKind.i64 (Prod.snd x) 7)))
noncomputable def f27_l8_t  (x : List Int × Int) : DT (Ex × St) ((List Int × Int) ⊕ (List Int)) :=
 (.ask (ilt (Prod.snd x) 64)
 (.need (ile 0 (isub IntKind.i64 (Prod.snd x) 15)) true
 (.need (ilt (isub IntKind.i64 (Prod.snd x) 15) 64) true
 (.need (nlt (Int.toNat (isub IntKind.i64 (Prod.snd x) 15)) 64) true
 (.need (ile 0 (isub IntKind.i64 (Prod.snd x) 2)) true
 (.need (ilt (isub IntKind.i64 (Prod.snd x) 2) 64) true
 (.need (nlt (Int.toNat (isub IntKind.i64 (Prod.snd x) 2)) 64) true
 (.call 28 [AV.one (Lf.v (Value.int IntKind.u32 (gd (K.int IntKind.u32) (Prod.fst x) (Int.toNat (isub IntKind.i64 (Prod.snd x) 15))))), AV.one (Lf.v (Value.int IntKind.i64 (-7)))] [] (f28_m (gd (K.int IntKind.u32) (Prod.fst x) (Int.toNat (isub IntKind.i64 (Prod.snd x) 15))) (-7)) (fun z150 => SV.av (AV.one (Lf.v (Value.int IntKind.u32 z150)))) (fun z150 => []) fun z150 =>
 (.call 28 [AV.one (Lf.v (Value.int IntKind.u32 (gd (K.int IntKind.u32) (Prod.fst x) (Int.toNat (isub IntKind.i64 (Prod.snd x) 15))))), AV.one (Lf.v (Value.int IntKind.i64 (-18)))] [] (f28_m (gd (K.int IntKind.u32) (Prod.fst x) (Int.toNat (isub IntKind.i64 (Prod.snd x) 15))) (-18)) (fun z158 => SV.av (AV.one (Lf.v (Value.int IntKind.u32 z158)))) (fun z158 => []) fun z158 =>
 (.sure (true) true
 (.call 28 [AV.one (Lf.v (Value.int IntKind.u32 (gd (K.int IntKind.u32) (Prod.fst x) (Int.toNat (isub IntKind.i64 (Prod.snd x) 2))))), AV.one (Lf.v (Value.int IntKind.i64 (-17)))] [] (f28_m (gd (K.int IntKind.u32) (Prod.fst x) (Int.toNat (isub IntKind.i64 (Prod.snd x) 2))) (-17)) (fun z166 => SV.av (AV.one (Lf.v (Value.int IntKind.u32 z166)))) (fun z166 => []) fun z166 =>
 (.call 28 [AV.one (Lf.v (Value.int IntKind.u32 (gd (K.int IntKind.u32) (Prod.fst x) (Int.toNat (isub IntKind.i64 (Prod.snd x) 2))))), AV.one (Lf.v (Value.int IntKind.i64 (-19)))] [] (f28_m (gd (K.int IntKind.u32) (Prod.fst x) (Int.toNat (isub IntKind.i64 (Prod.snd x) 2))) (-19)) (fun z174 => SV.av (AV.one (Lf.v (Value.int IntKind.u32 z174)))) (fun z174 => []) fun z174 =>
 (.sure (true) true
 (.need (ile 0 (isub IntKind.i64 (Prod.snd x) 16)) true
 (.need (ilt (isub IntKind.i64 (Prod.snd x) 16) 64) true
 (.need (nlt (Int.toNat (isub IntKind.i64 (Prod.snd x) 16)) 64) true
 (.need (ile 0 (isub IntKind.i64 (Prod.snd x) 7)) true
 (.need (ilt (isub IntKind.i64 (Prod.snd x) 7) 64) true
 (.need (nlt (Int.toNat (isub IntKind.i64 (Prod.snd x) 7)) 64) true
 (.need (ile 0 (Prod.snd x)) true
 (.sure (ilt (Prod.snd x) 64) true
 (.need (nlt (Int.toNat (Prod.snd x)) 64) true
 (.leaf (Vam.Ex.normal, St.mk [(2, SV.av (AV.one (Lf.ptr 30800 0 0 0 0))), (3, SV.av (AV.one (Lf.ptr 30801 0 0 0 0))), (5, SV.av (AV.one (Lf.v (Value.int IntKind.i64 (iadd IntKind.i64 (Prod.snd x) 1)))))] [(30800, Blk.cells 59 [Lf.dat (K.arr 64 (K.int IntKind.u32)) (List.replicate 64 (0 : Int))]), (30801, Blk.cells 59 [Lf.dat (K.arr 64 (K.int IntKind.u32)) (List.set (Prod.fst x) (Int.toNat (Prod.snd x)) (iadd IntKind.u32 (f27_s1 x z150 z158) (ixor IntKind.u32 (ixor IntKind.u32 z166 z174) (shr IntKind.u32 (gd (K.int IntKind.u32) (Prod.fst x) (Int.toNat (isub IntKind.i64 (Prod.snd x) 2))) 10))))])]) (.inl ((List.set (Prod.fst x) (Int.toNat (Prod.snd x)) (iadd IntKind.u32 (f27_s1 x z150 z158) (ixor IntKind.u32 (ixor IntKind.u32 z166 z174) (shr IntKind.u32 (gd (K.int IntKind.u32) (Prod.fst x) (Int.toNat (isub IntKind.i64 (Prod.snd x) 2))) 10))), iadd IntKind.i64 (Prod.snd x) 1)))))))))))))))))))))))))
 (.leaf (Ex.exit 2, St.mk [(2, SV.av (AV.one (Lf.ptr 30800 0 0 0 0))), (3, SV.av (AV.one (Lf.ptr 30801 0 0 0 0))), (5, SV.av (AV.one (Lf.v (Value.int IntKind.i64 (Prod.snd x)))))] [(30800, Blk.cells 59 [Lf.dat (K.arr 64 (K.int IntKind.u32)) (List.replicate 64 (0 : Int))]), (30801, Blk.cells 59 [Lf.dat (K.arr 64 (K.int IntKind.u32)) (Prod.fst x)])]) (.inr (Prod.fst x))))
theorem f27_l8_v  (x : List Int × Int) : vc (execK P noG Tryd.f27.ntmps f27_hn [2, 3, 5] (loopOf Tryd.f27 8) (f27_l8_D  x)) (f27_l8_t  x) = vcT (f27_l8_t  x) := by kernel_rfl
theorem f27_l8_o (d : Nat)  (x : List Int × Int) : obl (Snd P noG) (Lp P noG Tryd.f27.ntmps [] f27_hn d) (RelL Tryd.f27.ntmps noG [] (f27_l8_D ) (f27_l8_E )) (f27_l8_t  x) := by
 unfold f27_l8_t
 exact (oAsk (fun h0 => (oNeed fun h1 => (oNeed fun h2 => (oNeed fun h3 => (oNeed fun h4 => (oNeed fun h5 => (oNeed fun h6 => (oCall (fun _ e => f28_s e) fun z150 _ =>
 (oCall (fun _ e => f28_s e) fun z158 _ =>
 (oSure rfl (oCall (fun _ e => f28_s e) fun z166 _ =>
 (oCall (fun _ e => f28_s e) fun z174 _ =>
 (oSure rfl (oNeed fun h7 => (oNeed fun h8 => (oNeed fun h9 => (oNeed fun h10 => (oNeed fun h11 => (oNeed fun h12 => (oNeed fun h13 => (oSure h0 (oNeed fun h14 => (oLeaf (relN (wk_tw [(30801, 30801), (30800, 30800)] [2, 3, 5] [] (by kernel_rfl) (by kernel_rfl))))))))))))))))))))))))))
 (fun h0 => (oLeaf (relE rfl (wk_tw [(30801, 60801), (30800, 60800)] [2, 3] [] (by kernel_rfl) (by kernel_rfl))))))
noncomputable def f27_l8_m  (x : List Int × Int) : Option (List Int) := lrun (fun x => mod (f27_l8_t  x)) x
theorem f27_l8_e  (x : List Int × Int) : mod (f27_l8_t  x) =
 (sel (ilt (Prod.snd x) 64)
 (sel (ile 0 (isub IntKind.i64 (Prod.snd x) 15))
 (sel (ilt (isub IntKind.i64 (Prod.snd x) 15) 64)
 (sel (nlt (Int.toNat (isub IntKind.i64 (Prod.snd x) 15)) 64)
 (sel (ile 0 (isub IntKind.i64 (Prod.snd x) 2))
 (sel (ilt (isub IntKind.i64 (Prod.snd x) 2) 64)
 (sel (nlt (Int.toNat (isub IntKind.i64 (Prod.snd x) 2)) 64)
 (Option.bind (f28_m (gd (K.int IntKind.u32) (Prod.fst x) (Int.toNat (isub IntKind.i64 (Prod.snd x) 15))) (-7)) fun z150 =>
 (Option.bind (f28_m (gd (K.int IntKind.u32) (Prod.fst x) (Int.toNat (isub IntKind.i64 (Prod.snd x) 15))) (-18)) fun z158 =>
 (Option.bind (f28_m (gd (K.int IntKind.u32) (Prod.fst x) (Int.toNat (isub IntKind.i64 (Prod.snd x) 2))) (-17)) fun z166 =>
 (Option.bind (f28_m (gd (K.int IntKind.u32) (Prod.fst x) (Int.toNat (isub IntKind.i64 (Prod.snd x) 2))) (-19)) fun z174 =>
 (sel (ile 0 (isub IntKind.i64 (Prod.snd x) 16))
 (sel (ilt (isub IntKind.i64 (Prod.snd x) 16) 64)
 (sel (nlt (Int.toNat (isub IntKind.i64 (Prod.snd x) 16)) 64)
 (sel (ile 0 (isub IntKind.i64 (Prod.snd x) 7))
 (sel (ilt (isub IntKind.i64 (Prod.snd x) 7) 64)
 (sel (nlt (Int.toNat (isub IntKind.i64 (Prod.snd x) 7)) 64)
 (sel (ile 0 (Prod.snd x))
 (sel (nlt (Int.toNat (Prod.snd x)) 64)
 (some ((.inl ((List.set (Prod.fst x) (Int.toNat (Prod.snd x)) (iadd IntKind.u32 (f27_s1 x z150 z158) (ixor IntKind.u32 (ixor IntKind.u32 z166 z174) (shr IntKind.u32 (gd (K.int IntKind.u32) (Prod.fst x) (Int.toNat (isub IntKind.i64 (Prod.snd x) 2))) 10))), iadd IntKind.i64 (Prod.snd x) 1))))) none) none) none) none) none) none) none) none))))) none) none) none) none) none) none)
 (some ((.inr (Prod.fst x))))) := by kernel_rfl
theorem f27_l8_s0 (d : Nat)  {σ : St} {x : List Int × Int} {z : List Int} (h : f27_l8_m  x = some z) (hw : Wk Tryd.f27.ntmps noG [] σ (f27_l8_D  x)) : Lp P noG Tryd.f27.ntmps [] f27_hn (d + 1) (loopOf Tryd.f27 8) σ (Ex.exit 2) (f27_l8_E0  z) :=
 lp_tree (D := f27_l8_D ) (E := f27_l8_E ) (f27_l8_v ) (f27_l8_o d ) h hw
def f27_R (a0 : List Int) : List Int → SV × Hp
  | z => (SV.av (AV.one (Lf.dat (K.arr 64 (K.int IntKind.u32)) z)), [])
noncomputable def f27_t (a0 : List Int) : DT (SV × Hp) (List Int) :=
 (.loop (loopOf Tryd.f27 3) (St.mk [(0, SV.av (AV.one (Lf.dat (K.sl (K.int IntKind.u8)) a0))), (2, SV.av (AV.one (Lf.ptr 2 0 0 0 0))), (3, SV.av (AV.one (Lf.ptr 3 0 0 0 0))), (10, SV.av (AV.one (Lf.v (Value.int IntKind.i64 0))))] [(2, Blk.cells 59 [Lf.dat (K.arr 64 (K.int IntKind.u32)) (List.replicate 64 (0 : Int))]), (3, Blk.cells 59 [Lf.dat (K.arr 64 (K.int IntKind.u32)) (List.replicate 64 (0 : Int))])]) (f27_l3_m a0 (List.replicate 64 0, 0)) (Ex.exit 0) (f27_l3_E0 a0) fun z175 =>
 (.loop (loopOf Tryd.f27 8) (St.mk [(2, SV.av (AV.one (Lf.ptr 60300 0 0 0 0))), (3, SV.av (AV.one (Lf.ptr 60301 0 0 0 0))), (5, SV.av (AV.one (Lf.v (Value.int IntKind.i64 16))))] [(60300, Blk.cells 59 [Lf.dat (K.arr 64 (K.int IntKind.u32)) (List.replicate 64 (0 : Int))]), (60301, Blk.cells 59 [Lf.dat (K.arr 64 (K.int IntKind.u32)) z175])]) (f27_l8_m (z175, 16)) (Ex.exit 2) (f27_l8_E0) fun z176 =>
 (.leaf (SV.av (AV.one (Lf.dat (K.arr 64 (K.int IntKind.u32)) z176)), [(60800, Blk.cells 59 [Lf.dat (K.arr 64 (K.int IntKind.u32)) z176]), (60801, Blk.cells 59 [Lf.dat (K.arr 64 (K.int IntKind.u32)) z176])]) (z176))))
theorem f27_v (a0 : List Int) : vc (runR P noG Tryd.f27 f27_hn [AV.one (Lf.dat (K.sl (K.int IntKind.u8)) a0)] []) (f27_t a0) = vcT (f27_t a0) := by kernel_rfl
theorem f27_o (a0 : List Int) : obl (Snd P noG) (Lp P noG Tryd.f27.ntmps [] f27_hn 1) (RelF [] (f27_R a0)) (f27_t a0) := by
 unfold f27_t
 exact (oLoop (fun _ e => f27_l3_s0 0 e (wk_tw [(3, 30301), (2, 30300)] [0, 2, 3, 10] [] (by kernel_rfl) (by kernel_rfl))) fun z175 _ =>
 (oLoop (fun _ e => f27_l8_s0 0 e (wk_tw [(60301, 30801), (60300, 30800)] [2, 3, 5] [] (by kernel_rfl) (by kernel_rfl))) fun z176 _ =>
 (oLeaf (wks_tw [] [] (by kernel_rfl) (by kernel_rfl)))))
noncomputable def f27_m (a0 : List Int) : Option (List Int) := mod (f27_t a0)
theorem f27_e (a0 : List Int) : f27_m a0 =
 (Option.bind (f27_l3_m a0 (List.replicate 64 0, 0)) fun z175 =>
 (Option.bind (f27_l8_m (z175, 16)) fun z176 =>
 (some ((z176))))) := by kernel_rfl
theorem f27_s {a0 : List Int} {z : List Int} (h : f27_m a0 = some z) : Snd P noG 27 [AV.one (Lf.dat (K.sl (K.int IntKind.u8)) a0)] [] (SV.av (AV.one (Lf.dat (K.arr 64 (K.int IntKind.u32)) z))) [] :=
 snd_tree (hn := f27_hn) 1 (f27_R a0) mixed (by kernel_rfl) (by kernel_rfl) (by kernel_rfl) (by kernel_rfl) (by kernel_rfl) (f27_v a0) (f27_o a0) h
def f24_hn : Hn := Hn.mk [] [] [] [] [(5, [2, 4, 5, 6, 16]), (13, [2, 4, 6, 98])]
def f24_l4_D (p4_5 : List Int) (p4_6 : List Int) (x : List Int × Int) : St := St.mk [(2, SV.av (AV.one (Lf.ptr 30400 0 0 0 0))), (4, SV.av (AV.one (Lf.ptr 30401 0 0 0 0))), (5, SV.av (AV.one (Lf.ptr 30402 0 0 0 0))), (6, SV.av (AV.one (Lf.ptr 30403 0 0 0 0))), (16, SV.av (AV.one (Lf.v (Value.int IntKind.i64 (Prod.snd x)))))] [(30400, Blk.cells 56 [Lf.dat (K.arr 8 (K.int IntKind.u32)) p4_5]), (30401, Blk.cells 56 [Lf.dat (K.arr 8 (K.int IntKind.u32)) [0, 0, 0, 0, 0, 0, 0, 0]]), (30402, Blk.cells 59 [Lf.dat (K.arr 64 (K.int IntKind.u32)) p4_6]), (30403, Blk.cells 56 [Lf.dat (K.arr 8 (K.int IntKind.u32)) (Prod.fst x)])]
def f24_l4_E0 (p4_5 : List Int) (p4_6 : List Int) (y : List Int) : St := St.mk [(2, SV.av (AV.one (Lf.ptr 60400 0 0 0 0))), (4, SV.av (AV.one (Lf.ptr 60401 0 0 0 0))), (6, SV.av (AV.one (Lf.ptr 60402 0 0 0 0)))] [(60400, Blk.cells 56 [Lf.dat (K.arr 8 (K.int IntKind.u32)) p4_5]), (60401, Blk.cells 56 [Lf.dat (K.arr 8 (K.int IntKind.u32)) [0, 0, 0, 0, 0, 0, 0, 0]]), (60402, Blk.cells 56 [Lf.dat (K.arr 8 (K.int IntKind.u32)) y])]
def f24_l4_E (p4_5 : List Int) (p4_6 : List Int) : List Int → Ex × St
  | y => (Ex.exit 0, f24_l4_E0 p4_5 p4_6 y)
def f24_s0 (x : List Int × Int) (z342 : Int) (z350 : Int) (z358 : Int) : Int := iadd IntKind.u32 (iadd IntKind.u32 (gd (K.int IntKind.u32) (Prod.fst x) 7) (ixor IntKind.u32 (ixor IntKind.u32 z342 z350) z358)) (ixor IntKind.u32 (iand IntKind.u32 (gd (K.int IntKind.u32) (Prod.fst x) 4) (gd (K.int IntKind.u32) (Prod.fst x) 5)) (iand IntKind.u32 (icom IntKind.u32 (gd (K.int IntKind.u32) (Prod.fst x) 4)) (gd (K.int IntKind.u32) (Prod.fst x) 6)))
def f24_s1 (x : List Int × Int) : Int := ixor IntKind.u32 (ixor IntKind.u32 (iand IntKind.u32 (gd (K.int IntKind.u32) (Prod.fst x) 0) (gd (K.int IntKind.u32) (Prod.fst x) 1)) (iand IntKind.u32 (gd (K.int IntKind.u32) (Prod.fst x) 0) (gd (K.int IntKind.u32) (Prod.fst x) 2))) (iand IntKind.u32 (gd (K.int IntKind.u32) (Prod.fst x) 1) (gd (K.int IntKind.u32) (Prod.fst x) 2))
noncomputable def f24_l4_t (p4_5 : List Int) (p4_6 : List Int) (x : List Int × Int) : DT (Ex × St) ((List Int × Int) ⊕ (List Int)) :=
 (.ask (ilt (Prod.snd x) 64)
 (.sure (true) true
 (.sure (true) true
 (.sure (true) true
 (.sure (true) true
 (.sure (true) true
 (.sure (true) true
 (.sure (true) true
 (.sure (true) true
 (.sure (true) true
 (.call 28 [AV.one (Lf.v (Value.int IntKind.u32 (gd (K.int IntKind.u32) (Prod.fst x) 4))), AV.one (Lf.v (Value.int IntKind.i64 (-6)))] [] (f28_m (gd (K.int IntKind.u32) (Prod.fst x) 4) (-6)) (fun z342 => SV.av (AV.one (Lf.v (Value.int IntKind.u32 z342)))) (fun z342 => []) fun z342 =>
 (.call 28 [AV.one (Lf.v (Value.int IntKind.u32 (gd (K.int IntKind.u32) (Prod.fst x) 4))), AV.one (Lf.v (Value.int IntKind.i64 (-11)))] [] (f28_m (gd (K.int IntKind.u32) (Prod.fst x) 4) (-11)) (fun z350 => SV.av (AV.one (Lf.v (Value.int IntKind.u32 z350)))) (fun z350 => []) fun z350 =>
 (.call 28 [AV.one (Lf.v (Value.int IntKind.u32 (gd (K.int IntKind.u32) (Prod.fst x) 4))), AV.one (Lf.v (Value.int IntKind.i64 (-25)))] [] (f28_m (gd (K.int IntKind.u32) (Prod.fst x) 4) (-25)) (fun z358 => SV.av (AV.one (Lf.v (Value.int IntKind.u32 z358)))) (fun z358 => []) fun z358 =>
 (.sure (true) true
 (.sure (true) true
 (.sure (true) true
 (.sure (true) true
 (.sure (true) true
 (.sure (true) true
 (.need (ile 0 (Prod.snd x)) true
 (.sure (ilt (Prod.snd x) 64) true
 (.sure (ile 0 (Prod.snd x)) true
 (.sure (ilt (Prod.snd x) 64) true
 (.need (nlt (Int.toNat (Prod.snd x)) 64) true
 (.call 28 [AV.one (Lf.v (Value.int IntKind.u32 (gd (K.int IntKind.u32) (Prod.fst x) 0))), AV.one (Lf.v (Value.int IntKind.i64 (-2)))] [] (f28_m (gd (K.int IntKind.u32) (Prod.fst x) 0) (-2)) (fun z366 => SV.av (AV.one (Lf.v (Value.int IntKind.u32 z366)))) (fun z366 => []) fun z366 =>
 (.call 28 [AV.one (Lf.v (Value.int IntKind.u32 (gd (K.int IntKind.u32) (Prod.fst x) 0))), AV.one (Lf.v (Value.int IntKind.i64 (-13)))] [] (f28_m (gd (K.int IntKind.u32) (Prod.fst x) 0) (-13)) (fun z374 => SV.av (AV.one (Lf.v (Value.int IntKind.u32 z374)))) (fun z374 => []) fun z374 =>
 (.call 28 [AV.one (Lf.v (Value.int IntKind.u32 (gd (K.int IntKind.u32) (Prod.fst x) 0))), AV.one (Lf.v (Value.int IntKind.i64 (-22)))] [] (f28_m (gd (K.int IntKind.u32) (Prod.fst x) 0) (-22)) (fun z382 => SV.av (AV.one (Lf.v (Value.int IntKind.u32 z382)))) (fun z382 => []) fun z382 =>
 (.sure (true) true
 (.sure (true) true
 (.sure (true) true
 (.sure (true) true
 (.sure (true) true
 (.sure (true) true
 (.sure (true) true
 (.sure (true) true
 (.sure (true) true
 (.sure (true) true
 (.sure (true) true
 (.sure (true) true
 (.sure (true) true
 (.sure (true) true
 (.sure (true) true
 (.sure (true) true
 (.sure (true) true
 (.sure (true) true
 (.sure (true) true
 (.sure (true) true
 (.sure (true) true
 (.sure (true) true
 (.sure (true) true
 (.sure (true) true
 (.sure (true) true
 (.sure (true) true
 (.sure (true) true
 (.sure (true) true
 (.sure (true) true
 (.sure (true) true
 (.sure (true) true
 (.sure (true) true
 (.sure (true) true
 (.leaf (Vam.Ex.normal, St.mk [(2, SV.av (AV.one (Lf.ptr 30400 0 0 0 0))), (4, SV.av (AV.one (Lf.ptr 30401 0 0 0 0))), (5, SV.av (AV.one (Lf.ptr 30402 0 0 0 0))), (6, SV.av (AV.one (Lf.ptr 30403 0 0 0 0))), (16, SV.av (AV.one (Lf.v (Value.int IntKind.i64 (iadd IntKind.i64 (Prod.snd x) 1)))))] [(30400, Blk.cells 56 [Lf.dat (K.arr 8 (K.int IntKind.u32)) p4_5]), (30401, Blk.cells 56 [Lf.dat (K.arr 8 (K.int IntKind.u32)) [0, 0, 0, 0, 0, 0, 0, 0]]), (30402, Blk.cells 59 [Lf.dat (K.arr 64 (K.int IntKind.u32)) p4_6]), (30403, Blk.cells 56 [Lf.dat (K.arr 8 (K.int IntKind.u32)) [iadd IntKind.u32 (iadd IntKind.u32 (iadd IntKind.u32 (f24_s0 x z342 z350 z358) (gd (K.int IntKind.u32) constL (Int.toNat (Prod.snd x)))) (gd (K.int IntKind.u32) p4_6 (Int.toNat (Prod.snd x)))) (iadd IntKind.u32 (ixor IntKind.u32 (ixor IntKind.u32 z366 z374) z382) (f24_s1 x)), gd (K.int IntKind.u32) (Prod.fst x) 0, gd (K.int IntKind.u32) (Prod.fst x) 1, gd (K.int IntKind.u32) (Prod.fst x) 2, iadd IntKind.u32 (gd (K.int IntKind.u32) (Prod.fst x) 3) (iadd IntKind.u32 (iadd IntKind.u32 (f24_s0 x z342 z350 z358) (gd (K.int IntKind.u32) constL (Int.toNat (Prod.snd x)))) (gd (K.int IntKind.u32) p4_6 (Int.toNat (Prod.snd x)))), gd (K.int IntKind.u32) (Prod.fst x) 4, gd (K.int IntKind.u32) (Prod.fst x) 5, gd (K.int IntKind.u32) (Prod.fst x) 6]])]) (.inl (([iadd IntKind.u32 (iadd IntKind.u32 (iadd IntKind.u32 (f24_s0 x z342 z350 z358) (gd (K.int IntKind.u32) constL (Int.toNat (Prod.snd x)))) (gd (K.int IntKind.u32) p4_6 (Int.toNat (Prod.snd x)))) (iadd IntKind.u32 (ixor IntKind.u32 (ixor IntKind.u32 z366 z374) z382) (f24_s1 x)), gd (K.int IntKind.u32) (Prod.fst x) 0, gd (K.int IntKind.u32) (Prod.fst x) 1, gd (K.int IntKind.u32) (Prod.fst x) 2, iadd IntKind.u32 (gd (K.int IntKind.u32) (Prod.fst x) 3) (iadd IntKind.u32 (iadd IntKind.u32 (f24_s0 x z342 z350 z358) (gd (K.int IntKind.u32) constL (Int.toNat (Prod.snd x)))) (gd (K.int IntKind.u32) p4_6 (Int.toNat (Prod.snd x)))), gd (K.int IntKind.u32) (Prod.fst x) 4, gd (K.int IntKind.u32) (Prod.fst x) 5, gd (K.int IntKind.u32) (Prod.fst x) 6], iadd IntKind.i64 (Prod.snd x) 1)))))))))))))))))))))))))))))))))))))))))))))))))))))))))))))))
 (.leaf (Ex.exit 0, St.mk [(2, SV.av (AV.one (Lf.ptr 30400 0 0 0 0))), (4, SV.av (AV.one (Lf.ptr 30401 0 0 0 0))), (5, SV.av (AV.one (Lf.ptr 30402 0 0 0 0))), (6, SV.av (AV.one (Lf.ptr 30403 0 0 0 0))), (16, SV.av (AV.one (Lf.v (Value.int IntKind.i64 (Prod.snd x)))))] [(30400, Blk.cells 56 [Lf.dat (K.arr 8 (K.int IntKind.u32)) p4_5]), (30401, Blk.cells 56 [Lf.dat (K.arr 8 (K.int IntKind.u32)) [0, 0, 0, 0, 0, 0, 0, 0]]), (30402, Blk.cells 59 [Lf.dat (K.arr 64 (K.int IntKind.u32)) p4_6]), (30403, Blk.cells 56 [Lf.dat (K.arr 8 (K.int IntKind.u32)) (Prod.fst x)])]) (.inr (Prod.fst x))))
theorem f24_l4_v (p4_5 : List Int) (p4_6 : List Int) (x : List Int × Int) : vc (execK P noG Tryd.f24.ntmps f24_hn [2, 4, 5, 6, 16] (loopOf Tryd.f24 4) (f24_l4_D p4_5 p4_6 x)) (f24_l4_t p4_5 p4_6 x) = vcT (f24_l4_t p4_5 p4_6 x) := by kernel_rfl
theorem f24_l4_o (d : Nat) (p4_5 : List Int) (p4_6 : List Int) (x : List Int × Int) : obl (Snd P noG) (Lp P noG Tryd.f24.ntmps [] f24_hn d) (RelL Tryd.f24.ntmps noG [] (f24_l4_D p4_5 p4_6) (f24_l4_E p4_5 p4_6)) (f24_l4_t p4_5 p4_6 x) := by
 unfold f24_l4_t
 exact (oAsk (fun h0 => (oSure rfl (oSure rfl (oSure rfl (oSure rfl (oSure rfl (oSure rfl (oSure rfl (oSure rfl (oSure rfl (oCall (fun _ e => f28_s e) fun z342 _ =>
 (oCall (fun _ e => f28_s e) fun z350 _ =>
 (oCall (fun _ e => f28_s e) fun z358 _ =>
 (oSure rfl (oSure rfl (oSure rfl (oSure rfl (oSure rfl (oSure rfl (oNeed fun h1 => (oSure h0 (oSure h1 (oSure h0 (oNeed fun h2 => (oCall (fun _ e => f28_s e) fun z366 _ =>
 (oCall (fun _ e => f28_s e) fun z374 _ =>
 (oCall (fun _ e => f28_s e) fun z382 _ =>
 (oSure rfl (oSure rfl (oSure rfl (oSure rfl (oSure rfl (oSure rfl (oSure rfl (oSure rfl (oSure rfl (oSure rfl (oSure rfl (oSure rfl (oSure rfl (oSure rfl (oSure rfl (oSure rfl (oSure rfl (oSure rfl (oSure rfl (oSure rfl (oSure rfl (oSure rfl (oSure rfl (oSure rfl (oSure rfl (oSure rfl (oSure rfl (oSure rfl (oSure rfl (oSure rfl (oSure rfl (oSure rfl (oSure rfl (oLeaf (relN (wk_tw [(30403, 30403), (30402, 30402), (30401, 30401), (30400, 30400)] [2, 4, 5, 6, 16] [] (by kernel_rfl) (by kernel_rfl))))))))))))))))))))))))))))))))))))))))))))))))))))))))))))))))
 (fun h0 => (oLeaf (relE rfl (wk_tw [(30403, 60402), (30401, 60401), (30400, 60400)] [2, 4, 6] [] (by kernel_rfl) (by kernel_rfl))))))
noncomputable def f24_l4_m (p4_5 : List Int) (p4_6 : List Int) (x : List Int × Int) : Option (List Int) := lrun (fun x => mod (f24_l4_t p4_5 p4_6 x)) x
theorem f24_l4_e (p4_5 : List Int) (p4_6 : List Int) (x : List Int × Int) : mod (f24_l4_t p4_5 p4_6 x) =
 (sel (ilt (Prod.snd x) 64)
 (Option.bind (f28_m (gd (K.int IntKind.u32) (Prod.fst x) 4) (-6)) fun z342 =>
 (Option.bind (f28_m (gd (K.int IntKind.u32) (Prod.fst x) 4) (-11)) fun z350 =>
 (Option.bind (f28_m (gd (K.int IntKind.u32) (Prod.fst x) 4) (-25)) fun z358 =>
 (sel (ile 0 (Prod.snd x))
 (sel (nlt (Int.toNat (Prod.snd x)) 64)
 (Option.bind (f28_m (gd (K.int IntKind.u32) (Prod.fst x) 0) (-2)) fun z366 =>
 (Option.bind (f28_m (gd (K.int IntKind.u32) (Prod.fst x) 0) (-13)) fun z374 =>
 (Option.bind (f28_m (gd (K.int IntKind.u32) (Prod.fst x) 0) (-22)) fun z382 =>
 (some ((.inl (([iadd IntKind.u32 (iadd IntKind.u32 (iadd IntKind.u32 (f24_s0 x z342 z350 z358) (gd (K.int IntKind.u32) constL (Int.toNat (Prod.snd x)))) (gd (K.int IntKind.u32) p4_6 (Int.toNat (Prod.snd x)))) (iadd IntKind.u32 (ixor IntKind.u32 (ixor IntKind.u32 z366 z374) z382) (f24_s1 x)), gd (K.int IntKind.u32) (Prod.fst x) 0, gd (K.int IntKind.u32) (Prod.fst x) 1, gd (K.int IntKind.u32) (Prod.fst x) 2, iadd IntKind.u32 (gd (K.int IntKind.u32) (Prod.fst x) 3) (iadd IntKind.u32 (iadd IntKind.u32 (f24_s0 x z342 z350 z358) (gd (K.int IntKind.u32) constL (Int.toNat (Prod.snd x)))) (gd (K.int IntKind.u32) p4_6 (Int.toNat (Prod.snd x)))), gd (K.int IntKind.u32) (Prod.fst x) 4, gd (K.int IntKind.u32) (Prod.fst x) 5, gd (K.int IntKind.u32) (Prod.fst x) 6], iadd IntKind.i64 (Prod.snd x) 1)))))))) none) none))))
 (some ((.inr (Prod.fst x))))) := by kernel_rfl
theorem f24_l4_s0 (d : Nat) {p4_5 : List Int} {p4_6 : List Int} {σ : St} {x : List Int × Int} {z : List Int} (h : f24_l4_m p4_5 p4_6 x = some z) (hw : Wk Tryd.f24.ntmps noG [] σ (f24_l4_D p4_5 p4_6 x)) : Lp P noG Tryd.f24.ntmps [] f24_hn (d + 1) (loopOf Tryd.f24 4) σ (Ex.exit 0) (f24_l4_E0 p4_5 p4_6 z) :=
 lp_tree (D := f24_l4_D p4_5 p4_6) (E := f24_l4_E p4_5 p4_6) (f24_l4_v p4_5 p4_6) (f24_l4_o d p4_5 p4_6) h hw
def f24_l12_D (p12_118 : List Int) (x : List Int × Int) : St := St.mk [(2, SV.av (AV.one (Lf.ptr 31200 0 0 0 0))), (4, SV.av (AV.one (Lf.ptr 31201 0 0 0 0))), (6, SV.av (AV.one (Lf.ptr 31202 0 0 0 0))), (98, SV.av (AV.one (Lf.v (Value.int IntKind.i64 (Prod.snd x)))))] [(31200, Blk.cells 56 [Lf.dat (K.arr 8 (K.int IntKind.u32)) (Prod.fst x)]), (31201, Blk.cells 56 [Lf.dat (K.arr 8 (K.int IntKind.u32)) [0, 0, 0, 0, 0, 0, 0, 0]]), (31202, Blk.cells 56 [Lf.dat (K.arr 8 (K.int IntKind.u32)) p12_118])]
def f24_l12_E0 (p12_118 : List Int) (y : List Int) : St := St.mk [(2, SV.av (AV.one (Lf.ptr 61200 0 0 0 0))), (4, SV.av (AV.one (Lf.ptr 61201 0 0 0 0)))] [(61200, Blk.cells 56 [Lf.dat (K.arr 8 (K.int IntKind.u32)) y]), (61201, Blk.cells 56 [Lf.dat (K.arr 8 (K.int IntKind.u32)) [0, 0, 0, 0, 0, 0, 0, 0]])]
def f24_l12_E (p12_118 : List Int) : List Int → Ex × St
  | y => (Ex.exit 2, f24_l12_E0 p12_118 y)
noncomputable def f24_l12_t (p12_118 : List Int) (x : List Int × Int) : DT (Ex × St) ((List Int × Int) ⊕ (List Int)) :=
 (.ask (ilt (Prod.snd x) 8)
 (.need (ile 0 (Prod.snd x)) true
 (.sure (ilt (Prod.snd x) 8) true
 (.need (nlt (Int.toNat (Prod.snd x)) 8) true
 (.sure (ile 0 (Prod.snd x)) true
 (.sure (ilt (Prod.snd x) 8) true
 (.sure (nlt (Int.toNat (Prod.snd x)) 8) true
 (.sure (ile 0 (Prod.snd x)) true
 (.sure (ilt (Prod.snd x) 8) true
 (.sure (nlt (Int.toNat (Prod.snd x)) 8) true
 (.leaf (Vam.Ex.normal, St.mk [(2, SV.av (AV.one (Lf.ptr 31200 0 0 0 0))), (4, SV.av (AV.one (Lf.ptr 31201 0 0 0 0))), (6, SV.av (AV.one (Lf.ptr 31202 0 0 0 0))), (98, SV.av (AV.one (Lf.v (Value.int IntKind.i64 (iadd IntKind.i64 (Prod.snd x) 1)))))] [(31200, Blk.cells 56 [Lf.dat (K.arr 8 (K.int IntKind.u32)) (List.set (Prod.fst x) (Int.toNat (Prod.snd x)) (iadd IntKind.u32 (gd (K.int IntKind.u32) (Prod.fst x) (Int.toNat (Prod.snd x))) (gd (K.int IntKind.u32) p12_118 (Int.toNat (Prod.snd x)))))]), (31201, Blk.cells 56 [Lf.dat (K.arr 8 (K.int IntKind.u32)) [0, 0, 0, 0, 0, 0, 0, 0]]), (31202, Blk.cells 56 [Lf.dat (K.arr 8 (K.int IntKind.u32)) p12_118])]) (.inl ((List.set (Prod.fst x) (Int.toNat (Prod.snd x)) (iadd IntKind.u32 (gd (K.int IntKind.u32) (Prod.fst x) (Int.toNat (Prod.snd x))) (gd (K.int IntKind.u32) p12_118 (Int.toNat (Prod.snd x)))), iadd IntKind.i64 (Prod.snd x) 1)))))))))))))
 (.leaf (Ex.exit 2, St.mk [(2, SV.av (AV.one (Lf.ptr 31200 0 0 0 0))), (4, SV.av (AV.one (Lf.ptr 31201 0 0 0 0))), (6, SV.av (AV.one (Lf.ptr 31202 0 0 0 0))), (98, SV.av (AV.one (Lf.v (Value.int IntKind.i64 (Prod.snd x)))))] [(31200, Blk.cells 56 [Lf.dat (K.arr 8 (K.int IntKind.u32)) (Prod.fst x)]), (31201, Blk.cells 56 [Lf.dat (K.arr 8 (K.int IntKind.u32)) [0, 0, 0, 0, 0, 0, 0, 0]]), (31202, Blk.cells 56 [Lf.dat (K.arr 8 (K.int IntKind.u32)) p12_118])]) (.inr (Prod.fst x))))
theorem f24_l12_v (p12_118 : List Int) (x : List Int × Int) : vc (execK P noG Tryd.f24.ntmps f24_hn [2, 4, 6, 98] (loopOf Tryd.f24 12) (f24_l12_D p12_118 x)) (f24_l12_t p12_118 x) = vcT (f24_l12_t p12_118 x) := by kernel_rfl
theorem f24_l12_o (d : Nat) (p12_118 : List Int) (x : List Int × Int) : obl (Snd P noG) (Lp P noG Tryd.f24.ntmps [] f24_hn d) (RelL Tryd.f24.ntmps noG [] (f24_l12_D p12_118) (f24_l12_E p12_118)) (f24_l12_t p12_118 x) := by
 unfold f24_l12_t
 exact (oAsk (fun h0 => (oNeed fun h1 => (oSure h0 (oNeed fun h2 => (oSure h1 (oSure h0 (oSure h2 (oSure h1 (oSure h0 (oSure h2 (oLeaf (relN (wk_tw [(31202, 31202), (31201, 31201), (31200, 31200)] [2, 4, 6, 98] [] (by kernel_rfl) (by kernel_rfl))))))))))))))
 (fun h0 => (oLeaf (relE rfl (wk_tw [(31201, 61201), (31200, 61200)] [2, 4] [] (by kernel_rfl) (by kernel_rfl))))))
noncomputable def f24_l12_m (p12_118 : List Int) (x : List Int × Int) : Option (List Int) := lrun (fun x => mod (f24_l12_t p12_118 x)) x
theorem f24_l12_e (p12_118 : List Int) (x : List Int × Int) : mod (f24_l12_t p12_118 x) =
 (sel (ilt (Prod.snd x) 8)
 (sel (ile 0 (Prod.snd x))
 (sel (nlt (Int.toNat (Prod.snd x)) 8)
 (some ((.inl ((List.set (Prod.fst x) (Int.toNat (Prod.snd x)) (iadd IntKind.u32 (gd (K.int IntKind.u32) (Prod.fst x) (Int.toNat (Prod.snd x))) (gd (K.int IntKind.u32) p12_118 (Int.toNat (Prod.snd x)))), iadd IntKind.i64 (Prod.snd x) 1))))) none) none)
 (some ((.inr (Prod.fst x))))) := by kernel_rfl
theorem f24_l12_s0 (d : Nat) {p12_118 : List Int} {σ : St} {x : List Int × Int} {z : List Int} (h : f24_l12_m p12_118 x = some z) (hw : Wk Tryd.f24.ntmps noG [] σ (f24_l12_D p12_118 x)) : Lp P noG Tryd.f24.ntmps [] f24_hn (d + 1) (loopOf Tryd.f24 12) σ (Ex.exit 2) (f24_l12_E0 p12_118 z) :=
 lp_tree (D := f24_l12_D p12_118) (E := f24_l12_E p12_118) (f24_l12_v p12_118) (f24_l12_o d p12_118) h hw
def f24_R (a0 : List Int) (a1 : List Int) : List Int → SV × Hp
  | z => (SV.av (AV.one (Lf.dat (K.arr 8 (K.int IntKind.u32)) z)), [])
noncomputable def f24_t (a0 : List Int) (a1 : List Int) : DT (SV × Hp) (List Int) :=
 (.call 27 [AV.one (Lf.dat (K.sl (K.int IntKind.u8)) a1)] [] (f27_m a1) (fun z387 => SV.av (AV.one (Lf.dat (K.arr 64 (K.int IntKind.u32)) z387))) (fun z387 => []) fun z387 =>
 (.loop (loopOf Tryd.f24 4) (St.mk [(2, SV.av (AV.one (Lf.ptr 2 0 0 0 0))), (4, SV.av (AV.one (Lf.ptr 4 0 0 0 0))), (5, SV.av (AV.one (Lf.ptr 5 0 0 0 0))), (6, SV.av (AV.one (Lf.ptr 6 0 0 0 0))), (16, SV.av (AV.one (Lf.v (Value.int IntKind.i64 0))))] [(2, Blk.cells 56 [Lf.dat (K.arr 8 (K.int IntKind.u32)) a0]), (4, Blk.cells 56 [Lf.dat (K.arr 8 (K.int IntKind.u32)) [0, 0, 0, 0, 0, 0, 0, 0]]), (5, Blk.cells 59 [Lf.dat (K.arr 64 (K.int IntKind.u32)) z387]), (6, Blk.cells 56 [Lf.dat (K.arr 8 (K.int IntKind.u32)) a0])]) (f24_l4_m a0 z387 (a0, 0)) (Ex.exit 0) (f24_l4_E0 a0 z387) fun z388 =>
 (.loop (loopOf Tryd.f24 12) (St.mk [(2, SV.av (AV.one (Lf.ptr 60400 0 0 0 0))), (4, SV.av (AV.one (Lf.ptr 60401 0 0 0 0))), (6, SV.av (AV.one (Lf.ptr 60402 0 0 0 0))), (98, SV.av (AV.one (Lf.v (Value.int IntKind.i64 0))))] [(60400, Blk.cells 56 [Lf.dat (K.arr 8 (K.int IntKind.u32)) a0]), (60401, Blk.cells 56 [Lf.dat (K.arr 8 (K.int IntKind.u32)) [0, 0, 0, 0, 0, 0, 0, 0]]), (60402, Blk.cells 56 [Lf.dat (K.arr 8 (K.int IntKind.u32)) z388])]) (f24_l12_m z388 (a0, 0)) (Ex.exit 2) (f24_l12_E0 z388) fun z389 =>
 (.leaf (SV.av (AV.one (Lf.dat (K.arr 8 (K.int IntKind.u32)) z389)), [(61200, Blk.cells 56 [Lf.dat (K.arr 8 (K.int IntKind.u32)) z389]), (61201, Blk.cells 56 [Lf.dat (K.arr 8 (K.int IntKind.u32)) z389])]) (z389)))))
theorem f24_v (a0 : List Int) (a1 : List Int) : vc (runR P noG Tryd.f24 f24_hn [AV.one (Lf.dat (K.arr 8 (K.int IntKind.u32)) a0), AV.one (Lf.dat (K.sl (K.int IntKind.u8)) a1)] []) (f24_t a0 a1) = vcT (f24_t a0 a1) := by kernel_rfl
theorem f24_o (a0 : List Int) (a1 : List Int) : obl (Snd P noG) (Lp P noG Tryd.f24.ntmps [] f24_hn 1) (RelF [] (f24_R a0 a1)) (f24_t a0 a1) := by
 unfold f24_t
 exact (oCall (fun _ e => f27_s e) fun z387 _ =>
 (oLoop (fun _ e => f24_l4_s0 0 e (wk_tw [(6, 30403), (5, 30402), (4, 30401), (2, 30400)] [2, 4, 5, 6, 16] [] (by kernel_rfl) (by kernel_rfl))) fun z388 _ =>
 (oLoop (fun _ e => f24_l12_s0 0 e (wk_tw [(60402, 31202), (60401, 31201), (60400, 31200)] [2, 4, 6, 98] [] (by kernel_rfl) (by kernel_rfl))) fun z389 _ =>
 (oLeaf (wks_tw [] [] (by kernel_rfl) (by kernel_rfl))))))
noncomputable def f24_m (a0 : List Int) (a1 : List Int) : Option (List Int) := mod (f24_t a0 a1)
theorem f24_e (a0 : List Int) (a1 : List Int) : f24_m a0 a1 =
 (Option.bind (f27_m a1) fun z387 =>
 (Option.bind (f24_l4_m a0 z387 (a0, 0)) fun z388 =>
 (Option.bind (f24_l12_m z388 (a0, 0)) fun z389 =>
 (some ((z389)))))) := by kernel_rfl
theorem f24_s {a0 : List Int} {a1 : List Int} {z : List Int} (h : f24_m a0 a1 = some z) : Snd P noG 24 [AV.one (Lf.dat (K.arr 8 (K.int IntKind.u32)) a0), AV.one (Lf.dat (K.sl (K.int IntKind.u8)) a1)] [] (SV.av (AV.one (Lf.dat (K.arr 8 (K.int IntKind.u32)) z))) [] :=
 snd_tree (hn := f24_hn) 1 (f24_R a0 a1) mixed (by kernel_rfl) (by kernel_rfl) (by kernel_rfl) (by kernel_rfl) (by kernel_rfl) (f24_v a0 a1) (f24_o a0 a1) h
def f22_hn : Hn := Hn.mk [(10002, [(1000000, 30902)]), (24004, [(1000000, 32202)])] [] [] [] [(6, [2, 3, 4, 5, 13, 14, 15]), (10, [2, 3, 4, 5, 13, 14, 15]), (15, [2, 3, 4, 5]), (18, [2, 3, 4, 5, 46]), (23, [2, 3, 4, 9]), (28, [2, 3, 10, 71])]
def f22_l9_D (p9_2 : Int) (p9_3 : List ByteArray) (p9_4 : Int) (p9_5 : List Int) (p9_39 : Int) (x : List Int × Nat × Nat) : St := St.mk [(2, SV.av (AV.one (Lf.ptr 30900 0 0 0 0))), (3, SV.av (AV.one (Lf.ptr 30901 0 0 0 0))), (4, SV.av (AV.one (Lf.own 30902 0 (Prod.fst (Prod.snd x)) (Prod.snd (Prod.snd x)) 1))), (5, SV.av (AV.one (Lf.v (Value.int IntKind.u64 p9_2)))), (13, SV.av (AV.one (Lf.dat (K.sl K.str) p9_3))), (14, SV.av (AV.one (Lf.v (Value.int IntKind.i64 p9_4)))), (15, SV.av (AV.one (Lf.v (Value.int IntKind.i64 p9_39))))] [(30900, Blk.cells 32 [Lf.dat (K.arr 32 (K.int IntKind.u8)) [0, 0, 0, 0, 0, 0, 0, 0, 0, 0, 0, 0, 0, 0, 0, 0, 0, 0, 0, 0, 0, 0, 0, 0, 0, 0, 0, 0, 0, 0, 0, 0]]), (30901, Blk.cells 56 [Lf.dat (K.arr 8 (K.int IntKind.u32)) (Prod.fst x)]), (30902, Blk.row 5 (K.int IntKind.u8) p9_5)]
def f22_l9_E0 (p9_2 : Int) (p9_3 : List ByteArray) (p9_4 : Int) (p9_5 : List Int) (p9_39 : Int) (y : List Int × Nat × Nat) : St := St.mk [(2, SV.av (AV.one (Lf.ptr 60900 0 0 0 0))), (3, SV.av (AV.one (Lf.ptr 60901 0 0 0 0))), (4, SV.av (AV.one (Lf.own 60902 0 (Prod.fst (Prod.snd y)) (Prod.snd (Prod.snd y)) 1))), (5, SV.av (AV.one (Lf.v (Value.int IntKind.u64 p9_2)))), (13, SV.av (AV.one (Lf.dat (K.sl K.str) p9_3))), (14, SV.av (AV.one (Lf.v (Value.int IntKind.i64 p9_4)))), (15, SV.av (AV.one (Lf.v (Value.int IntKind.i64 p9_39))))] [(60900, Blk.cells 32 [Lf.dat (K.arr 32 (K.int IntKind.u8)) [0, 0, 0, 0, 0, 0, 0, 0, 0, 0, 0, 0, 0, 0, 0, 0, 0, 0, 0, 0, 0, 0, 0, 0, 0, 0, 0, 0, 0, 0, 0, 0]]), (60901, Blk.cells 56 [Lf.dat (K.arr 8 (K.int IntKind.u32)) (Prod.fst y)]), (60902, Blk.row 5 (K.int IntKind.u8) p9_5)]
def f22_l9_E (p9_2 : Int) (p9_3 : List ByteArray) (p9_4 : Int) (p9_5 : List Int) (p9_39 : Int) : List Int × Nat × Nat → Ex × St
  | y => (Ex.exit 2, f22_l9_E0 p9_2 p9_3 p9_4 p9_5 p9_39 y)
noncomputable def f22_l9_t (p9_2 : Int) (p9_3 : List ByteArray) (p9_4 : Int) (p9_5 : List Int) (p9_39 : Int) (x : List Int × Nat × Nat) : DT (Ex × St) ((List Int × Nat × Nat) ⊕ (List Int × Nat × Nat)) :=
 (.ask (ile 64 ↑(Prod.snd (Prod.snd x)))
 (.pick false (.need (nle (Prod.fst (Prod.snd x) + Prod.snd (Prod.snd x)) (List.length p9_5)) true
 (.call 24 [AV.one (Lf.dat (K.arr 8 (K.int IntKind.u32)) (Prod.fst x)), AV.one (Lf.dat (K.sl (K.int IntKind.u8)) (List.take (Prod.snd (Prod.snd x)) (List.drop (Prod.fst (Prod.snd x)) p9_5)))] [] (f24_m (Prod.fst x) (List.take (Prod.snd (Prod.snd x)) (List.drop (Prod.fst (Prod.snd x)) p9_5))) (fun z197 => SV.av (AV.one (Lf.dat (K.arr 8 (K.int IntKind.u32)) z197))) (fun z197 => []) fun z197 =>
 (.sure (true) true
 (.sure (ile 64 ↑(Prod.snd (Prod.snd x))) true
 (.leaf (Vam.Ex.normal, St.mk [(2, SV.av (AV.one (Lf.ptr 30900 0 0 0 0))), (3, SV.av (AV.one (Lf.ptr 30901 0 0 0 0))), (4, SV.av (AV.one (Lf.own 30902 0 (Prod.fst (Prod.snd x) + 64) (Prod.snd (Prod.snd x) - 64) 1))), (5, SV.av (AV.one (Lf.v (Value.int IntKind.u64 p9_2)))), (13, SV.av (AV.one (Lf.dat (K.sl K.str) p9_3))), (14, SV.av (AV.one (Lf.v (Value.int IntKind.i64 p9_4)))), (15, SV.av (AV.one (Lf.v (Value.int IntKind.i64 p9_39))))] [(30900, Blk.cells 32 [Lf.dat (K.arr 32 (K.int IntKind.u8)) [0, 0, 0, 0, 0, 0, 0, 0, 0, 0, 0, 0, 0, 0, 0, 0, 0, 0, 0, 0, 0, 0, 0, 0, 0, 0, 0, 0, 0, 0, 0, 0]]), (30901, Blk.cells 56 [Lf.dat (K.arr 8 (K.int IntKind.u32)) z197]), (30902, Blk.row 5 (K.int IntKind.u8) p9_5)]) (.inl ((z197, Prod.fst (Prod.snd x) + 64, Prod.snd (Prod.snd x) - 64)))))))))
 (.leaf (Ex.exit 2, St.mk [(2, SV.av (AV.one (Lf.ptr 30900 0 0 0 0))), (3, SV.av (AV.one (Lf.ptr 30901 0 0 0 0))), (4, SV.av (AV.one (Lf.own 30902 0 (Prod.fst (Prod.snd x)) (Prod.snd (Prod.snd x)) 1))), (5, SV.av (AV.one (Lf.v (Value.int IntKind.u64 p9_2)))), (13, SV.av (AV.one (Lf.dat (K.sl K.str) p9_3))), (14, SV.av (AV.one (Lf.v (Value.int IntKind.i64 p9_4)))), (15, SV.av (AV.one (Lf.v (Value.int IntKind.i64 p9_39))))] [(30900, Blk.cells 32 [Lf.dat (K.arr 32 (K.int IntKind.u8)) [0, 0, 0, 0, 0, 0, 0, 0, 0, 0, 0, 0, 0, 0, 0, 0, 0, 0, 0, 0, 0, 0, 0, 0, 0, 0, 0, 0, 0, 0, 0, 0]]), (30901, Blk.cells 56 [Lf.dat (K.arr 8 (K.int IntKind.u32)) (Prod.fst x)]), (30902, Blk.row 5 (K.int IntKind.u8) p9_5)]) (.inr ((Prod.fst x, Prod.fst (Prod.snd x), Prod.snd (Prod.snd x))))))
theorem f22_l9_v (p9_2 : Int) (p9_3 : List ByteArray) (p9_4 : Int) (p9_5 : List Int) (p9_39 : Int) (x : List Int × Nat × Nat) : vc (execK P noG Tryd.f22.ntmps f22_hn [2, 3, 4, 5, 13, 14, 15] (loopOf Tryd.f22 9) (f22_l9_D p9_2 p9_3 p9_4 p9_5 p9_39 x)) (f22_l9_t p9_2 p9_3 p9_4 p9_5 p9_39 x) = vcT (f22_l9_t p9_2 p9_3 p9_4 p9_5 p9_39 x) := by kernel_rfl
theorem f22_l9_o (d : Nat) (p9_2 : Int) (p9_3 : List ByteArray) (p9_4 : Int) (p9_5 : List Int) (p9_39 : Int) (x : List Int × Nat × Nat) : obl (Snd P noG) (Lp P noG Tryd.f22.ntmps [] f22_hn d) (RelL Tryd.f22.ntmps noG [] (f22_l9_D p9_2 p9_3 p9_4 p9_5 p9_39) (f22_l9_E p9_2 p9_3 p9_4 p9_5 p9_39)) (f22_l9_t p9_2 p9_3 p9_4 p9_5 p9_39 x) := by
 unfold f22_l9_t
 exact (oAsk (fun h0 => (oPick (oNeed fun h1 => (oCall (fun _ e => f24_s e) fun z197 _ =>
 (oSure rfl (oSure h0 (oLeaf (relN (wk_tw [(30902, 30902), (30901, 30901), (30900, 30900)] [2, 3, 4, 5, 13, 14, 15] [] (by kernel_rfl) (by kernel_rfl))))))))))
 (fun h0 => (oLeaf (relE rfl (wk_tw [(30902, 60902), (30901, 60901), (30900, 60900)] [2, 3, 4, 5, 13, 14, 15] [] (by kernel_rfl) (by kernel_rfl))))))
noncomputable def f22_l9_m (p9_2 : Int) (p9_3 : List ByteArray) (p9_4 : Int) (p9_5 : List Int) (p9_39 : Int) (x : List Int × Nat × Nat) : Option (List Int × Nat × Nat) := lrun (fun x => mod (f22_l9_t p9_2 p9_3 p9_4 p9_5 p9_39 x)) x
theorem f22_l9_e (p9_2 : Int) (p9_3 : List ByteArray) (p9_4 : Int) (p9_5 : List Int) (p9_39 : Int) (x : List Int × Nat × Nat) : mod (f22_l9_t p9_2 p9_3 p9_4 p9_5 p9_39 x) =
 (sel (ile 64 ↑(Prod.snd (Prod.snd x)))
 (sel (nle (Prod.fst (Prod.snd x) + Prod.snd (Prod.snd x)) (List.length p9_5))
 (Option.bind (f24_m (Prod.fst x) (List.take (Prod.snd (Prod.snd x)) (List.drop (Prod.fst (Prod.snd x)) p9_5))) fun z197 =>
 (some ((.inl ((z197, Prod.fst (Prod.snd x) + 64, Prod.snd (Prod.snd x) - 64)))))) none)
 (some ((.inr ((Prod.fst x, Prod.fst (Prod.snd x), Prod.snd (Prod.snd x))))))) := by kernel_rfl
theorem f22_l9_s0 (d : Nat) {p9_2 : Int} {p9_3 : List ByteArray} {p9_4 : Int} {p9_5 : List Int} {p9_39 : Int} {σ : St} {x : List Int × Nat × Nat} {z : List Int × Nat × Nat} (h : f22_l9_m p9_2 p9_3 p9_4 p9_5 p9_39 x = some z) (hw : Wk Tryd.f22.ntmps noG [] σ (f22_l9_D p9_2 p9_3 p9_4 p9_5 p9_39 x)) : Lp P noG Tryd.f22.ntmps [] f22_hn (d + 1) (loopOf Tryd.f22 9) σ (Ex.exit 2) (f22_l9_E0 p9_2 p9_3 p9_4 p9_5 p9_39 z) :=
 lp_tree (D := f22_l9_D p9_2 p9_3 p9_4 p9_5 p9_39) (E := f22_l9_E p9_2 p9_3 p9_4 p9_5 p9_39) (f22_l9_v p9_2 p9_3 p9_4 p9_5 p9_39) (f22_l9_o d p9_2 p9_3 p9_4 p9_5 p9_39) h hw
def f22_l14_D (p14_57 : Int) (p14_73 : List Int) (x : List Int) : St := St.mk [(2, SV.av (AV.one (Lf.ptr 31400 0 0 0 0))), (3, SV.av (AV.one (Lf.ptr 31401 0 0 0 0))), (4, SV.av (AV.one (Lf.own 31402 0 0 (List.length x) 1))), (5, SV.av (AV.one (Lf.v (Value.int IntKind.u64 p14_57))))] [(31400, Blk.cells 32 [Lf.dat (K.arr 32 (K.int IntKind.u8)) [0, 0, 0, 0, 0, 0, 0, 0, 0, 0, 0, 0, 0, 0, 0, 0, 0, 0, 0, 0, 0, 0, 0, 0, 0, 0, 0, 0, 0, 0, 0, 0]]), (31401, Blk.cells 56 [Lf.dat (K.arr 8 (K.int IntKind.u32)) p14_73]), (31402, Blk.row 5 (K.int IntKind.u8) x)]
def f22_l14_E0 (p14_57 : Int) (p14_73 : List Int) (y : List Int) : St := St.mk [(2, SV.av (AV.one (Lf.ptr 61400 0 0 0 0))), (3, SV.av (AV.one (Lf.ptr 61401 0 0 0 0))), (4, SV.av (AV.one (Lf.own 61402 0 0 (List.length y) 1))), (5, SV.av (AV.one (Lf.v (Value.int IntKind.u64 p14_57))))] [(61400, Blk.cells 32 [Lf.dat (K.arr 32 (K.int IntKind.u8)) [0, 0, 0, 0, 0, 0, 0, 0, 0, 0, 0, 0, 0, 0, 0, 0, 0, 0, 0, 0, 0, 0, 0, 0, 0, 0, 0, 0, 0, 0, 0, 0]]), (61401, Blk.cells 56 [Lf.dat (K.arr 8 (K.int IntKind.u32)) p14_73]), (61402, Blk.row 5 (K.int IntKind.u8) y)]
def f22_l14_E (p14_57 : Int) (p14_73 : List Int) : List Int → Ex × St
  | y => (Ex.exit 4, f22_l14_E0 p14_57 p14_73 y)
noncomputable def f22_l14_t (p14_57 : Int) (p14_73 : List Int) (x : List Int) : DT (Ex × St) ((List Int) ⊕ (List Int)) :=
 (.sure (true) true
 (.ask (bno (ieq (irem (↑(List.length x)) 64) 56))
 (.pick true (.sure (true) true
 (.pick true (.sure (true) true
 (.sure (nEq (List.length x) (List.length x)) true
 (.need (nle (List.length (List.append x [0])) 9223372036854775807) true
 (.need (nle (List.length (List.append x [0]) * 1) 140737488355328) true
 (.leaf (Vam.Ex.normal, St.mk [(2, SV.av (AV.one (Lf.ptr 31400 0 0 0 0))), (3, SV.av (AV.one (Lf.ptr 31401 0 0 0 0))), (4, SV.av (AV.one (Lf.own 45 0 0 (List.length (List.append x [0])) 1))), (5, SV.av (AV.one (Lf.v (Value.int IntKind.u64 p14_57))))] [(44, Blk.row 5 (K.int IntKind.u8) [0]), (45, Blk.row 5 (K.int IntKind.u8) (List.append x [0])), (31400, Blk.cells 32 [Lf.dat (K.arr 32 (K.int IntKind.u8)) [0, 0, 0, 0, 0, 0, 0, 0, 0, 0, 0, 0, 0, 0, 0, 0, 0, 0, 0, 0, 0, 0, 0, 0, 0, 0, 0, 0, 0, 0, 0, 0]]), (31401, Blk.cells 56 [Lf.dat (K.arr 8 (K.int IntKind.u32)) p14_73]), (31402, Blk.dead)]) (.inl (List.append x [0]))))))))))
 (.leaf (Ex.exit 4, St.mk [(2, SV.av (AV.one (Lf.ptr 31400 0 0 0 0))), (3, SV.av (AV.one (Lf.ptr 31401 0 0 0 0))), (4, SV.av (AV.one (Lf.own 31402 0 0 (List.length x) 1))), (5, SV.av (AV.one (Lf.v (Value.int IntKind.u64 p14_57))))] [(31400, Blk.cells 32 [Lf.dat (K.arr 32 (K.int IntKind.u8)) [0, 0, 0, 0, 0, 0, 0, 0, 0, 0, 0, 0, 0, 0, 0, 0, 0, 0, 0, 0, 0, 0, 0, 0, 0, 0, 0, 0, 0, 0, 0, 0]]), (31401, Blk.cells 56 [Lf.dat (K.arr 8 (K.int IntKind.u32)) p14_73]), (31402, Blk.row 5 (K.int IntKind.u8) x)]) (.inr (x)))))
theorem f22_l14_v (p14_57 : Int) (p14_73 : List Int) (x : List Int) : vc (execK P noG Tryd.f22.ntmps f22_hn [2, 3, 4, 5] (loopOf Tryd.f22 14) (f22_l14_D p14_57 p14_73 x)) (f22_l14_t p14_57 p14_73 x) = vcT (f22_l14_t p14_57 p14_73 x) := by kernel_rfl
theorem f22_l14_o (d : Nat) (p14_57 : Int) (p14_73 : List Int) (x : List Int) : obl (Snd P noG) (Lp P noG Tryd.f22.ntmps [] f22_hn d) (RelL Tryd.f22.ntmps noG [] (f22_l14_D p14_57 p14_73) (f22_l14_E p14_57 p14_73)) (f22_l14_t p14_57 p14_73 x) := by
 unfold f22_l14_t
 exact (oSure rfl (oAsk (fun h0 => (oPick (oSure rfl (oPick (oSure rfl (oSure (nEq_t.2 rfl) (oNeed fun h1 => (oNeed fun h2 => (oLeaf (relN (wk_tw [(45, 31402), (31401, 31401), (31400, 31400)] [2, 3, 4, 5] [] (by kernel_rfl) (by kernel_rfl))))))))))))
 (fun h0 => (oLeaf (relE rfl (wk_tw [(31402, 61402), (31401, 61401), (31400, 61400)] [2, 3, 4, 5] [] (by kernel_rfl) (by kernel_rfl)))))))
noncomputable def f22_l14_m (p14_57 : Int) (p14_73 : List Int) (x : List Int) : Option (List Int) := lrun (fun x => mod (f22_l14_t p14_57 p14_73 x)) x
theorem f22_l14_e (p14_57 : Int) (p14_73 : List Int) (x : List Int) : mod (f22_l14_t p14_57 p14_73 x) =
 (sel (bno (ieq (irem (↑(List.length x)) 64) 56))
 (sel (nle (List.length (List.append x [0])) 9223372036854775807)
 (sel (nle (List.length (List.append x [0]) * 1) 140737488355328)
 (some ((.inl (List.append x [0])))) none) none)
 (some ((.inr (x))))) := by kernel_rfl
theorem f22_l14_s0 (d : Nat) {p14_57 : Int} {p14_73 : List Int} {σ : St} {x : List Int} {z : List Int} (h : f22_l14_m p14_57 p14_73 x = some z) (hw : Wk Tryd.f22.ntmps noG [] σ (f22_l14_D p14_57 p14_73 x)) : Lp P noG Tryd.f22.ntmps [] f22_hn (d + 1) (loopOf Tryd.f22 14) σ (Ex.exit 4) (f22_l14_E0 p14_57 p14_73 z) :=
 lp_tree (D := f22_l14_D p14_57 p14_73) (E := f22_l14_E p14_57 p14_73) (f22_l14_v p14_57 p14_73) (f22_l14_o d p14_57 p14_73) h hw
def f22_l17_D (p17_75 : Int) (p17_99 : List Int) (x : List Int × Int) : St := St.mk [(2, SV.av (AV.one (Lf.ptr 31700 0 0 0 0))), (3, SV.av (AV.one (Lf.ptr 31701 0 0 0 0))), (4, SV.av (AV.one (Lf.own 31702 0 0 (List.length (Prod.fst x)) 1))), (5, SV.av (AV.one (Lf.v (Value.int IntKind.u64 p17_75)))), (46, SV.av (AV.one (Lf.v (Value.int IntKind.i64 (Prod.snd x)))))] [(31700, Blk.cells 32 [Lf.dat (K.arr 32 (K.int IntKind.u8)) [0, 0, 0, 0, 0, 0, 0, 0, 0, 0, 0, 0, 0, 0, 0, 0, 0, 0, 0, 0, 0, 0, 0, 0, 0, 0, 0, 0, 0, 0, 0, 0]]), (31701, Blk.cells 56 [Lf.dat (K.arr 8 (K.int IntKind.u32)) p17_99]), (31702, Blk.row 5 (K.int IntKind.u8) (Prod.fst x))]
def f22_l17_E0 (p17_75 : Int) (p17_99 : List Int) (y : List Int) : St := St.mk [(2, SV.av (AV.one (Lf.ptr 61700 0 0 0 0))), (3, SV.av (AV.one (Lf.ptr 61701 0 0 0 0))), (4, SV.av (AV.one (Lf.own 61702 0 0 (List.length y) 1)))] [(61700, Blk.cells 32 [Lf.dat (K.arr 32 (K.int IntKind.u8)) [0, 0, 0, 0, 0, 0, 0, 0, 0, 0, 0, 0, 0, 0, 0, 0, 0, 0, 0, 0, 0, 0, 0, 0, 0, 0, 0, 0, 0, 0, 0, 0]]), (61701, Blk.cells 56 [Lf.dat (K.arr 8 (K.int IntKind.u32)) p17_99]), (61702, Blk.row 5 (K.int IntKind.u8) y)]
def f22_l17_E (p17_75 : Int) (p17_99 : List Int) : List Int → Ex × St
  | y => (Ex.exit 6, f22_l17_E0 p17_75 p17_99 y)
noncomputable def f22_l17_t (p17_75 : Int) (p17_99 : List Int) (x : List Int × Int) : DT (Ex × St) ((List Int × Int) ⊕ (List Int)) :=
 (.ask (ilt (Prod.snd x) 8)
 (.need (ile 0 (imul IntKind.i64 8 (isub IntKind.i64 7 (Prod.snd x)))) true
 (.pick true (.sure (true) true
 (.pick true (.sure (true) true
 (.sure (nEq (List.length (Prod.fst x)) (List.length (Prod.fst x))) true
 (.need (nle (List.length (List.append (Prod.fst x) [icv IntKind.u8 (shr IntKind.u64 (imul IntKind.u64 8 p17_75) (imul IntKind.i64 8 (isub IntKind.i64 7 (Prod.snd x))))])) 9223372036854775807) true
 (.need (nle (List.length (List.append (Prod.fst x) [icv IntKind.u8 (shr IntKind.u64 (imul IntKind.u64 8 p17_75) (imul IntKind.i64 8 (isub IntKind.i64 7 (Prod.snd x))))]) * 1) 140737488355328) true
 (.leaf (Vam.Ex.normal, St.mk [(2, SV.av (AV.one (Lf.ptr 31700 0 0 0 0))), (3, SV.av (AV.one (Lf.ptr 31701 0 0 0 0))), (4, SV.av (AV.one (Lf.own 58 0 0 (List.length (List.append (Prod.fst x) [icv IntKind.u8 (shr IntKind.u64 (imul IntKind.u64 8 p17_75) (imul IntKind.i64 8 (isub IntKind.i64 7 (Prod.snd x))))])) 1))), (5, SV.av (AV.one (Lf.v (Value.int IntKind.u64 p17_75)))), (46, SV.av (AV.one (Lf.v (Value.int IntKind.i64 (iadd IntKind.i64 (Prod.snd x) 1)))))] [(57, Blk.row 5 (K.int IntKind.u8) [icv IntKind.u8 (shr IntKind.u64 (imul IntKind.u64 8 p17_75) (imul IntKind.i64 8 (isub IntKind.i64 7 (Prod.snd x))))]), (58, Blk.row 5 (K.int IntKind.u8) (List.append (Prod.fst x) [icv IntKind.u8 (shr IntKind.u64 (imul IntKind.u64 8 p17_75) (imul IntKind.i64 8 (isub IntKind.i64 7 (Prod.snd x))))])), (31700, Blk.cells 32 [Lf.dat (K.arr 32 (K.int IntKind.u8)) [0, 0, 0, 0, 0, 0, 0, 0, 0, 0, 0, 0, 0, 0, 0, 0, 0, 0, 0, 0, 0, 0, 0, 0, 0, 0, 0, 0, 0, 0, 0, 0]]), (31701, Blk.cells 56 [Lf.dat (K.arr 8 (K.int IntKind.u32)) p17_99]), (31702, Blk.dead)]) (.inl ((List.append (Prod.fst x) [icv IntKind.u8 (shr IntKind.u64 (imul IntKind.u64 8 p17_75) (imul IntKind.i64 8 (isub IntKind.i64 7 (Prod.snd x))))], iadd IntKind.i64 (Prod.snd x) 1))))))))))))
 (.leaf (Ex.exit 6, St.mk [(2, SV.av (AV.one (Lf.ptr 31700 0 0 0 0))), (3, SV.av (AV.one (Lf.ptr 31701 0 0 0 0))), (4, SV.av (AV.one (Lf.own 31702 0 0 (List.length (Prod.fst x)) 1))), (5, SV.av (AV.one (Lf.v (Value.int IntKind.u64 p17_75)))), (46, SV.av (AV.one (Lf.v (Value.int IntKind.i64 (Prod.snd x)))))] [(31700, Blk.cells 32 [Lf.dat (K.arr 32 (K.int IntKind.u8)) [0, 0, 0, 0, 0, 0, 0, 0, 0, 0, 0, 0, 0, 0, 0, 0, 0, 0, 0, 0, 0, 0, 0, 0, 0, 0, 0, 0, 0, 0, 0, 0]]), (31701, Blk.cells 56 [Lf.dat (K.arr 8 (K.int IntKind.u32)) p17_99]), (31702, Blk.row 5 (K.int IntKind.u8) (Prod.fst x))]) (.inr (Prod.fst x))))
theorem f22_l17_v (p17_75 : Int) (p17_99 : List Int) (x : List Int × Int) : vc (execK P noG Tryd.f22.ntmps f22_hn [2, 3, 4, 5, 46] (loopOf Tryd.f22 17) (f22_l17_D p17_75 p17_99 x)) (f22_l17_t p17_75 p17_99 x) = vcT (f22_l17_t p17_75 p17_99 x) := by kernel_rfl
theorem f22_l17_o (d : Nat) (p17_75 : Int) (p17_99 : List Int) (x : List Int × Int) : obl (Snd P noG) (Lp P noG Tryd.f22.ntmps [] f22_hn d) (RelL Tryd.f22.ntmps noG [] (f22_l17_D p17_75 p17_99) (f22_l17_E p17_75 p17_99)) (f22_l17_t p17_75 p17_99 x) := by
 unfold f22_l17_t
 exact (oAsk (fun h0 => (oNeed fun h1 => (oPick (oSure rfl (oPick (oSure rfl (oSure (nEq_t.2 rfl) (oNeed fun h2 => (oNeed fun h3 => (oLeaf (relN (wk_tw [(58, 31702), (31701, 31701), (31700, 31700)] [2, 3, 4, 5, 46] [] (by kernel_rfl) (by kernel_rfl)))))))))))))
 (fun h0 => (oLeaf (relE rfl (wk_tw [(31702, 61702), (31701, 61701), (31700, 61700)] [2, 3, 4] [] (by kernel_rfl) (by kernel_rfl))))))
noncomputable def f22_l17_m (p17_75 : Int) (p17_99 : List Int) (x : List Int × Int) : Option (List Int) := lrun (fun x => mod (f22_l17_t p17_75 p17_99 x)) x
theorem f22_l17_e (p17_75 : Int) (p17_99 : List Int) (x : List Int × Int) : mod (f22_l17_t p17_75 p17_99 x) =
 (sel (ilt (Prod.snd x) 8)
 (sel (ile 0 (imul IntKind.i64 8 (isub IntKind.i64 7 (Prod.snd x))))
 (sel (nle (List.length (List.append (Prod.fst x) [icv IntKind.u8 (shr IntKind.u64 (imul IntKind.u64 8 p17_75) (imul IntKind.i64 8 (isub IntKind.i64 7 (Prod.snd x))))])) 9223372036854775807)
 (sel (nle (List.length (List.append (Prod.fst x) [icv IntKind.u8 (shr IntKind.u64 (imul IntKind.u64 8 p17_75) (imul IntKind.i64 8 (isub IntKind.i64 7 (Prod.snd x))))]) * 1) 140737488355328)
 (some ((.inl ((List.append (Prod.fst x) [icv IntKind.u8 (shr IntKind.u64 (imul IntKind.u64 8 p17_75) (imul IntKind.i64 8 (isub IntKind.i64 7 (Prod.snd x))))], iadd IntKind.i64 (Prod.snd x) 1))))) none) none) none)
 (some ((.inr (Prod.fst x))))) := by kernel_rfl
theorem f22_l17_s0 (d : Nat) {p17_75 : Int} {p17_99 : List Int} {σ : St} {x : List Int × Int} {z : List Int} (h : f22_l17_m p17_75 p17_99 x = some z) (hw : Wk Tryd.f22.ntmps noG [] σ (f22_l17_D p17_75 p17_99 x)) : Lp P noG Tryd.f22.ntmps [] f22_hn (d + 1) (loopOf Tryd.f22 17) σ (Ex.exit 6) (f22_l17_E0 p17_75 p17_99 z) :=
 lp_tree (D := f22_l17_D p17_75 p17_99) (E := f22_l17_E p17_75 p17_99) (f22_l17_v p17_75 p17_99) (f22_l17_o d p17_75 p17_99) h hw
def f22_l22_D (p22_77 : List Int) (x : List Int × Int) : St := St.mk [(2, SV.av (AV.one (Lf.ptr 32200 0 0 0 0))), (3, SV.av (AV.one (Lf.ptr 32201 0 0 0 0))), (4, SV.av (AV.one (Lf.own 32202 0 0 (List.length p22_77) 1))), (9, SV.av (AV.one (Lf.v (Value.int IntKind.i64 (Prod.snd x)))))] [(32200, Blk.cells 32 [Lf.dat (K.arr 32 (K.int IntKind.u8)) [0, 0, 0, 0, 0, 0, 0, 0, 0, 0, 0, 0, 0, 0, 0, 0, 0, 0, 0, 0, 0, 0, 0, 0, 0, 0, 0, 0, 0, 0, 0, 0]]), (32201, Blk.cells 56 [Lf.dat (K.arr 8 (K.int IntKind.u32)) (Prod.fst x)]), (32202, Blk.row 5 (K.int IntKind.u8) p22_77)]
def f22_l22_E0 (p22_77 : List Int) (y : List Int) : St := St.mk [(2, SV.av (AV.one (Lf.ptr 62200 0 0 0 0))), (3, SV.av (AV.one (Lf.ptr 62201 0 0 0 0)))] [(62200, Blk.cells 32 [Lf.dat (K.arr 32 (K.int IntKind.u8)) [0, 0, 0, 0, 0, 0, 0, 0, 0, 0, 0, 0, 0, 0, 0, 0, 0, 0, 0, 0, 0, 0, 0, 0, 0, 0, 0, 0, 0, 0, 0, 0]]), (62201, Blk.cells 56 [Lf.dat (K.arr 8 (K.int IntKind.u32)) y])]
def f22_l22_E (p22_77 : List Int) : List Int → Ex × St
  | y => (Ex.exit 8, f22_l22_E0 p22_77 y)
noncomputable def f22_l22_t (p22_77 : List Int) (x : List Int × Int) : DT (Ex × St) ((List Int × Int) ⊕ (List Int)) :=
 (.ask (ilt (Prod.snd x) ↑(List.length p22_77))
 (.need (ile 0 (Prod.snd x)) true
 (.need (ile (Prod.snd x) ↑(List.length p22_77)) true
 (.pick false (.need (nle (0 + Int.toNat (Prod.snd x) + (List.length p22_77 - Int.toNat (Prod.snd x))) (List.length p22_77)) true
 (.call 24 [AV.one (Lf.dat (K.arr 8 (K.int IntKind.u32)) (Prod.fst x)), AV.one (Lf.dat (K.sl (K.int IntKind.u8)) (List.take (List.length p22_77 - Int.toNat (Prod.snd x)) (List.drop (0 + Int.toNat (Prod.snd x)) p22_77)))] [] (f24_m (Prod.fst x) (List.take (List.length p22_77 - Int.toNat (Prod.snd x)) (List.drop (0 + Int.toNat (Prod.snd x)) p22_77))) (fun z205 => SV.av (AV.one (Lf.dat (K.arr 8 (K.int IntKind.u32)) z205))) (fun z205 => []) fun z205 =>
 (.leaf (Vam.Ex.normal, St.mk [(2, SV.av (AV.one (Lf.ptr 32200 0 0 0 0))), (3, SV.av (AV.one (Lf.ptr 32201 0 0 0 0))), (4, SV.av (AV.one (Lf.own 32202 0 0 (List.length p22_77) 1))), (9, SV.av (AV.one (Lf.v (Value.int IntKind.i64 (iadd IntKind.i64 (Prod.snd x) 64)))))] [(32200, Blk.cells 32 [Lf.dat (K.arr 32 (K.int IntKind.u8)) [0, 0, 0, 0, 0, 0, 0, 0, 0, 0, 0, 0, 0, 0, 0, 0, 0, 0, 0, 0, 0, 0, 0, 0, 0, 0, 0, 0, 0, 0, 0, 0]]), (32201, Blk.cells 56 [Lf.dat (K.arr 8 (K.int IntKind.u32)) z205]), (32202, Blk.row 5 (K.int IntKind.u8) p22_77)]) (.inl ((z205, iadd IntKind.i64 (Prod.snd x) 64)))))))))
 (.leaf (Ex.exit 8, St.mk [(2, SV.av (AV.one (Lf.ptr 32200 0 0 0 0))), (3, SV.av (AV.one (Lf.ptr 32201 0 0 0 0))), (4, SV.av (AV.one (Lf.own 32202 0 0 (List.length p22_77) 1))), (9, SV.av (AV.one (Lf.v (Value.int IntKind.i64 (Prod.snd x)))))] [(32200, Blk.cells 32 [Lf.dat (K.arr 32 (K.int IntKind.u8)) [0, 0, 0, 0, 0, 0, 0, 0, 0, 0, 0, 0, 0, 0, 0, 0, 0, 0, 0, 0, 0, 0, 0, 0, 0, 0, 0, 0, 0, 0, 0, 0]]), (32201, Blk.cells 56 [Lf.dat (K.arr 8 (K.int IntKind.u32)) (Prod.fst x)]), (32202, Blk.row 5 (K.int IntKind.u8) p22_77)]) (.inr (Prod.fst x))))
theorem f22_l22_v (p22_77 : List Int) (x : List Int × Int) : vc (execK P noG Tryd.f22.ntmps f22_hn [2, 3, 4, 9] (loopOf Tryd.f22 22) (f22_l22_D p22_77 x)) (f22_l22_t p22_77 x) = vcT (f22_l22_t p22_77 x) := by kernel_rfl
theorem f22_l22_o (d : Nat) (p22_77 : List Int) (x : List Int × Int) : obl (Snd P noG) (Lp P noG Tryd.f22.ntmps [] f22_hn d) (RelL Tryd.f22.ntmps noG [] (f22_l22_D p22_77) (f22_l22_E p22_77)) (f22_l22_t p22_77 x) := by
 unfold f22_l22_t
 exact (oAsk (fun h0 => (oNeed fun h1 => (oNeed fun h2 => (oPick (oNeed fun h3 => (oCall (fun _ e => f24_s e) fun z205 _ =>
 (oLeaf (relN (wk_tw [(32202, 32202), (32201, 32201), (32200, 32200)] [2, 3, 4, 9] [] (by kernel_rfl) (by kernel_rfl))))))))))
 (fun h0 => (oLeaf (relE rfl (wk_tw [(32201, 62201), (32200, 62200)] [2, 3] [] (by kernel_rfl) (by kernel_rfl))))))
noncomputable def f22_l22_m (p22_77 : List Int) (x : List Int × Int) : Option (List Int) := lrun (fun x => mod (f22_l22_t p22_77 x)) x
theorem f22_l22_e (p22_77 : List Int) (x : List Int × Int) : mod (f22_l22_t p22_77 x) =
 (sel (ilt (Prod.snd x) ↑(List.length p22_77))
 (sel (ile 0 (Prod.snd x))
 (sel (ile (Prod.snd x) ↑(List.length p22_77))
 (sel (nle (0 + Int.toNat (Prod.snd x) + (List.length p22_77 - Int.toNat (Prod.snd x))) (List.length p22_77))
 (Option.bind (f24_m (Prod.fst x) (List.take (List.length p22_77 - Int.toNat (Prod.snd x)) (List.drop (0 + Int.toNat (Prod.snd x)) p22_77))) fun z205 =>
 (some ((.inl ((z205, iadd IntKind.i64 (Prod.snd x) 64)))))) none) none) none)
 (some ((.inr (Prod.fst x))))) := by kernel_rfl
theorem f22_l22_s0 (d : Nat) {p22_77 : List Int} {σ : St} {x : List Int × Int} {z : List Int} (h : f22_l22_m p22_77 x = some z) (hw : Wk Tryd.f22.ntmps noG [] σ (f22_l22_D p22_77 x)) : Lp P noG Tryd.f22.ntmps [] f22_hn (d + 1) (loopOf Tryd.f22 22) σ (Ex.exit 8) (f22_l22_E0 p22_77 z) :=
 lp_tree (D := f22_l22_D p22_77) (E := f22_l22_E p22_77) (f22_l22_v p22_77) (f22_l22_o d p22_77) h hw
def f22_l27_D (p27_126 : List Int) (x : List Int × Int) : St := St.mk [(2, SV.av (AV.one (Lf.ptr 32700 0 0 0 0))), (3, SV.av (AV.one (Lf.ptr 32701 0 0 0 0))), (10, SV.av (AV.one (Lf.ptr 32702 0 0 0 0))), (71, SV.av (AV.one (Lf.v (Value.int IntKind.i64 (Prod.snd x)))))] [(32700, Blk.cells 32 [Lf.dat (K.arr 32 (K.int IntKind.u8)) [0, 0, 0, 0, 0, 0, 0, 0, 0, 0, 0, 0, 0, 0, 0, 0, 0, 0, 0, 0, 0, 0, 0, 0, 0, 0, 0, 0, 0, 0, 0, 0]]), (32701, Blk.cells 56 [Lf.dat (K.arr 8 (K.int IntKind.u32)) p27_126]), (32702, Blk.cells 32 [Lf.dat (K.arr 32 (K.int IntKind.u8)) (Prod.fst x)])]
def f22_l27_E0 (p27_126 : List Int) (y : List Int) : St := St.mk [(2, SV.av (AV.one (Lf.ptr 62700 0 0 0 0))), (10, SV.av (AV.one (Lf.ptr 62701 0 0 0 0)))] [(62700, Blk.cells 32 [Lf.dat (K.arr 32 (K.int IntKind.u8)) [0, 0, 0, 0, 0, 0, 0, 0, 0, 0, 0, 0, 0, 0, 0, 0, 0, 0, 0, 0, 0, 0, 0, 0, 0, 0, 0, 0, 0, 0, 0, 0]]), (62701, Blk.cells 32 [Lf.dat (K.arr 32 (K.int IntKind.u8)) y])]
def f22_l27_E (p27_126 : List Int) : List Int → Ex × St
  | y => (Ex.exit 10, f22_l27_E0 p27_126 y)
noncomputable def f22_l27_t (p27_126 : List Int) (x : List Int × Int) : DT (Ex × St) ((List Int × Int) ⊕ (List Int)) :=
 (.ask (ilt (Prod.snd x) 32)
 (.sure (true) true
 (.need (ile 0 (iquo IntKind.i64 (Prod.snd x) 4)) true
 (.need (ilt (iquo IntKind.i64 (Prod.snd x) 4) 8) true
 (.need (nlt (Int.toNat (iquo IntKind.i64 (Prod.snd x) 4)) 8) true
 (.sure (true) true
 (.need (ile 0 (isub IntKind.i64 24 (imul IntKind.i64 8 (irem (Prod.snd x) 4)))) true
 (.need (ile 0 (Prod.snd x)) true
 (.sure (ilt (Prod.snd x) 32) true
 (.need (nlt (Int.toNat (Prod.snd x)) 32) true
 (.leaf (Vam.Ex.normal, St.mk [(2, SV.av (AV.one (Lf.ptr 32700 0 0 0 0))), (3, SV.av (AV.one (Lf.ptr 32701 0 0 0 0))), (10, SV.av (AV.one (Lf.ptr 32702 0 0 0 0))), (71, SV.av (AV.one (Lf.v (Value.int IntKind.i64 (iadd IntKind.i64 (Prod.snd x) 1)))))] [(32700, Blk.cells 32 [Lf.dat (K.arr 32 (K.int IntKind.u8)) [0, 0, 0, 0, 0, 0, 0, 0, 0, 0, 0, 0, 0, 0, 0, 0, 0, 0, 0, 0, 0, 0, 0, 0, 0, 0, 0, 0, 0, 0, 0, 0]]), (32701, Blk.cells 56 [Lf.dat (K.arr 8 (K.int IntKind.u32)) p27_126]), (32702, Blk.cells 32 [Lf.dat (K.arr 32 (K.int IntKind.u8)) (List.set (Prod.fst x) (Int.toNat (Prod.snd x)) (icv IntKind.u8 (shr IntKind.u32 (gd (K.int IntKind.u32) p27_126 (Int.toNat (iquo IntKind.i64 (Prod.snd x) 4))) (isub IntKind.i64 24 (imul IntKind.i64 8 (irem (Prod.snd x) 4))))))])]) (.inl ((List.set (Prod.fst x) (Int.toNat (Prod.snd x)) (icv IntKind.u8 (shr IntKind.u32 (gd (K.int IntKind.u32) p27_126 (Int.toNat (iquo IntKind.i64 (Prod.snd x) 4))) (isub IntKind.i64 24 (imul IntKind.i64 8 (irem (Prod.snd x) 4))))), iadd IntKind.i64 (Prod.snd x) 1)))))))))))))
 (.leaf (Ex.exit 10, St.mk [(2, SV.av (AV.one (Lf.ptr 32700 0 0 0 0))), (3, SV.av (AV.one (Lf.ptr 32701 0 0 0 0))), (10, SV.av (AV.one (Lf.ptr 32702 0 0 0 0))), (71, SV.av (AV.one (Lf.v (Value.int IntKind.i64 (Prod.snd x)))))] [(32700, Blk.cells 32 [Lf.dat (K.arr 32 (K.int IntKind.u8)) [0, 0, 0, 0, 0, 0, 0, 0, 0, 0, 0, 0, 0, 0, 0, 0, 0, 0, 0, 0, 0, 0, 0, 0, 0, 0, 0, 0, 0, 0, 0, 0]]), (32701, Blk.cells 56 [Lf.dat (K.arr 8 (K.int IntKind.u32)) p27_126]), (32702, Blk.cells 32 [Lf.dat (K.arr 32 (K.int IntKind.u8)) (Prod.fst x)])]) (.inr (Prod.fst x))))
theorem f22_l27_v (p27_126 : List Int) (x : List Int × Int) : vc (execK P noG Tryd.f22.ntmps f22_hn [2, 3, 10, 71] (loopOf Tryd.f22 27) (f22_l27_D p27_126 x)) (f22_l27_t p27_126 x) = vcT (f22_l27_t p27_126 x) := by kernel_rfl
theorem f22_l27_o (d : Nat) (p27_126 : List Int) (x : List Int × Int) : obl (Snd P noG) (Lp P noG Tryd.f22.ntmps [] f22_hn d) (RelL Tryd.f22.ntmps noG [] (f22_l27_D p27_126) (f22_l27_E p27_126)) (f22_l27_t p27_126 x) := by
 unfold f22_l27_t
 exact (oAsk (fun h0 => (oSure rfl (oNeed fun h1 => (oNeed fun h2 => (oNeed fun h3 => (oSure rfl (oNeed fun h4 => (oNeed fun h5 => (oSure h0 (oNeed fun h6 => (oLeaf (relN (wk_tw [(32702, 32702), (32701, 32701), (32700, 32700)] [2, 3, 10, 71] [] (by kernel_rfl) (by kernel_rfl))))))))))))))
 (fun h0 => (oLeaf (relE rfl (wk_tw [(32702, 62701), (32700, 62700)] [2, 10] [] (by kernel_rfl) (by kernel_rfl))))))
noncomputable def f22_l27_m (p27_126 : List Int) (x : List Int × Int) : Option (List Int) := lrun (fun x => mod (f22_l27_t p27_126 x)) x
theorem f22_l27_e (p27_126 : List Int) (x : List Int × Int) : mod (f22_l27_t p27_126 x) =
 (sel (ilt (Prod.snd x) 32)
 (sel (ile 0 (iquo IntKind.i64 (Prod.snd x) 4))
 (sel (ilt (iquo IntKind.i64 (Prod.snd x) 4) 8)
 (sel (nlt (Int.toNat (iquo IntKind.i64 (Prod.snd x) 4)) 8)
 (sel (ile 0 (isub IntKind.i64 24 (imul IntKind.i64 8 (irem (Prod.snd x) 4))))
 (sel (ile 0 (Prod.snd x))
 (sel (nlt (Int.toNat (Prod.snd x)) 32)
 (some ((.inl ((List.set (Prod.fst x) (Int.toNat (Prod.snd x)) (icv IntKind.u8 (shr IntKind.u32 (gd (K.int IntKind.u32) p27_126 (Int.toNat (iquo IntKind.i64 (Prod.snd x) 4))) (isub IntKind.i64 24 (imul IntKind.i64 8 (irem (Prod.snd x) 4))))), iadd IntKind.i64 (Prod.snd x) 1))))) none) none) none) none) none) none)
 (some ((.inr (Prod.fst x))))) := by kernel_rfl
theorem f22_l27_s0 (d : Nat) {p27_126 : List Int} {σ : St} {x : List Int × Int} {z : List Int} (h : f22_l27_m p27_126 x = some z) (hw : Wk Tryd.f22.ntmps noG [] σ (f22_l27_D p27_126 x)) : Lp P noG Tryd.f22.ntmps [] f22_hn (d + 1) (loopOf Tryd.f22 27) σ (Ex.exit 10) (f22_l27_E0 p27_126 z) :=
 lp_tree (D := f22_l27_D p27_126) (E := f22_l27_E p27_126) (f22_l27_v p27_126) (f22_l27_o d p27_126) h hw
def f22_l5_D (p5_0 : List ByteArray) (p5_1 : Int) (x : List Int × Int × Int × List Int × Nat × Nat) : St := St.mk [(2, SV.av (AV.one (Lf.ptr 30500 0 0 0 0))), (3, SV.av (AV.one (Lf.ptr 30501 0 0 0 0))), (4, SV.av (AV.one (Lf.own 30551 0 (Prod.fst (Prod.snd (Prod.snd (Prod.snd (Prod.snd x))))) (Prod.snd (Prod.snd (Prod.snd (Prod.snd (Prod.snd x))))) 1))), (5, SV.av (AV.one (Lf.v (Value.int IntKind.u64 (Prod.fst (Prod.snd x)))))), (13, SV.av (AV.one (Lf.dat (K.sl K.str) p5_0))), (14, SV.av (AV.one (Lf.v (Value.int IntKind.i64 p5_1)))), (15, SV.av (AV.one (Lf.v (Value.int IntKind.i64 (Prod.fst (Prod.snd (Prod.snd x)))))))] [(30500, Blk.cells 32 [Lf.dat (K.arr 32 (K.int IntKind.u8)) [0, 0, 0, 0, 0, 0, 0, 0, 0, 0, 0, 0, 0, 0, 0, 0, 0, 0, 0, 0, 0, 0, 0, 0, 0, 0, 0, 0, 0, 0, 0, 0]]), (30501, Blk.cells 56 [Lf.dat (K.arr 8 (K.int IntKind.u32)) (Prod.fst (Prod.snd (Prod.snd (Prod.snd x))))]), (30551, Blk.row 5 (K.int IntKind.u8) (Prod.fst x))]
def f22_l5_E0 (p5_0 : List ByteArray) (p5_1 : Int) (y : List Int × Int × List Int × Nat × Nat) : St := St.mk [(2, SV.av (AV.one (Lf.ptr 60500 0 0 0 0))), (3, SV.av (AV.one (Lf.ptr 60501 0 0 0 0))), (4, SV.av (AV.one (Lf.own 60551 0 (Prod.fst (Prod.snd (Prod.snd (Prod.snd y)))) (Prod.snd (Prod.snd (Prod.snd (Prod.snd y)))) 1))), (5, SV.av (AV.one (Lf.v (Value.int IntKind.u64 (Prod.fst (Prod.snd y))))))] [(60500, Blk.cells 32 [Lf.dat (K.arr 32 (K.int IntKind.u8)) [0, 0, 0, 0, 0, 0, 0, 0, 0, 0, 0, 0, 0, 0, 0, 0, 0, 0, 0, 0, 0, 0, 0, 0, 0, 0, 0, 0, 0, 0, 0, 0]]), (60501, Blk.cells 56 [Lf.dat (K.arr 8 (K.int IntKind.u32)) (Prod.fst (Prod.snd (Prod.snd y)))]), (60551, Blk.row 5 (K.int IntKind.u8) (Prod.fst y))]
def f22_l5_E (p5_0 : List ByteArray) (p5_1 : Int) : List Int × Int × List Int × Nat × Nat → Ex × St
  | y => (Ex.exit 0, f22_l5_E0 p5_0 p5_1 y)
noncomputable def f22_l5_t (p5_0 : List ByteArray) (p5_1 : Int) (x : List Int × Int × Int × List Int × Nat × Nat) : DT (Ex × St) ((List Int × Int × Int × List Int × Nat × Nat) ⊕ (List Int × Int × List Int × Nat × Nat)) :=
 (.ask (ilt (Prod.fst (Prod.snd (Prod.snd x))) p5_1)
 (.need (ile 0 (Prod.fst (Prod.snd (Prod.snd x)))) true
 (.need (ilt (Prod.fst (Prod.snd (Prod.snd x))) (llen p5_0)) true
 (.pick false (.need (nle (Prod.fst (Prod.snd (Prod.snd (Prod.snd (Prod.snd x))))) (List.length (Prod.fst x))) true
 (.need (nEq (Prod.snd (Prod.snd (Prod.snd (Prod.snd (Prod.snd x))))) (List.length (List.drop (Prod.fst (Prod.snd (Prod.snd (Prod.snd (Prod.snd x))))) (Prod.fst x)))) true
 (.need (nle (List.length (List.append (List.drop (Prod.fst (Prod.snd (Prod.snd (Prod.snd (Prod.snd x))))) (Prod.fst x)) (nums (gd K.str p5_0 (Int.toNat (Prod.fst (Prod.snd (Prod.snd x)))))))) 9223372036854775807) true
 (.need (nle (List.length (List.append (List.drop (Prod.fst (Prod.snd (Prod.snd (Prod.snd (Prod.snd x))))) (Prod.fst x)) (nums (gd K.str p5_0 (Int.toNat (Prod.fst (Prod.snd (Prod.snd x))))))) * 1) 140737488355328) true
 (.loop (loopOf Tryd.f22 9) (St.mk [(2, SV.av (AV.one (Lf.ptr 30500 0 0 0 0))), (3, SV.av (AV.one (Lf.ptr 30501 0 0 0 0))), (4, SV.av (AV.one (Lf.own 26 0 0 (List.length (List.append (List.drop (Prod.fst (Prod.snd (Prod.snd (Prod.snd (Prod.snd x))))) (Prod.fst x)) (nums (gd K.str p5_0 (Int.toNat (Prod.fst (Prod.snd (Prod.snd x)))))))) 1))), (5, SV.av (AV.one (Lf.v (Value.int IntKind.u64 (iadd IntKind.u64 (Prod.fst (Prod.snd x)) (icv IntKind.u64 (ssz (gd K.str p5_0 (Int.toNat (Prod.fst (Prod.snd (Prod.snd x)))))))))))), (13, SV.av (AV.one (Lf.dat (K.sl K.str) p5_0))), (14, SV.av (AV.one (Lf.v (Value.int IntKind.i64 p5_1)))), (15, SV.av (AV.one (Lf.v (Value.int IntKind.i64 (Prod.fst (Prod.snd (Prod.snd x)))))))] [(26, Blk.row 5 (K.int IntKind.u8) (List.append (List.drop (Prod.fst (Prod.snd (Prod.snd (Prod.snd (Prod.snd x))))) (Prod.fst x)) (nums (gd K.str p5_0 (Int.toNat (Prod.fst (Prod.snd (Prod.snd x)))))))), (30500, Blk.cells 32 [Lf.dat (K.arr 32 (K.int IntKind.u8)) [0, 0, 0, 0, 0, 0, 0, 0, 0, 0, 0, 0, 0, 0, 0, 0, 0, 0, 0, 0, 0, 0, 0, 0, 0, 0, 0, 0, 0, 0, 0, 0]]), (30501, Blk.cells 56 [Lf.dat (K.arr 8 (K.int IntKind.u32)) (Prod.fst (Prod.snd (Prod.snd (Prod.snd x))))]), (30551, Blk.dead)]) (f22_l9_m (iadd IntKind.u64 (Prod.fst (Prod.snd x)) (icv IntKind.u64 (ssz (gd K.str p5_0 (Int.toNat (Prod.fst (Prod.snd (Prod.snd x)))))))) p5_0 p5_1 (List.append (List.drop (Prod.fst (Prod.snd (Prod.snd (Prod.snd (Prod.snd x))))) (Prod.fst x)) (nums (gd K.str p5_0 (Int.toNat (Prod.fst (Prod.snd (Prod.snd x))))))) (Prod.fst (Prod.snd (Prod.snd x))) (Prod.fst (Prod.snd (Prod.snd (Prod.snd x))), 0, List.length (List.append (List.drop (Prod.fst (Prod.snd (Prod.snd (Prod.snd (Prod.snd x))))) (Prod.fst x)) (nums (gd K.str p5_0 (Int.toNat (Prod.fst (Prod.snd (Prod.snd x))))))))) (Ex.exit 2) (f22_l9_E0 (iadd IntKind.u64 (Prod.fst (Prod.snd x)) (icv IntKind.u64 (ssz (gd K.str p5_0 (Int.toNat (Prod.fst (Prod.snd (Prod.snd x)))))))) p5_0 p5_1 (List.append (List.drop (Prod.fst (Prod.snd (Prod.snd (Prod.snd (Prod.snd x))))) (Prod.fst x)) (nums (gd K.str p5_0 (Int.toNat (Prod.fst (Prod.snd (Prod.snd x))))))) (Prod.fst (Prod.snd (Prod.snd x)))) fun z206 =>
 (.leaf (Vam.Ex.normal, St.mk [(2, SV.av (AV.one (Lf.ptr 60900 0 0 0 0))), (3, SV.av (AV.one (Lf.ptr 60901 0 0 0 0))), (4, SV.av (AV.one (Lf.own 60902 0 (Prod.fst (Prod.snd z206)) (Prod.snd (Prod.snd z206)) 1))), (5, SV.av (AV.one (Lf.v (Value.int IntKind.u64 (iadd IntKind.u64 (Prod.fst (Prod.snd x)) (icv IntKind.u64 (ssz (gd K.str p5_0 (Int.toNat (Prod.fst (Prod.snd (Prod.snd x)))))))))))), (13, SV.av (AV.one (Lf.dat (K.sl K.str) p5_0))), (14, SV.av (AV.one (Lf.v (Value.int IntKind.i64 p5_1)))), (15, SV.av (AV.one (Lf.v (Value.int IntKind.i64 (iadd IntKind.i64 (Prod.fst (Prod.snd (Prod.snd x))) 1)))))] [(60900, Blk.cells 32 [Lf.dat (K.arr 32 (K.int IntKind.u8)) [0, 0, 0, 0, 0, 0, 0, 0, 0, 0, 0, 0, 0, 0, 0, 0, 0, 0, 0, 0, 0, 0, 0, 0, 0, 0, 0, 0, 0, 0, 0, 0]]), (60901, Blk.cells 56 [Lf.dat (K.arr 8 (K.int IntKind.u32)) (Prod.fst z206)]), (60902, Blk.row 5 (K.int IntKind.u8) (List.append (List.drop (Prod.fst (Prod.snd (Prod.snd (Prod.snd (Prod.snd x))))) (Prod.fst x)) (nums (gd K.str p5_0 (Int.toNat (Prod.fst (Prod.snd (Prod.snd x))))))))]) (.inl ((List.append (List.drop (Prod.fst (Prod.snd (Prod.snd (Prod.snd (Prod.snd x))))) (Prod.fst x)) (nums (gd K.str p5_0 (Int.toNat (Prod.fst (Prod.snd (Prod.snd x)))))), iadd IntKind.u64 (Prod.fst (Prod.snd x)) (icv IntKind.u64 (ssz (gd K.str p5_0 (Int.toNat (Prod.fst (Prod.snd (Prod.snd x))))))), iadd IntKind.i64 (Prod.fst (Prod.snd (Prod.snd x))) 1, Prod.fst z206, Prod.fst (Prod.snd z206), Prod.snd (Prod.snd z206)))))))))))))
 (.leaf (Ex.exit 0, St.mk [(2, SV.av (AV.one (Lf.ptr 30500 0 0 0 0))), (3, SV.av (AV.one (Lf.ptr 30501 0 0 0 0))), (4, SV.av (AV.one (Lf.own 30551 0 (Prod.fst (Prod.snd (Prod.snd (Prod.snd (Prod.snd x))))) (Prod.snd (Prod.snd (Prod.snd (Prod.snd (Prod.snd x))))) 1))), (5, SV.av (AV.one (Lf.v (Value.int IntKind.u64 (Prod.fst (Prod.snd x)))))), (13, SV.av (AV.one (Lf.dat (K.sl K.str) p5_0))), (14, SV.av (AV.one (Lf.v (Value.int IntKind.i64 p5_1)))), (15, SV.av (AV.one (Lf.v (Value.int IntKind.i64 (Prod.fst (Prod.snd (Prod.snd x)))))))] [(30500, Blk.cells 32 [Lf.dat (K.arr 32 (K.int IntKind.u8)) [0, 0, 0, 0, 0, 0, 0, 0, 0, 0, 0, 0, 0, 0, 0, 0, 0, 0, 0, 0, 0, 0, 0, 0, 0, 0, 0, 0, 0, 0, 0, 0]]), (30501, Blk.cells 56 [Lf.dat (K.arr 8 (K.int IntKind.u32)) (Prod.fst (Prod.snd (Prod.snd (Prod.snd x))))]), (30551, Blk.row 5 (K.int IntKind.u8) (Prod.fst x))]) (.inr ((Prod.fst x, Prod.fst (Prod.snd x), Prod.fst (Prod.snd (Prod.snd (Prod.snd x))), Prod.fst (Prod.snd (Prod.snd (Prod.snd (Prod.snd x)))), Prod.snd (Prod.snd (Prod.snd (Prod.snd (Prod.snd x)))))))))
theorem f22_l5_v (p5_0 : List ByteArray) (p5_1 : Int) (x : List Int × Int × Int × List Int × Nat × Nat) : vc (execK P noG Tryd.f22.ntmps f22_hn [2, 3, 4, 5, 13, 14, 15] (loopOf Tryd.f22 5) (f22_l5_D p5_0 p5_1 x)) (f22_l5_t p5_0 p5_1 x) = vcT (f22_l5_t p5_0 p5_1 x) := by kernel_rfl
theorem f22_l5_o (d : Nat) (p5_0 : List ByteArray) (p5_1 : Int) (x : List Int × Int × Int × List Int × Nat × Nat) : obl (Snd P noG) (Lp P noG Tryd.f22.ntmps [] f22_hn (d + 1)) (RelL Tryd.f22.ntmps noG [] (f22_l5_D p5_0 p5_1) (f22_l5_E p5_0 p5_1)) (f22_l5_t p5_0 p5_1 x) := by
 unfold f22_l5_t
 exact (oAsk (fun h0 => (oNeed fun h1 => (oNeed fun h2 => (oPick (oNeed fun h3 => (oNeed fun h4 => (oNeed fun h5 => (oNeed fun h6 => (oLoop (fun _ e => f22_l9_s0 d e (wk_tw [(26, 30902), (30501, 30901), (30500, 30900)] [2, 3, 4, 5, 13, 14, 15] [] (by kernel_rfl) (by kernel_rfl))) fun z206 _ =>
 (oLeaf (relN (wk_tw [(60902, 30551), (60901, 30501), (60900, 30500)] [2, 3, 4, 5, 13, 14, 15] [] (by kernel_rfl) (by kernel_rfl)))))))))))))
 (fun h0 => (oLeaf (relE rfl (wk_tw [(30551, 60551), (30501, 60501), (30500, 60500)] [2, 3, 4, 5] [] (by kernel_rfl) (by kernel_rfl))))))
noncomputable def f22_l5_m (p5_0 : List ByteArray) (p5_1 : Int) (x : List Int × Int × Int × List Int × Nat × Nat) : Option (List Int × Int × List Int × Nat × Nat) := lrun (fun x => mod (f22_l5_t p5_0 p5_1 x)) x
theorem f22_l5_e (p5_0 : List ByteArray) (p5_1 : Int) (x : List Int × Int × Int × List Int × Nat × Nat) : mod (f22_l5_t p5_0 p5_1 x) =
 (sel (ilt (Prod.fst (Prod.snd (Prod.snd x))) p5_1)
 (sel (ile 0 (Prod.fst (Prod.snd (Prod.snd x))))
 (sel (ilt (Prod.fst (Prod.snd (Prod.snd x))) (llen p5_0))
 (sel (nle (Prod.fst (Prod.snd (Prod.snd (Prod.snd (Prod.snd x))))) (List.length (Prod.fst x)))
 (sel (nEq (Prod.snd (Prod.snd (Prod.snd (Prod.snd (Prod.snd x))))) (List.length (List.drop (Prod.fst (Prod.snd (Prod.snd (Prod.snd (Prod.snd x))))) (Prod.fst x))))
 (sel (nle (List.length (List.append (List.drop (Prod.fst (Prod.snd (Prod.snd (Prod.snd (Prod.snd x))))) (Prod.fst x)) (nums (gd K.str p5_0 (Int.toNat (Prod.fst (Prod.snd (Prod.snd x)))))))) 9223372036854775807)
 (sel (nle (List.length (List.append (List.drop (Prod.fst (Prod.snd (Prod.snd (Prod.snd (Prod.snd x))))) (Prod.fst x)) (nums (gd K.str p5_0 (Int.toNat (Prod.fst (Prod.snd (Prod.snd x))))))) * 1) 140737488355328)
 (Option.bind (f22_l9_m (iadd IntKind.u64 (Prod.fst (Prod.snd x)) (icv IntKind.u64 (ssz (gd K.str p5_0 (Int.toNat (Prod.fst (Prod.snd (Prod.snd x)))))))) p5_0 p5_1 (List.append (List.drop (Prod.fst (Prod.snd (Prod.snd (Prod.snd (Prod.snd x))))) (Prod.fst x)) (nums (gd K.str p5_0 (Int.toNat (Prod.fst (Prod.snd (Prod.snd x))))))) (Prod.fst (Prod.snd (Prod.snd x))) (Prod.fst (Prod.snd (Prod.snd (Prod.snd x))), 0, List.length (List.append (List.drop (Prod.fst (Prod.snd (Prod.snd (Prod.snd (Prod.snd x))))) (Prod.fst x)) (nums (gd K.str p5_0 (Int.toNat (Prod.fst (Prod.snd (Prod.snd x))))))))) fun z206 =>
 (some ((.inl ((List.append (List.drop (Prod.fst (Prod.snd (Prod.snd (Prod.snd (Prod.snd x))))) (Prod.fst x)) (nums (gd K.str p5_0 (Int.toNat (Prod.fst (Prod.snd (Prod.snd x)))))), iadd IntKind.u64 (Prod.fst (Prod.snd x)) (icv IntKind.u64 (ssz (gd K.str p5_0 (Int.toNat (Prod.fst (Prod.snd (Prod.snd x))))))), iadd IntKind.i64 (Prod.fst (Prod.snd (Prod.snd x))) 1, Prod.fst z206, Prod.fst (Prod.snd z206), Prod.snd (Prod.snd z206))))))) none) none) none) none) none) none)
 (some ((.inr ((Prod.fst x, Prod.fst (Prod.snd x), Prod.fst (Prod.snd (Prod.snd (Prod.snd x))), Prod.fst (Prod.snd (Prod.snd (Prod.snd (Prod.snd x)))), Prod.snd (Prod.snd (Prod.snd (Prod.snd (Prod.snd x)))))))))) := by kernel_rfl
theorem f22_l5_s0 (d : Nat) {p5_0 : List ByteArray} {p5_1 : Int} {σ : St} {x : List Int × Int × Int × List Int × Nat × Nat} {z : List Int × Int × List Int × Nat × Nat} (h : f22_l5_m p5_0 p5_1 x = some z) (hw : Wk Tryd.f22.ntmps noG [] σ (f22_l5_D p5_0 p5_1 x)) : Lp P noG Tryd.f22.ntmps [] f22_hn (d + 2) (loopOf Tryd.f22 5) σ (Ex.exit 0) (f22_l5_E0 p5_0 p5_1 z) :=
 lp_tree (D := f22_l5_D p5_0 p5_1) (E := f22_l5_E p5_0 p5_1) (f22_l5_v p5_0 p5_1) (f22_l5_o d p5_0 p5_1) h hw
def f22_R (a0 : List ByteArray) : List Int → SV × Hp
  | z => (SV.av (AV.one (Lf.dat (K.arr 32 (K.int IntKind.u8)) z)), [])
noncomputable def f22_t (a0 : List ByteArray) : DT (SV × Hp) (List Int) :=
 (.loop (loopOf Tryd.f22 5) (St.mk [(2, SV.av (AV.one (Lf.ptr 2 0 0 0 0))), (3, SV.av (AV.one (Lf.ptr 3 0 0 0 0))), (4, SV.av (AV.one (Lf.v (Value.slice none 0 0)))), (5, SV.av (AV.one (Lf.v (Value.int IntKind.u64 0)))), (13, SV.av (AV.one (Lf.dat (K.sl K.str) a0))), (14, SV.av (AV.one (Lf.v (Value.int IntKind.i64 (llen a0))))), (15, SV.av (AV.one (Lf.v (Value.int IntKind.i64 0))))] [(2, Blk.cells 32 [Lf.dat (K.arr 32 (K.int IntKind.u8)) [0, 0, 0, 0, 0, 0, 0, 0, 0, 0, 0, 0, 0, 0, 0, 0, 0, 0, 0, 0, 0, 0, 0, 0, 0, 0, 0, 0, 0, 0, 0, 0]]), (3, Blk.cells 56 [Lf.dat (K.arr 8 (K.int IntKind.u32)) [1779033703, 3144134277, 1013904242, 2773480762, 1359893119, 2600822924, 528734635, 1541459225]])]) (f22_l5_m a0 (llen a0) ([], 0, 0, [1779033703, 3144134277, 1013904242, 2773480762, 1359893119, 2600822924, 528734635, 1541459225], 0, 0)) (Ex.exit 0) (f22_l5_E0 a0 (llen a0)) fun z207 =>
 (.pick true (.sure (true) true
 (.pick false (.need (nle (Prod.fst (Prod.snd (Prod.snd (Prod.snd z207)))) (List.length (Prod.fst z207))) true
 (.need (nEq (Prod.snd (Prod.snd (Prod.snd (Prod.snd z207)))) (List.length (List.drop (Prod.fst (Prod.snd (Prod.snd (Prod.snd z207)))) (Prod.fst z207)))) true
 (.need (nle (List.length (List.append (List.drop (Prod.fst (Prod.snd (Prod.snd (Prod.snd z207)))) (Prod.fst z207)) [128])) 9223372036854775807) true
 (.need (nle (List.length (List.append (List.drop (Prod.fst (Prod.snd (Prod.snd (Prod.snd z207)))) (Prod.fst z207)) [128]) * 1) 140737488355328) true
 (.loop (loopOf Tryd.f22 14) (St.mk [(2, SV.av (AV.one (Lf.ptr 60500 0 0 0 0))), (3, SV.av (AV.one (Lf.ptr 60501 0 0 0 0))), (4, SV.av (AV.one (Lf.own 38 0 0 (List.length (List.append (List.drop (Prod.fst (Prod.snd (Prod.snd (Prod.snd z207)))) (Prod.fst z207)) [128])) 1))), (5, SV.av (AV.one (Lf.v (Value.int IntKind.u64 (Prod.fst (Prod.snd z207))))))] [(37, Blk.row 5 (K.int IntKind.u8) [128]), (38, Blk.row 5 (K.int IntKind.u8) (List.append (List.drop (Prod.fst (Prod.snd (Prod.snd (Prod.snd z207)))) (Prod.fst z207)) [128])), (60500, Blk.cells 32 [Lf.dat (K.arr 32 (K.int IntKind.u8)) [0, 0, 0, 0, 0, 0, 0, 0, 0, 0, 0, 0, 0, 0, 0, 0, 0, 0, 0, 0, 0, 0, 0, 0, 0, 0, 0, 0, 0, 0, 0, 0]]), (60501, Blk.cells 56 [Lf.dat (K.arr 8 (K.int IntKind.u32)) (Prod.fst (Prod.snd (Prod.snd z207)))]), (60551, Blk.dead)]) (f22_l14_m (Prod.fst (Prod.snd z207)) (Prod.fst (Prod.snd (Prod.snd z207))) (List.append (List.drop (Prod.fst (Prod.snd (Prod.snd (Prod.snd z207)))) (Prod.fst z207)) [128])) (Ex.exit 4) (f22_l14_E0 (Prod.fst (Prod.snd z207)) (Prod.fst (Prod.snd (Prod.snd z207)))) fun z208 =>
 (.loop (loopOf Tryd.f22 17) (St.mk [(2, SV.av (AV.one (Lf.ptr 61400 0 0 0 0))), (3, SV.av (AV.one (Lf.ptr 61401 0 0 0 0))), (4, SV.av (AV.one (Lf.own 61402 0 0 (List.length z208) 1))), (5, SV.av (AV.one (Lf.v (Value.int IntKind.u64 (Prod.fst (Prod.snd z207)))))), (46, SV.av (AV.one (Lf.v (Value.int IntKind.i64 0))))] [(61400, Blk.cells 32 [Lf.dat (K.arr 32 (K.int IntKind.u8)) [0, 0, 0, 0, 0, 0, 0, 0, 0, 0, 0, 0, 0, 0, 0, 0, 0, 0, 0, 0, 0, 0, 0, 0, 0, 0, 0, 0, 0, 0, 0, 0]]), (61401, Blk.cells 56 [Lf.dat (K.arr 8 (K.int IntKind.u32)) (Prod.fst (Prod.snd (Prod.snd z207)))]), (61402, Blk.row 5 (K.int IntKind.u8) z208)]) (f22_l17_m (Prod.fst (Prod.snd z207)) (Prod.fst (Prod.snd (Prod.snd z207))) (z208, 0)) (Ex.exit 6) (f22_l17_E0 (Prod.fst (Prod.snd z207)) (Prod.fst (Prod.snd (Prod.snd z207)))) fun z209 =>
 (.loop (loopOf Tryd.f22 22) (St.mk [(2, SV.av (AV.one (Lf.ptr 61700 0 0 0 0))), (3, SV.av (AV.one (Lf.ptr 61701 0 0 0 0))), (4, SV.av (AV.one (Lf.own 61702 0 0 (List.length z209) 1))), (9, SV.av (AV.one (Lf.v (Value.int IntKind.i64 0))))] [(61700, Blk.cells 32 [Lf.dat (K.arr 32 (K.int IntKind.u8)) [0, 0, 0, 0, 0, 0, 0, 0, 0, 0, 0, 0, 0, 0, 0, 0, 0, 0, 0, 0, 0, 0, 0, 0, 0, 0, 0, 0, 0, 0, 0, 0]]), (61701, Blk.cells 56 [Lf.dat (K.arr 8 (K.int IntKind.u32)) (Prod.fst (Prod.snd (Prod.snd z207)))]), (61702, Blk.row 5 (K.int IntKind.u8) z209)]) (f22_l22_m z209 (Prod.fst (Prod.snd (Prod.snd z207)), 0)) (Ex.exit 8) (f22_l22_E0 z209) fun z210 =>
 (.loop (loopOf Tryd.f22 27) (St.mk [(2, SV.av (AV.one (Lf.ptr 62200 0 0 0 0))), (3, SV.av (AV.one (Lf.ptr 62201 0 0 0 0))), (10, SV.av (AV.one (Lf.ptr 10 0 0 0 0))), (71, SV.av (AV.one (Lf.v (Value.int IntKind.i64 0))))] [(10, Blk.cells 32 [Lf.dat (K.arr 32 (K.int IntKind.u8)) [0, 0, 0, 0, 0, 0, 0, 0, 0, 0, 0, 0, 0, 0, 0, 0, 0, 0, 0, 0, 0, 0, 0, 0, 0, 0, 0, 0, 0, 0, 0, 0]]), (62200, Blk.cells 32 [Lf.dat (K.arr 32 (K.int IntKind.u8)) [0, 0, 0, 0, 0, 0, 0, 0, 0, 0, 0, 0, 0, 0, 0, 0, 0, 0, 0, 0, 0, 0, 0, 0, 0, 0, 0, 0, 0, 0, 0, 0]]), (62201, Blk.cells 56 [Lf.dat (K.arr 8 (K.int IntKind.u32)) z210])]) (f22_l27_m z210 ([0, 0, 0, 0, 0, 0, 0, 0, 0, 0, 0, 0, 0, 0, 0, 0, 0, 0, 0, 0, 0, 0, 0, 0, 0, 0, 0, 0, 0, 0, 0, 0], 0)) (Ex.exit 10) (f22_l27_E0 z210) fun z211 =>
 (.leaf (SV.av (AV.one (Lf.dat (K.arr 32 (K.int IntKind.u8)) z211)), [(62700, Blk.cells 32 [Lf.dat (K.arr 32 (K.int IntKind.u8)) z211]), (62701, Blk.cells 32 [Lf.dat (K.arr 32 (K.int IntKind.u8)) z211])]) (z211))))))))))))))
theorem f22_v (a0 : List ByteArray) : vc (runR P noG Tryd.f22 f22_hn [AV.one (Lf.dat (K.sl K.str) a0)] []) (f22_t a0) = vcT (f22_t a0) := by kernel_rfl
theorem f22_o (a0 : List ByteArray) : obl (Snd P noG) (Lp P noG Tryd.f22.ntmps [] f22_hn 2) (RelF [] (f22_R a0)) (f22_t a0) := by
 unfold f22_t
 exact (oLoop (fun _ e => f22_l5_s0 0 e (wk_tw [(3, 30501), (2, 30500)] [2, 3, 4, 5, 13, 14, 15] [(30551, 5, K.int IntKind.u8)] (by kernel_rfl) (by kernel_rfl))) fun z207 _ =>
 (oPick (oSure rfl (oPick (oNeed fun h0 => (oNeed fun h1 => (oNeed fun h2 => (oNeed fun h3 => (oLoop (fun _ e => f22_l14_s0 1 e (wk_tw [(38, 31402), (60501, 31401), (60500, 31400)] [2, 3, 4, 5] [] (by kernel_rfl) (by kernel_rfl))) fun z208 _ =>
 (oLoop (fun _ e => f22_l17_s0 1 e (wk_tw [(61402, 31702), (61401, 31701), (61400, 31700)] [2, 3, 4, 5, 46] [] (by kernel_rfl) (by kernel_rfl))) fun z209 _ =>
 (oLoop (fun _ e => f22_l22_s0 1 e (wk_tw [(61702, 32202), (61701, 32201), (61700, 32200)] [2, 3, 4, 9] [] (by kernel_rfl) (by kernel_rfl))) fun z210 _ =>
 (oLoop (fun _ e => f22_l27_s0 1 e (wk_tw [(10, 32702), (62201, 32701), (62200, 32700)] [2, 3, 10, 71] [] (by kernel_rfl) (by kernel_rfl))) fun z211 _ =>
 (oLeaf (wks_tw [] [] (by kernel_rfl) (by kernel_rfl)))))))))))))))
noncomputable def f22_m (a0 : List ByteArray) : Option (List Int) := mod (f22_t a0)
theorem f22_e (a0 : List ByteArray) : f22_m a0 =
 (Option.bind (f22_l5_m a0 (llen a0) ([], 0, 0, [1779033703, 3144134277, 1013904242, 2773480762, 1359893119, 2600822924, 528734635, 1541459225], 0, 0)) fun z207 =>
 (sel (nle (Prod.fst (Prod.snd (Prod.snd (Prod.snd z207)))) (List.length (Prod.fst z207)))
 (sel (nEq (Prod.snd (Prod.snd (Prod.snd (Prod.snd z207)))) (List.length (List.drop (Prod.fst (Prod.snd (Prod.snd (Prod.snd z207)))) (Prod.fst z207))))
 (sel (nle (List.length (List.append (List.drop (Prod.fst (Prod.snd (Prod.snd (Prod.snd z207)))) (Prod.fst z207)) [128])) 9223372036854775807)
 (sel (nle (List.length (List.append (List.drop (Prod.fst (Prod.snd (Prod.snd (Prod.snd z207)))) (Prod.fst z207)) [128]) * 1) 140737488355328)
 (Option.bind (f22_l14_m (Prod.fst (Prod.snd z207)) (Prod.fst (Prod.snd (Prod.snd z207))) (List.append (List.drop (Prod.fst (Prod.snd (Prod.snd (Prod.snd z207)))) (Prod.fst z207)) [128])) fun z208 =>
 (Option.bind (f22_l17_m (Prod.fst (Prod.snd z207)) (Prod.fst (Prod.snd (Prod.snd z207))) (z208, 0)) fun z209 =>
 (Option.bind (f22_l22_m z209 (Prod.fst (Prod.snd (Prod.snd z207)), 0)) fun z210 =>
 (Option.bind (f22_l27_m z210 ([0, 0, 0, 0, 0, 0, 0, 0, 0, 0, 0, 0, 0, 0, 0, 0, 0, 0, 0, 0, 0, 0, 0, 0, 0, 0, 0, 0, 0, 0, 0, 0], 0)) fun z211 =>
 (some ((z211))))))) none) none) none) none)) := by kernel_rfl
theorem f22_s {a0 : List ByteArray} {z : List Int} (h : f22_m a0 = some z) : Snd P noG 22 [AV.one (Lf.dat (K.sl K.str) a0)] [] (SV.av (AV.one (Lf.dat (K.arr 32 (K.int IntKind.u8)) z))) [] :=
 snd_tree (hn := f22_hn) 2 (f22_R a0) mixed (by kernel_rfl) (by kernel_rfl) (by kernel_rfl) (by kernel_rfl) (by kernel_rfl) (f22_v a0) (f22_o a0) h
def f11_hn : Hn := Hn.mk [(1002, [(1000000, 6)]), (1006, [(1000000, 10)])] [] [] [] []
def f11_R (a0 : ByteArray) (a1 : List ByteArray) : List Int → SV × Hp
  | z => (SV.av (AV.one (Lf.dat (K.arr 32 (K.int IntKind.u8)) z)), [])
noncomputable def f11_t (a0 : ByteArray) (a1 : List ByteArray) : DT (SV × Hp) (List Int) :=
 (.pick true (.sure (true) true
 (.call 9 [AV.one (Lf.dat (K.sl K.str) [a0])] [] (f9_m [a0]) (fun z35 => SV.av (AV.one (Lf.v (Value.string z35)))) (fun z35 => []) fun z35 =>
 (.call 9 [AV.one (Lf.dat (K.sl K.str) a1)] [] (f9_m a1) (fun z40 => SV.av (AV.one (Lf.v (Value.string z40)))) (fun z40 => []) fun z40 =>
 (.pick true (.sure (true) true
 (.call 22 [AV.one (Lf.dat (K.sl K.str) [z35, z40])] [] (f22_m [z35, z40]) (fun z45 => SV.av (AV.one (Lf.dat (K.arr 32 (K.int IntKind.u8)) z45))) (fun z45 => []) fun z45 =>
 (.leaf (SV.av (AV.one (Lf.dat (K.arr 32 (K.int IntKind.u8)) z45)), [(4, Blk.cells 32 [Lf.dat (K.arr 32 (K.int IntKind.u8)) z45]), (6, Blk.row 9 K.str [a0]), (10, Blk.row 9 K.str [z35, z40])]) (z45)))))))))
theorem f11_v (a0 : ByteArray) (a1 : List ByteArray) : vc (runR P noG Tryd.f11 f11_hn [AV.one (Lf.v (Value.string a0)), AV.one (Lf.dat (K.sl K.str) a1)] []) (f11_t a0 a1) = vcT (f11_t a0 a1) := by kernel_rfl
theorem f11_o (a0 : ByteArray) (a1 : List ByteArray) : obl (Snd P noG) (Lp P noG Tryd.f11.ntmps [] f11_hn 1) (RelF [] (f11_R a0 a1)) (f11_t a0 a1) := by
 unfold f11_t
 exact (oPick (oSure rfl (oCall (fun _ e => f9_s e) fun z35 _ =>
 (oCall (fun _ e => f9_s e) fun z40 _ =>
 (oPick (oSure rfl (oCall (fun _ e => f22_s e) fun z45 _ =>
 (oLeaf (wks_tw [] [] (by kernel_rfl) (by kernel_rfl))))))))))
noncomputable def f11_m (a0 : ByteArray) (a1 : List ByteArray) : Option (List Int) := mod (f11_t a0 a1)
theorem f11_e (a0 : ByteArray) (a1 : List ByteArray) : f11_m a0 a1 =
 (Option.bind (f9_m [a0]) fun z35 =>
 (Option.bind (f9_m a1) fun z40 =>
 (Option.bind (f22_m [z35, z40]) fun z45 =>
 (some ((z45)))))) := by kernel_rfl
theorem f11_s {a0 : ByteArray} {a1 : List ByteArray} {z : List Int} (h : f11_m a0 a1 = some z) : Snd P noG 11 [AV.one (Lf.v (Value.string a0)), AV.one (Lf.dat (K.sl K.str) a1)] [] (SV.av (AV.one (Lf.dat (K.arr 32 (K.int IntKind.u8)) z))) [] :=
 snd_tree (hn := f11_hn) 1 (f11_R a0 a1) mixed (by kernel_rfl) (by kernel_rfl) (by kernel_rfl) (by kernel_rfl) (by kernel_rfl) (f11_v a0 a1) (f11_o a0 a1) h
def f13_hn : Hn := Hn.mk [] [] [] [] []
def f13_R (a0 : ByteArray) (a1 : List ByteArray) : List Int → SV × Hp
  | z => (SV.av (AV.one (Lf.dat (K.arr 16 (K.int IntKind.u8)) z)), [])
noncomputable def f13_t (a0 : ByteArray) (a1 : List ByteArray) : DT (SV × Hp) (List Int) :=
 (.call 11 [AV.one (Lf.v (Value.string a0)), AV.one (Lf.dat (K.sl K.str) a1)] [] (f11_m a0 a1) (fun z24 => SV.av (AV.one (Lf.dat (K.arr 32 (K.int IntKind.u8)) z24))) (fun z24 => []) fun z24 =>
 (.sure (true) true
 (.sure (true) true
 (.sure (true) true
 (.sure (true) true
 (.pick true (.sure (true) true
 (.sure (true) true
 (.ask (nle (List.length z24) 16)
 (.leaf (SV.av (AV.one (Lf.dat (K.arr 16 (K.int IntKind.u8)) (over [0, 0, 0, 0, 0, 0, 0, 0, 0, 0, 0, 0, 0, 0, 0, 0] 0 z24))), [(4, Blk.cells 36 [Lf.dat (K.arr 16 (K.int IntKind.u8)) (over [0, 0, 0, 0, 0, 0, 0, 0, 0, 0, 0, 0, 0, 0, 0, 0] 0 z24)]), (5, Blk.cells 32 [Lf.dat (K.arr 32 (K.int IntKind.u8)) z24]), (6, Blk.cells 36 [Lf.dat (K.arr 16 (K.int IntKind.u8)) (over [0, 0, 0, 0, 0, 0, 0, 0, 0, 0, 0, 0, 0, 0, 0, 0] 0 z24)])]) (over [0, 0, 0, 0, 0, 0, 0, 0, 0, 0, 0, 0, 0, 0, 0, 0] 0 z24))
 (.leaf (SV.av (AV.one (Lf.dat (K.arr 16 (K.int IntKind.u8)) (over [0, 0, 0, 0, 0, 0, 0, 0, 0, 0, 0, 0, 0, 0, 0, 0] 0 (List.take 16 z24)))), [(4, Blk.cells 36 [Lf.dat (K.arr 16 (K.int IntKind.u8)) (over [0, 0, 0, 0, 0, 0, 0, 0, 0, 0, 0, 0, 0, 0, 0, 0] 0 (List.take 16 z24))]), (5, Blk.cells 32 [Lf.dat (K.arr 32 (K.int IntKind.u8)) z24]), (6, Blk.cells 36 [Lf.dat (K.arr 16 (K.int IntKind.u8)) (over [0, 0, 0, 0, 0, 0, 0, 0, 0, 0, 0, 0, 0, 0, 0, 0] 0 (List.take 16 z24))])]) (over [0, 0, 0, 0, 0, 0, 0, 0, 0, 0, 0, 0, 0, 0, 0, 0] 0 (List.take 16 z24))))))))))))
theorem f13_v (a0 : ByteArray) (a1 : List ByteArray) : vc (runR P noG Tryd.f13 f13_hn [AV.one (Lf.v (Value.string a0)), AV.one (Lf.dat (K.sl K.str) a1)] []) (f13_t a0 a1) = vcT (f13_t a0 a1) := by kernel_rfl
theorem f13_o (a0 : ByteArray) (a1 : List ByteArray) : obl (Snd P noG) (Lp P noG Tryd.f13.ntmps [] f13_hn 1) (RelF [] (f13_R a0 a1)) (f13_t a0 a1) := by
 unfold f13_t
 exact (oCall (fun _ e => f11_s e) fun z24 _ =>
 (oSure rfl (oSure rfl (oSure rfl (oSure rfl (oPick (oSure rfl (oSure rfl (oAsk (fun h0 => (oLeaf (wks_tw [] [] (by kernel_rfl) (by kernel_rfl))))
 (fun h0 => (oLeaf (wks_tw [] [] (by kernel_rfl) (by kernel_rfl)))))))))))))
noncomputable def f13_m (a0 : ByteArray) (a1 : List ByteArray) : Option (List Int) := mod (f13_t a0 a1)
theorem f13_e (a0 : ByteArray) (a1 : List ByteArray) : f13_m a0 a1 =
 (Option.bind (f11_m a0 a1) fun z24 =>
 (sel (nle (List.length z24) 16)
 (some ((over [0, 0, 0, 0, 0, 0, 0, 0, 0, 0, 0, 0, 0, 0, 0, 0] 0 z24)))
 (some ((over [0, 0, 0, 0, 0, 0, 0, 0, 0, 0, 0, 0, 0, 0, 0, 0] 0 (List.take 16 z24)))))) := by kernel_rfl
theorem f13_s {a0 : ByteArray} {a1 : List ByteArray} {z : List Int} (h : f13_m a0 a1 = some z) : Snd P noG 13 [AV.one (Lf.v (Value.string a0)), AV.one (Lf.dat (K.sl K.str) a1)] [] (SV.av (AV.one (Lf.dat (K.arr 16 (K.int IntKind.u8)) z))) [] :=
 snd_tree (hn := f13_hn) 1 (f13_R a0 a1) mixed (by kernel_rfl) (by kernel_rfl) (by kernel_rfl) (by kernel_rfl) (by kernel_rfl) (f13_v a0 a1) (f13_o a0 a1) h
def f15_hn : Hn := Hn.mk [] [] [] [] []
def f15_R (a0 : Int) : ByteArray → SV × Hp
  | z => (SV.av (AV.one (Lf.v (Value.string z))), [])
noncomputable def f15_t (a0 : Int) : DT (SV × Hp) (ByteArray) :=
 (.call 21 [AV.one (Lf.v (Value.int IntKind.u64 a0)), AV.one (Lf.v (Value.int IntKind.i64 8))] [] (f21_m a0 8) (fun z24 => SV.av (AV.one (Lf.v (Value.string z24)))) (fun z24 => []) fun z24 =>
 (.leaf (SV.av (AV.one (Lf.v (Value.string z24))), []) (z24)))
theorem f15_v (a0 : Int) : vc (runR P noG Tryd.f15 f15_hn [AV.one (Lf.v (Value.int IntKind.u64 a0))] []) (f15_t a0) = vcT (f15_t a0) := by kernel_rfl
theorem f15_o (a0 : Int) : obl (Snd P noG) (Lp P noG Tryd.f15.ntmps [] f15_hn 1) (RelF [] (f15_R a0)) (f15_t a0) := by
 unfold f15_t
 exact (oCall (fun _ e => f21_s e) fun z24 _ =>
 (oLeaf (wks_tw [] [] (by kernel_rfl) (by kernel_rfl))))
noncomputable def f15_m (a0 : Int) : Option (ByteArray) := mod (f15_t a0)
theorem f15_e (a0 : Int) : f15_m a0 =
 (Option.bind (f21_m a0 8) fun z24 =>
 (some ((z24)))) := by kernel_rfl
theorem f15_s {a0 : Int} {z : ByteArray} (h : f15_m a0 = some z) : Snd P noG 15 [AV.one (Lf.v (Value.int IntKind.u64 a0))] [] (SV.av (AV.one (Lf.v (Value.string z)))) [] :=
 snd_tree (hn := f15_hn) 1 (f15_R a0) mixed (by kernel_rfl) (by kernel_rfl) (by kernel_rfl) (by kernel_rfl) (by kernel_rfl) (f15_v a0) (f15_o a0) h
def f17_hn : Hn := Hn.mk [] [] [] [] []
def f17_R (a0 : Int) (a1 : Int) : List Int → SV × Hp
  | z => (SV.av (AV.one (Lf.dat (K.arr 12 (K.int IntKind.u8)) z)), [])
noncomputable def f17_t (a0 : Int) (a1 : Int) : DT (SV × Hp) (List Int) :=
 (.sure (true) true
 (.sure (true) true
 (.call 21 [AV.one (Lf.v (Value.int IntKind.u64 (icv IntKind.u64 a0))), AV.one (Lf.v (Value.int IntKind.i64 4))] [] (f21_m (icv IntKind.u64 a0) 4) (fun z34 => SV.av (AV.one (Lf.v (Value.string z34)))) (fun z34 => []) fun z34 =>
 (.call 15 [AV.one (Lf.v (Value.int IntKind.u64 a1))] [] (f15_m a1) (fun z39 => SV.av (AV.one (Lf.v (Value.string z39)))) (fun z39 => []) fun z39 =>
 (.need (nle (ByteArray.size z34 + ByteArray.size z39) 9223372036854775807) true
 (.sure (true) true
 (.ask (nle (List.length (nums (sapp z34 z39))) 12)
 (.leaf (SV.av (AV.one (Lf.dat (K.arr 12 (K.int IntKind.u8)) (over [0, 0, 0, 0, 0, 0, 0, 0, 0, 0, 0, 0] 0 (nums (sapp z34 z39))))), [(4, Blk.cells 41 [Lf.dat (K.arr 12 (K.int IntKind.u8)) (over [0, 0, 0, 0, 0, 0, 0, 0, 0, 0, 0, 0] 0 (nums (sapp z34 z39)))]), (5, Blk.cells 41 [Lf.dat (K.arr 12 (K.int IntKind.u8)) (over [0, 0, 0, 0, 0, 0, 0, 0, 0, 0, 0, 0] 0 (nums (sapp z34 z39)))])]) (over [0, 0, 0, 0, 0, 0, 0, 0, 0, 0, 0, 0] 0 (nums (sapp z34 z39))))
 (.leaf (SV.av (AV.one (Lf.dat (K.arr 12 (K.int IntKind.u8)) (over [0, 0, 0, 0, 0, 0, 0, 0, 0, 0, 0, 0] 0 (List.take 12 (nums (sapp z34 z39)))))), [(4, Blk.cells 41 [Lf.dat (K.arr 12 (K.int IntKind.u8)) (over [0, 0, 0, 0, 0, 0, 0, 0, 0, 0, 0, 0] 0 (List.take 12 (nums (sapp z34 z39))))]), (5, Blk.cells 41 [Lf.dat (K.arr 12 (K.int IntKind.u8)) (over [0, 0, 0, 0, 0, 0, 0, 0, 0, 0, 0, 0] 0 (List.take 12 (nums (sapp z34 z39))))])]) (over [0, 0, 0, 0, 0, 0, 0, 0, 0, 0, 0, 0] 0 (List.take 12 (nums (sapp z34 z39))))))))))))
theorem f17_v (a0 : Int) (a1 : Int) : vc (runR P noG Tryd.f17 f17_hn [AV.one (Lf.v (Value.int IntKind.u32 a0)), AV.one (Lf.v (Value.int IntKind.u64 a1))] []) (f17_t a0 a1) = vcT (f17_t a0 a1) := by kernel_rfl
theorem f17_o (a0 : Int) (a1 : Int) : obl (Snd P noG) (Lp P noG Tryd.f17.ntmps [] f17_hn 1) (RelF [] (f17_R a0 a1)) (f17_t a0 a1) := by
 unfold f17_t
 exact (oSure rfl (oSure rfl (oCall (fun _ e => f21_s e) fun z34 _ =>
 (oCall (fun _ e => f15_s e) fun z39 _ =>
 (oNeed fun h0 => (oSure rfl (oAsk (fun h1 => (oLeaf (wks_tw [] [] (by kernel_rfl) (by kernel_rfl))))
 (fun h1 => (oLeaf (wks_tw [] [] (by kernel_rfl) (by kernel_rfl)))))))))))
noncomputable def f17_m (a0 : Int) (a1 : Int) : Option (List Int) := mod (f17_t a0 a1)
theorem f17_e (a0 : Int) (a1 : Int) : f17_m a0 a1 =
 (Option.bind (f21_m (icv IntKind.u64 a0) 4) fun z34 =>
 (Option.bind (f15_m a1) fun z39 =>
 (sel (nle (ByteArray.size z34 + ByteArray.size z39) 9223372036854775807)
 (sel (nle (List.length (nums (sapp z34 z39))) 12)
 (some ((over [0, 0, 0, 0, 0, 0, 0, 0, 0, 0, 0, 0] 0 (nums (sapp z34 z39)))))
 (some ((over [0, 0, 0, 0, 0, 0, 0, 0, 0, 0, 0, 0] 0 (List.take 12 (nums (sapp z34 z39))))))) none))) := by kernel_rfl
theorem f17_s {a0 : Int} {a1 : Int} {z : List Int} (h : f17_m a0 a1 = some z) : Snd P noG 17 [AV.one (Lf.v (Value.int IntKind.u32 a0)), AV.one (Lf.v (Value.int IntKind.u64 a1))] [] (SV.av (AV.one (Lf.dat (K.arr 12 (K.int IntKind.u8)) z))) [] :=
 snd_tree (hn := f17_hn) 1 (f17_R a0 a1) mixed (by kernel_rfl) (by kernel_rfl) (by kernel_rfl) (by kernel_rfl) (by kernel_rfl) (f17_v a0 a1) (f17_o a0 a1) h
def f8_hn : Hn := Hn.mk [(1001, [(1000000, 3)]), (1003, [(1000000, 5)]), (2001, [(1000000, 7)])] [] [] [] []
def f8_R  : Bool → SV × Hp
  | z => (SV.av (AV.one (Lf.v (Value.bool z))), [])
noncomputable def f8_t  : DT (SV × Hp) (Bool) :=
 (.pick true (.sure (true) true
 (.call 11 [AV.one (Lf.v (Value.string (ByteArray.mk #[97]))), AV.one (Lf.dat (K.sl K.str) [ByteArray.mk #[98]])] [] (f11_m (ByteArray.mk #[97]) [ByteArray.mk #[98]]) (fun z150 => SV.av (AV.one (Lf.dat (K.arr 32 (K.int IntKind.u8)) z150))) (fun z150 => []) fun z150 =>
 (.pick true (.sure (true) true
 (.call 13 [AV.one (Lf.v (Value.string (ByteArray.mk #[97]))), AV.one (Lf.dat (K.sl K.str) [ByteArray.mk #[98]])] [] (f13_m (ByteArray.mk #[97]) [ByteArray.mk #[98]]) (fun z158 => SV.av (AV.one (Lf.dat (K.arr 16 (K.int IntKind.u8)) z158))) (fun z158 => []) fun z158 =>
 (.pick true (.sure (true) true
 (.call 9 [AV.one (Lf.dat (K.sl K.str) [ByteArray.mk #[], ByteArray.mk #[97]])] [] (f9_m [ByteArray.mk #[], ByteArray.mk #[97]]) (fun z163 => SV.av (AV.one (Lf.v (Value.string z163)))) (fun z163 => []) fun z163 =>
 (.ask (seq z163 (ByteArray.mk #[0, 0, 0, 0, 1, 0, 0, 0, 97]))
 (.sure (true) true
 (.sure (true) true
 (.sure (true) true
 (.sure (seq z163 (ByteArray.mk #[0, 0, 0, 0, 1, 0, 0, 0, 97])) true
 (.pick false (.sure (true) true
 (.sure (seq z163 (ByteArray.mk #[0, 0, 0, 0, 1, 0, 0, 0, 97])) true
 (.sure (true) true
 (.sure (true) true
 (.sure (seq z163 (ByteArray.mk #[0, 0, 0, 0, 1, 0, 0, 0, 97])) true
 (.pick true (.sure (true) true
 (.sure (seq z163 (ByteArray.mk #[0, 0, 0, 0, 1, 0, 0, 0, 97])) true
 (.sure (seq z163 (ByteArray.mk #[0, 0, 0, 0, 1, 0, 0, 0, 97])) true
 (.ask (seq (strOfNums (List.take 16 (List.drop 0 z150))) (strOfNums z158))
 (.sure (seq (strOfNums (List.take 16 (List.drop 0 z150))) (strOfNums z158)) true
 (.call 11 [AV.one (Lf.v (Value.string (ByteArray.mk #[97, 98]))), AV.one (Lf.dat (K.sl K.str) [])] [] (f11_m (ByteArray.mk #[97, 98]) []) (fun z171 => SV.av (AV.one (Lf.dat (K.arr 32 (K.int IntKind.u8)) z171))) (fun z171 => []) fun z171 =>
 (.sure (seq (strOfNums (List.take 16 (List.drop 0 z150))) (strOfNums z158)) true
 (.sure (seq (strOfNums (List.take 16 (List.drop 0 z150))) (strOfNums z158)) true
 (.ask (bno (lieq z150 z171))
 (.call 17 [AV.one (Lf.v (Value.int IntKind.u32 2)), AV.one (Lf.v (Value.int IntKind.u64 1))] [] (f17_m 2 1) (fun z179 => SV.av (AV.one (Lf.dat (K.arr 12 (K.int IntKind.u8)) z179))) (fun z179 => []) fun z179 =>
 (.sure (bno (lieq z150 z171)) true
 (.sure (bno (lieq z150 z171)) true
 (.sure (bno (lieq z150 z171)) true
 (.ask (lieq z179 [2, 0, 0, 0, 1, 0, 0, 0, 0, 0, 0, 0])
 (.call 15 [AV.one (Lf.v (Value.int IntKind.u64 258))] [] (f15_m 258) (fun z184 => SV.av (AV.one (Lf.v (Value.string z184)))) (fun z184 => []) fun z184 =>
 (.sure (lieq z179 [2, 0, 0, 0, 1, 0, 0, 0, 0, 0, 0, 0]) true
 (.sure (lieq z179 [2, 0, 0, 0, 1, 0, 0, 0, 0, 0, 0, 0]) true
 (.leaf (SV.av (AV.one (Lf.v (Value.bool (seq z184 (ByteArray.mk #[2, 1, 0, 0, 0, 0, 0, 0]))))), [(1, Blk.cells 32 [Lf.dat (K.arr 32 (K.int IntKind.u8)) z150]), (2, Blk.cells 36 [Lf.dat (K.arr 16 (K.int IntKind.u8)) z158]), (3, Blk.row 9 K.str [ByteArray.mk #[98]]), (5, Blk.row 9 K.str [ByteArray.mk #[98]]), (7, Blk.row 9 K.str [ByteArray.mk #[], ByteArray.mk #[97]])]) (seq z184 (ByteArray.mk #[2, 1, 0, 0, 0, 0, 0, 0]))))))
 (.sure (lieq z179 [2, 0, 0, 0, 1, 0, 0, 0, 0, 0, 0, 0]) false
 (.sure (lieq z179 [2, 0, 0, 0, 1, 0, 0, 0, 0, 0, 0, 0]) false
 (.leaf (SV.av (AV.one (Lf.v (Value.bool false))), [(1, Blk.cells 32 [Lf.dat (K.arr 32 (K.int IntKind.u8)) z150]), (2, Blk.cells 36 [Lf.dat (K.arr 16 (K.int IntKind.u8)) z158]), (3, Blk.row 9 K.str [ByteArray.mk #[98]]), (5, Blk.row 9 K.str [ByteArray.mk #[98]]), (7, Blk.row 9 K.str [ByteArray.mk #[], ByteArray.mk #[97]])]) (false)))))))))
 (.sure (bno (lieq z150 z171)) false
 (.sure (bno (lieq z150 z171)) false
 (.sure (bno (lieq z150 z171)) false
 (.sure (false) false
 (.sure (false) false
 (.sure (false) false
 (.leaf (SV.av (AV.one (Lf.v (Value.bool false))), [(1, Blk.cells 32 [Lf.dat (K.arr 32 (K.int IntKind.u8)) z150]), (2, Blk.cells 36 [Lf.dat (K.arr 16 (K.int IntKind.u8)) z158]), (3, Blk.row 9 K.str [ByteArray.mk #[98]]), (5, Blk.row 9 K.str [ByteArray.mk #[98]]), (7, Blk.row 9 K.str [ByteArray.mk #[], ByteArray.mk #[97]])]) (false)))))))))))))
 (.sure (seq (strOfNums (List.take 16 (List.drop 0 z150))) (strOfNums z158)) false
 (.sure (seq (strOfNums (List.take 16 (List.drop 0 z150))) (strOfNums z158)) false
 (.sure (seq (strOfNums (List.take 16 (List.drop 0 z150))) (strOfNums z158)) false
 (.sure (false) false
 (.sure (false) false
 (.sure (false) false
 (.sure (false) false
 (.sure (false) false
 (.sure (false) false
 (.sure (false) false
 (.leaf (SV.av (AV.one (Lf.v (Value.bool false))), [(1, Blk.cells 32 [Lf.dat (K.arr 32 (K.int IntKind.u8)) z150]), (2, Blk.cells 36 [Lf.dat (K.arr 16 (K.int IntKind.u8)) z158]), (3, Blk.row 9 K.str [ByteArray.mk #[98]]), (5, Blk.row 9 K.str [ByteArray.mk #[98]]), (7, Blk.row 9 K.str [ByteArray.mk #[], ByteArray.mk #[97]])]) (false)))))))))))))))))))))))))))
 (.sure (seq z163 (ByteArray.mk #[0, 0, 0, 0, 1, 0, 0, 0, 97])) false
 (.sure (seq z163 (ByteArray.mk #[0, 0, 0, 0, 1, 0, 0, 0, 97])) false
 (.sure (seq z163 (ByteArray.mk #[0, 0, 0, 0, 1, 0, 0, 0, 97])) false
 (.sure (seq z163 (ByteArray.mk #[0, 0, 0, 0, 1, 0, 0, 0, 97])) false
 (.sure (seq z163 (ByteArray.mk #[0, 0, 0, 0, 1, 0, 0, 0, 97])) false
 (.sure (false) false
 (.sure (false) false
 (.sure (false) false
 (.sure (false) false
 (.sure (false) false
 (.sure (false) false
 (.sure (false) false
 (.sure (false) false
 (.sure (false) false
 (.sure (false) false
 (.sure (false) false
 (.leaf (SV.av (AV.one (Lf.v (Value.bool false))), [(1, Blk.cells 32 [Lf.dat (K.arr 32 (K.int IntKind.u8)) z150]), (2, Blk.cells 36 [Lf.dat (K.arr 16 (K.int IntKind.u8)) z158]), (3, Blk.row 9 K.str [ByteArray.mk #[98]]), (5, Blk.row 9 K.str [ByteArray.mk #[98]]), (7, Blk.row 9 K.str [ByteArray.mk #[], ByteArray.mk #[97]])]) (false))))))))))))))))))))))))))))
theorem f8_v  : vc (runR P noG Tryd.f8 f8_hn [] []) (f8_t ) = vcT (f8_t ) := by kernel_rfl
theorem f8_o  : obl (Snd P noG) (Lp P noG Tryd.f8.ntmps [] f8_hn 1) (RelF [] (f8_R )) (f8_t ) := by
 unfold f8_t
 exact (oPick (oSure rfl (oCall (fun _ e => f11_s e) fun z150 _ =>
 (oPick (oSure rfl (oCall (fun _ e => f13_s e) fun z158 _ =>
 (oPick (oSure rfl (oCall (fun _ e => f9_s e) fun z163 _ =>
 (oAsk (fun h0 => (oSure rfl (oSure rfl (oSure rfl (oSure h0 (oPick (oSure rfl (oSure h0 (oSure rfl (oSure rfl (oSure h0 (oPick (oSure rfl (oSure h0 (oSure h0 (oAsk (fun h1 => (oSure h1 (oCall (fun _ e => f11_s e) fun z171 _ =>
 (oSure h1 (oSure h1 (oAsk (fun h2 => (oCall (fun _ e => f17_s e) fun z179 _ =>
 (oSure h2 (oSure h2 (oSure h2 (oAsk (fun h3 => (oCall (fun _ e => f15_s e) fun z184 _ =>
 (oSure h3 (oSure h3 (oLeaf (wks_tw [] [] (by kernel_rfl) (by kernel_rfl)))))))
 (fun h3 => (oSure h3 (oSure h3 (oLeaf (wks_tw [] [] (by kernel_rfl) (by kernel_rfl))))))))))))
 (fun h2 => (oSure h2 (oSure h2 (oSure h2 (oSure rfl (oSure rfl (oSure rfl (oLeaf (wks_tw [] [] (by kernel_rfl) (by kernel_rfl))))))))))))))))
 (fun h1 => (oSure h1 (oSure h1 (oSure h1 (oSure rfl (oSure rfl (oSure rfl (oSure rfl (oSure rfl (oSure rfl (oSure rfl (oLeaf (wks_tw [] [] (by kernel_rfl) (by kernel_rfl))))))))))))))))))))))))))))))
 (fun h0 => (oSure h0 (oSure h0 (oSure h0 (oSure h0 (oSure h0 (oSure rfl (oSure rfl (oSure rfl (oSure rfl (oSure rfl (oSure rfl (oSure rfl (oSure rfl (oSure rfl (oSure rfl (oSure rfl (oLeaf (wks_tw [] [] (by kernel_rfl) (by kernel_rfl))))))))))))))))))))))))))))))
noncomputable def f8_m  : Option (Bool) := mod (f8_t )
theorem f8_e  : f8_m  =
 (Option.bind (f11_m (ByteArray.mk #[97]) [ByteArray.mk #[98]]) fun z150 =>
 (Option.bind (f13_m (ByteArray.mk #[97]) [ByteArray.mk #[98]]) fun z158 =>
 (Option.bind (f9_m [ByteArray.mk #[], ByteArray.mk #[97]]) fun z163 =>
 (sel (seq z163 (ByteArray.mk #[0, 0, 0, 0, 1, 0, 0, 0, 97]))
 (sel (seq (strOfNums (List.take 16 (List.drop 0 z150))) (strOfNums z158))
 (Option.bind (f11_m (ByteArray.mk #[97, 98]) []) fun z171 =>
 (sel (bno (lieq z150 z171))
 (Option.bind (f17_m 2 1) fun z179 =>
 (sel (lieq z179 [2, 0, 0, 0, 1, 0, 0, 0, 0, 0, 0, 0])
 (Option.bind (f15_m 258) fun z184 =>
 (some ((seq z184 (ByteArray.mk #[2, 1, 0, 0, 0, 0, 0, 0])))))
 (some ((false)))))
 (some ((false)))))
 (some ((false))))
 (some ((false))))))) := by kernel_rfl
theorem f8_s  {z : Bool} (h : f8_m  = some z) : Snd P noG 8 [] [] (SV.av (AV.one (Lf.v (Value.bool z)))) [] :=
 snd_tree (hn := f8_hn) 1 (f8_R ) mixed (by kernel_rfl) (by kernel_rfl) (by kernel_rfl) (by kernel_rfl) (by kernel_rfl) (f8_v ) (f8_o ) h
def f10_hn : Hn := Hn.mk [] [] [] [] [(4, [0, 3, 4])]
def f10_l3_D (p3_0 : List ByteArray) (x : ByteArray × Int) : St := St.mk [(0, SV.av (AV.one (Lf.dat (K.sl K.str) p3_0))), (3, SV.av (AV.one (Lf.v (Value.string (Prod.fst x))))), (4, SV.av (AV.one (Lf.v (Value.int IntKind.i64 (Prod.snd x)))))] []
def f10_l3_E0 (p3_0 : List ByteArray) (y : ByteArray) : St := St.mk [(3, SV.av (AV.one (Lf.v (Value.string y))))] []
def f10_l3_E (p3_0 : List ByteArray) : ByteArray → Ex × St
  | y => (Ex.exit 0, f10_l3_E0 p3_0 y)
def f10_s0 (p3_0 : List ByteArray) (x : ByteArray × Int) : ByteArray := strOfNums [icv IntKind.u8 (ssz (gd K.str p3_0 (Int.toNat (Prod.snd x)))), icv IntKind.u8 (shr IntKind.i64 (ssz (gd K.str p3_0 (Int.toNat (Prod.snd x)))) 8), icv IntKind.u8 (shr IntKind.i64 (ssz (gd K.str p3_0 (Int.toNat (Prod.snd x)))) 16), icv IntKind.u8 (shr IntKind.i64 (ssz (gd K.str p3_0 (Int.toNat (Prod.snd x)))) 24)]
noncomputable def f10_l3_t (p3_0 : List ByteArray) (x : ByteArray × Int) : DT (Ex × St) ((ByteArray × Int) ⊕ (ByteArray)) :=
 (.ask (ilt (Prod.snd x) (llen p3_0))
 (.need (ile 0 (Prod.snd x)) true
 (.sure (ilt (Prod.snd x) (llen p3_0)) true
 (.sure (true) true
 (.sure (true) true
 (.sure (true) true
 (.pick true (.sure (true) true
 (.sure (ile 0 (Prod.snd x)) true
 (.sure (ilt (Prod.snd x) (llen p3_0)) true
 (.need (nle (ByteArray.size (f10_s0 p3_0 x) + ByteArray.size (gd K.str p3_0 (Int.toNat (Prod.snd x)))) 9223372036854775807) true
 (.need (nle (ByteArray.size (Prod.fst x) + ByteArray.size (sapp (f10_s0 p3_0 x) (gd K.str p3_0 (Int.toNat (Prod.snd x))))) 9223372036854775807) true
 (.leaf (Vam.Ex.normal, St.mk [(0, SV.av (AV.one (Lf.dat (K.sl K.str) p3_0))), (3, SV.av (AV.one (Lf.v (Value.string (sapp (Prod.fst x) (sapp (f10_s0 p3_0 x) (gd K.str p3_0 (Int.toNat (Prod.snd x))))))))), (4, SV.av (AV.one (Lf.v (Value.int IntKind.i64 (iadd IntKind.i64 (Prod.snd x) 1)))))] [(29, Blk.row 5 (K.int IntKind.u8) [icv IntKind.u8 (ssz (gd K.str p3_0 (Int.toNat (Prod.snd x)))), icv IntKind.u8 (shr IntKind.i64 (ssz (gd K.str p3_0 (Int.toNat (Prod.snd x)))) 8), icv IntKind.u8 (shr IntKind.i64 (ssz (gd K.str p3_0 (Int.toNat (Prod.snd x)))) 16), icv IntKind.u8 (shr IntKind.i64 (ssz (gd K.str p3_0 (Int.toNat (Prod.snd x)))) 24)])]) (.inl ((sapp (Prod.fst x) (sapp (f10_s0 p3_0 x) (gd K.str p3_0 (Int.toNat (Prod.snd x)))), iadd IntKind.i64 (Prod.snd x) 1)))))))))))))))
 (.leaf (Ex.exit 0, St.mk [(0, SV.av (AV.one (Lf.dat (K.sl K.str) p3_0))), (3, SV.av (AV.one (Lf.v (Value.string (Prod.fst x))))), (4, SV.av (AV.one (Lf.v (Value.int IntKind.i64 (Prod.snd x)))))] []) (.inr (Prod.fst x))))
theorem f10_l3_v (p3_0 : List ByteArray) (x : ByteArray × Int) : vc (execK P noG Tryd.f10.ntmps f10_hn [0, 3, 4] (loopOf Tryd.f10 3) (f10_l3_D p3_0 x)) (f10_l3_t p3_0 x) = vcT (f10_l3_t p3_0 x) := by kernel_rfl
theorem f10_l3_o (d : Nat) (p3_0 : List ByteArray) (x : ByteArray × Int) : obl (Snd P noG) (Lp P noG Tryd.f10.ntmps [] f10_hn d) (RelL Tryd.f10.ntmps noG [] (f10_l3_D p3_0) (f10_l3_E p3_0)) (f10_l3_t p3_0 x) := by
 unfold f10_l3_t
 exact (oAsk (fun h0 => (oNeed fun h1 => (oSure h0 (oSure rfl (oSure rfl (oSure rfl (oPick (oSure rfl (oSure h1 (oSure h0 (oNeed fun h2 => (oNeed fun h3 => (oLeaf (relN (wk_tw [] [0, 3, 4] [] (by kernel_rfl) (by kernel_rfl))))))))))))))))
 (fun h0 => (oLeaf (relE rfl (wk_tw [] [3] [] (by kernel_rfl) (by kernel_rfl))))))
noncomputable def f10_l3_m (p3_0 : List ByteArray) (x : ByteArray × Int) : Option (ByteArray) := lrun (fun x => mod (f10_l3_t p3_0 x)) x
theorem f10_l3_e (p3_0 : List ByteArray) (x : ByteArray × Int) : mod (f10_l3_t p3_0 x) =
 (sel (ilt (Prod.snd x) (llen p3_0))
 (sel (ile 0 (Prod.snd x))
 (sel (nle (ByteArray.size (f10_s0 p3_0 x) + ByteArray.size (gd K.str p3_0 (Int.toNat (Prod.snd x)))) 9223372036854775807)
 (sel (nle (ByteArray.size (Prod.fst x) + ByteArray.size (sapp (f10_s0 p3_0 x) (gd K.str p3_0 (Int.toNat (Prod.snd x))))) 9223372036854775807)
 (some ((.inl ((sapp (Prod.fst x) (sapp (f10_s0 p3_0 x) (gd K.str p3_0 (Int.toNat (Prod.snd x)))), iadd IntKind.i64 (Prod.snd x) 1))))) none) none) none)
 (some ((.inr (Prod.fst x))))) := by kernel_rfl
theorem f10_l3_s0 (d : Nat) {p3_0 : List ByteArray} {σ : St} {x : ByteArray × Int} {z : ByteArray} (h : f10_l3_m p3_0 x = some z) (hw : Wk Tryd.f10.ntmps noG [] σ (f10_l3_D p3_0 x)) : Lp P noG Tryd.f10.ntmps [] f10_hn (d + 1) (loopOf Tryd.f10 3) σ (Ex.exit 0) (f10_l3_E0 p3_0 z) :=
 lp_tree (D := f10_l3_D p3_0) (E := f10_l3_E p3_0) (f10_l3_v p3_0) (f10_l3_o d p3_0) h hw
def f10_R (a0 : List ByteArray) : ByteArray → SV × Hp
  | z => (SV.av (AV.one (Lf.v (Value.string z))), [])
noncomputable def f10_t (a0 : List ByteArray) : DT (SV × Hp) (ByteArray) :=
 (.loop (loopOf Tryd.f10 3) (St.mk [(0, SV.av (AV.one (Lf.dat (K.sl K.str) a0))), (3, SV.av (AV.one (Lf.v (Value.string (ByteArray.mk #[]))))), (4, SV.av (AV.one (Lf.v (Value.int IntKind.i64 0))))] []) (f10_l3_m a0 (ByteArray.mk #[], 0)) (Ex.exit 0) (f10_l3_E0 a0) fun z8 =>
 (.leaf (SV.av (AV.one (Lf.v (Value.string z8))), []) (z8)))
theorem f10_v (a0 : List ByteArray) : vc (runR P noG Tryd.f10 f10_hn [AV.one (Lf.dat (K.sl K.str) a0)] []) (f10_t a0) = vcT (f10_t a0) := by kernel_rfl
theorem f10_o (a0 : List ByteArray) : obl (Snd P noG) (Lp P noG Tryd.f10.ntmps [] f10_hn 1) (RelF [] (f10_R a0)) (f10_t a0) := by
 unfold f10_t
 exact (oLoop (fun _ e => f10_l3_s0 0 e (wk_tw [] [0, 3, 4] [] (by kernel_rfl) (by kernel_rfl))) fun z8 _ =>
 (oLeaf (wks_tw [] [] (by kernel_rfl) (by kernel_rfl))))
noncomputable def f10_m (a0 : List ByteArray) : Option (ByteArray) := mod (f10_t a0)
theorem f10_e (a0 : List ByteArray) : f10_m a0 =
 (Option.bind (f10_l3_m a0 (ByteArray.mk #[], 0)) fun z8 =>
 (some ((z8)))) := by kernel_rfl
theorem f10_s {a0 : List ByteArray} {z : ByteArray} (h : f10_m a0 = some z) : Snd P noG 10 [AV.one (Lf.dat (K.sl K.str) a0)] [] (SV.av (AV.one (Lf.v (Value.string z)))) [] :=
 snd_tree (hn := f10_hn) 1 (f10_R a0) mixed (by kernel_rfl) (by kernel_rfl) (by kernel_rfl) (by kernel_rfl) (by kernel_rfl) (f10_v a0) (f10_o a0) h
def f25_hn : Hn := Hn.mk [] [] [] [] []
def f25_R (a0 : Int) (a1 : Int) : Int → SV × Hp
  | z => (SV.av (AV.one (Lf.v (Value.int IntKind.u32 z))), [])
noncomputable def f25_t (a0 : Int) (a1 : Int) : DT (SV × Hp) (Int) :=
 (.need (ile 0 a1) true
 (.need (ile 0 (isub IntKind.u32 32 a1)) true
 (.leaf (SV.av (AV.one (Lf.v (Value.int IntKind.u32 (ior IntKind.u32 (shr IntKind.u32 a0 a1) (shl IntKind.u32 a0 (isub IntKind.u32 32 a1)))))), []) (ior IntKind.u32 (shr IntKind.u32 a0 a1) (shl IntKind.u32 a0 (isub IntKind.u32 32 a1))))))
theorem f25_v (a0 : Int) (a1 : Int) : vc (runR P noG Tryd.f25 f25_hn [AV.one (Lf.v (Value.int IntKind.u32 a0)), AV.one (Lf.v (Value.int IntKind.u32 a1))] []) (f25_t a0 a1) = vcT (f25_t a0 a1) := by kernel_rfl
theorem f25_o (a0 : Int) (a1 : Int) : obl (Snd P noG) (Lp P noG Tryd.f25.ntmps [] f25_hn 1) (RelF [] (f25_R a0 a1)) (f25_t a0 a1) := by
 unfold f25_t
 exact (oNeed fun h0 => (oNeed fun h1 => (oLeaf (wks_tw [] [] (by kernel_rfl) (by kernel_rfl)))))
noncomputable def f25_m (a0 : Int) (a1 : Int) : Option (Int) := mod (f25_t a0 a1)
theorem f25_e (a0 : Int) (a1 : Int) : f25_m a0 a1 =
 (sel (ile 0 a1)
 (sel (ile 0 (isub IntKind.u32 32 a1))
 (some ((ior IntKind.u32 (shr IntKind.u32 a0 a1) (shl IntKind.u32 a0 (isub IntKind.u32 32 a1))))) none) none) := by kernel_rfl
theorem f25_s {a0 : Int} {a1 : Int} {z : Int} (h : f25_m a0 a1 = some z) : Snd P noG 25 [AV.one (Lf.v (Value.int IntKind.u32 a0)), AV.one (Lf.v (Value.int IntKind.u32 a1))] [] (SV.av (AV.one (Lf.v (Value.int IntKind.u32 z)))) [] :=
 snd_tree (hn := f25_hn) 1 (f25_R a0 a1) mixed (by kernel_rfl) (by kernel_rfl) (by kernel_rfl) (by kernel_rfl) (by kernel_rfl) (f25_v a0 a1) (f25_o a0 a1) h
def f26_hn : Hn := Hn.mk [] [] [] [] []
def f26_s0  : List Int := List.set (List.set (List.set (List.set (List.set (List.set (List.set (List.set (List.set (List.set (List.set (List.set (List.set (List.replicate 64 (0 : Int)) 0 1116352408) 1 1899447441) 2 3049323471) 3 3921009573) 4 961987163) 5 1508970993) 6 2453635748) 7 2870763221) 8 3624381080) 9 310598401) 10 607225278) 11 1426881987) 12 1925078388
def f26_s1  : List Int := List.set (List.set (List.set (List.set (List.set (List.set (List.set (List.set (List.set (List.set (List.set (List.set (List.set (List.set f26_s0 13 2162078206) 14 2614888103) 15 3248222580) 16 3835390401) 17 4022224774) 18 264347078) 19 604807628) 20 770255983) 21 1249150122) 22 1555081692) 23 1996064986) 24 2554220882) 25 2821834349) 26 2952996808
def f26_s2  : List Int := List.set (List.set (List.set (List.set (List.set (List.set (List.set (List.set (List.set (List.set (List.set (List.set (List.set (List.set f26_s1 27 3210313671) 28 3336571891) 29 3584528711) 30 113926993) 31 338241895) 32 666307205) 33 773529912) 34 1294757372) 35 1396182291) 36 1695183700) 37 1986661051) 38 2177026350) 39 2456956037) 40 2730485921
def f26_s3  : List Int := List.set (List.set (List.set (List.set (List.set (List.set (List.set (List.set (List.set (List.set (List.set (List.set (List.set (List.set f26_s2 41 2820302411) 42 3259730800) 43 3345764771) 44 3516065817) 45 3600352804) 46 4094571909) 47 275423344) 48 430227734) 49 506948616) 50 659060556) 51 883997877) 52 958139571) 53 1322822218) 54 1537002063
def f26_R (a0 : Int) : Int → SV × Hp
  | z => (SV.av (AV.one (Lf.v (Value.int IntKind.u32 z))), [])
noncomputable def f26_t (a0 : Int) : DT (SV × Hp) (Int) :=
 (.need (ile 0 a0) true
 (.need (ilt a0 64) true
 (.need (nlt (Int.toNat a0) 64) true
 (.leaf (SV.av (AV.one (Lf.v (Value.int IntKind.u32 (gd (K.int IntKind.u32) (List.set (List.set (List.set (List.set (List.set (List.set (List.set (List.set (List.set f26_s3 55 1747873779) 56 1955562222) 57 2024104815) 58 2227730452) 59 2361852424) 60 2428436474) 61 2756734187) 62 3204031479) 63 3329325298) (Int.toNat a0))))), [(3, Blk.cells 59 [Lf.dat (K.arr 64 (K.int IntKind.u32)) (List.set (List.set (List.set (List.set (List.set (List.set (List.set (List.set (List.set f26_s3 55 1747873779) 56 1955562222) 57 2024104815) 58 2227730452) 59 2361852424) 60 2428436474) 61 2756734187) 62 3204031479) 63 3329325298)])]) (gd (K.int IntKind.u32) (List.set (List.set (List.set (List.set (List.set (List.set (List.set (List.set (List.set f26_s3 55 1747873779) 56 1955562222) 57 2024104815) 58 2227730452) 59 2361852424) 60 2428436474) 61 2756734187) 62 3204031479) 63 3329325298) (Int.toNat a0))))))
theorem f26_v (a0 : Int) : vc (runR P noG Tryd.f26 f26_hn [AV.one (Lf.v (Value.int IntKind.i64 a0))] []) (f26_t a0) = vcT (f26_t a0) := by kernel_rfl
theorem f26_o (a0 : Int) : obl (Snd P noG) (Lp P noG Tryd.f26.ntmps [] f26_hn 1) (RelF [] (f26_R a0)) (f26_t a0) := by
 unfold f26_t
 exact (oNeed fun h0 => (oNeed fun h1 => (oNeed fun h2 => (oLeaf (wks_tw [] [] (by kernel_rfl) (by kernel_rfl))))))
noncomputable def f26_m (a0 : Int) : Option (Int) := mod (f26_t a0)
theorem f26_e (a0 : Int) : f26_m a0 =
 (sel (ile 0 a0)
 (sel (ilt a0 64)
 (sel (nlt (Int.toNat a0) 64)
 (some ((gd (K.int IntKind.u32) (List.set (List.set (List.set (List.set (List.set (List.set (List.set (List.set (List.set f26_s3 55 1747873779) 56 1955562222) 57 2024104815) 58 2227730452) 59 2361852424) 60 2428436474) 61 2756734187) 62 3204031479) 63 3329325298) (Int.toNat a0)))) none) none) none) := by kernel_rfl
theorem f26_s {a0 : Int} {z : Int} (h : f26_m a0 = some z) : Snd P noG 26 [AV.one (Lf.v (Value.int IntKind.i64 a0))] [] (SV.av (AV.one (Lf.v (Value.int IntKind.u32 z)))) [] :=
 snd_tree (hn := f26_hn) 1 (f26_R a0) mixed (by kernel_rfl) (by kernel_rfl) (by kernel_rfl) (by kernel_rfl) (by kernel_rfl) (f26_v a0) (f26_o a0) h
def f23_hn : Hn := Hn.mk [] [] [] [] [(4, [1, 2, 4, 5, 6]), (8, [2, 4, 5, 7]), (15, [2, 4, 5, 10, 11]), (23, [2, 4, 10, 16])]
def f23_l3_D (p3_0 : ByteArray) (p3_1 : List Int) (x : List Int × Int) : St := St.mk [(1, SV.av (AV.one (Lf.v (Value.string p3_0)))), (2, SV.av (AV.one (Lf.ptr 30300 0 0 0 0))), (4, SV.av (AV.one (Lf.ptr 30301 0 0 0 0))), (5, SV.av (AV.one (Lf.ptr 30302 0 0 0 0))), (6, SV.av (AV.one (Lf.v (Value.int IntKind.i64 (Prod.snd x)))))] [(30300, Blk.cells 56 [Lf.dat (K.arr 8 (K.int IntKind.u32)) p3_1]), (30301, Blk.cells 56 [Lf.dat (K.arr 8 (K.int IntKind.u32)) [0, 0, 0, 0, 0, 0, 0, 0]]), (30302, Blk.cells 59 [Lf.dat (K.arr 64 (K.int IntKind.u32)) (Prod.fst x)])]
def f23_l3_E0 (p3_0 : ByteArray) (p3_1 : List Int) (y : List Int) : St := St.mk [(2, SV.av (AV.one (Lf.ptr 60300 0 0 0 0))), (4, SV.av (AV.one (Lf.ptr 60301 0 0 0 0))), (5, SV.av (AV.one (Lf.ptr 60302 0 0 0 0)))] [(60300, Blk.cells 56 [Lf.dat (K.arr 8 (K.int IntKind.u32)) p3_1]), (60301, Blk.cells 56 [Lf.dat (K.arr 8 (K.int IntKind.u32)) [0, 0, 0, 0, 0, 0, 0, 0]]), (60302, Blk.cells 59 [Lf.dat (K.arr 64 (K.int IntKind.u32)) y])]
def f23_l3_E (p3_0 : ByteArray) (p3_1 : List Int) : List Int → Ex × St
  | y => (Ex.exit 0, f23_l3_E0 p3_0 p3_1 y)
def f23_s0 (p3_0 : ByteArray) (x : List Int × Int) : Int := ior IntKind.u32 (ior IntKind.u32 (shl IntKind.u32 (icv IntKind.u32 (bt p3_0 (imul IntKind.i64 4 (Prod.snd x)))) 24) (shl IntKind.u32 (icv IntKind.u32 (bt p3_0 (iadd IntKind.i64 (imul IntKind.i64 4 (Prod.snd x)) 1))) 16)) (shl IntKind.u32 (icv IntKind.u32 (bt p3_0 (iadd IntKind.i64 (imul IntKind.i64 4 (Prod.snd x)) 2))) 8)
noncomputable def f23_l3_t (p3_0 : ByteArray) (p3_1 : List Int) (x : List Int × Int) : DT (Ex × St) ((List Int × Int) ⊕ (List Int)) :=
 (.ask (ilt (Prod.snd x) 16)
 (.need (ile 0 (imul IntKind.i64 4 (Prod.snd x))) true
 (.need (ilt (imul IntKind.i64 4 (Prod.snd x)) (ssz p3_0)) true
 (.sure (true) true
 (.need (ile 0 (iadd IntKind.i64 (imul IntKind.i64 4 (Prod.snd x)) 1)) true
 (.need (ilt (iadd IntKind.i64 (imul IntKind.i64 4 (Prod.snd x)) 1) (ssz p3_0)) true
 (.sure (true) true
 (.need (ile 0 (iadd IntKind.i64 (imul IntKind.i64 4 (Prod.snd x)) 2)) true
 (.need (ilt (iadd IntKind.i64 (imul IntKind.i64 4 (Prod.snd x)) 2) (ssz p3_0)) true
 (.sure (true) true
 (.need (ile 0 (iadd IntKind.i64 (imul IntKind.i64 4 (Prod.snd x)) 3)) true
 (.need (ilt (iadd IntKind.i64 (imul IntKind.i64 4 (Prod.snd x)) 3) (ssz p3_0)) true
 (.need (ile 0 (Prod.snd x)) true
 (.need (ilt (Prod.snd x) 64) true
 (.need (nlt (Int.toNat (Prod.snd x)) 64) true
 (.leaf (Vam.Ex.normal, St.mk [(1, SV.av (AV.one (Lf.v (Value.string p3_0)))), (2, SV.av (AV.one (Lf.ptr 30300 0 0 0 0))), (4, SV.av (AV.one (Lf.ptr 30301 0 0 0 0))), (5, SV.av (AV.one (Lf.ptr 30302 0 0 0 0))), (6, SV.av (AV.one (Lf.v (Value.int IntKind.i64 (iadd IntKind.i64 (Prod.snd x) 1)))))] [(30300, Blk.cells 56 [Lf.dat (K.arr 8 (K.int IntKind.u32)) p3_1]), (30301, Blk.cells 56 [Lf.dat (K.arr 8 (K.int IntKind.u32)) [0, 0, 0, 0, 0, 0, 0, 0]]), (30302, Blk.cells 59 [Lf.dat (K.arr 64 (K.int IntKind.u32)) (List.set (Prod.fst x) (Int.toNat (Prod.snd x)) (ior IntKind.u32 (f23_s0 p3_0 x) (icv IntKind.u32 (bt p3_0 (iadd IntKind.i64 (imul IntKind.i64 4 (Prod.snd x)) 3)))))])]) (.inl ((List.set (Prod.fst x) (Int.toNat (Prod.snd x)) (ior IntKind.u32 (f23_s0 p3_0 x) (icv IntKind.u32 (bt p3_0 (iadd IntKind.i64 (imul IntKind.i64 4 (Prod.snd x)) 3)))), iadd IntKind.i64 (Prod.snd x) 1))))))))))))))))))
 (.leaf (Ex.exit 0, St.mk [(1, SV.av (AV.one (Lf.v (Value.string p3_0)))), (2, SV.av (AV.one (Lf.ptr 30300 0 0 0 0))), (4, SV.av (AV.one (Lf.ptr 30301 0 0 0 0))), (5, SV.av (AV.one (Lf.ptr 30302 0 0 0 0))), (6, SV.av (AV.one (Lf.v (Value.int IntKind.i64 (Prod.snd x)))))] [(30300, Blk.cells 56 [Lf.dat (K.arr 8 (K.int IntKind.u32)) p3_1]), (30301, Blk.cells 56 [Lf.dat (K.arr 8 (K.int IntKind.u32)) [0, 0, 0, 0, 0, 0, 0, 0]]), (30302, Blk.cells 59 [Lf.dat (K.arr 64 (K.int IntKind.u32)) (Prod.fst x)])]) (.inr (Prod.fst x))))
theorem f23_l3_v (p3_0 : ByteArray) (p3_1 : List Int) (x : List Int × Int) : vc (execK P noG Tryd.f23.ntmps f23_hn [1, 2, 4, 5, 6] (loopOf Tryd.f23 3) (f23_l3_D p3_0 p3_1 x)) (f23_l3_t p3_0 p3_1 x) = vcT (f23_l3_t p3_0 p3_1 x) := by kernel_rfl
theorem f23_l3_o (d : Nat) (p3_0 : ByteArray) (p3_1 : List Int) (x : List Int × Int) : obl (Snd P noG) (Lp P noG Tryd.f23.ntmps [] f23_hn d) (RelL Tryd.f23.ntmps noG [] (f23_l3_D p3_0 p3_1) (f23_l3_E p3_0 p3_1)) (f23_l3_t p3_0 p3_1 x) := by
 unfold f23_l3_t
 exact (oAsk (fun h0 => (oNeed fun h1 => (oNeed fun h2 => (oSure rfl (oNeed fun h3 => (oNeed fun h4 => (oSure rfl (oNeed fun h5 => (oNeed fun h6 => (oSure rfl (oNeed fun h7 => (oNeed fun h8 => (oNeed fun h9 => (oNeed fun h10 => (oNeed fun h11 => (oLeaf (relN (wk_tw [(30302, 30302), (30301, 30301), (30300, 30300)] [1, 2, 4, 5, 6] [] (by kernel_rfl) (by kernel_rfl)))))))))))))))))))
 (fun h0 => (oLeaf (relE rfl (wk_tw [(30302, 60302), (30301, 60301), (30300, 60300)] [2, 4, 5] [] (by kernel_rfl) (by kernel_rfl))))))
noncomputable def f23_l3_m (p3_0 : ByteArray) (p3_1 : List Int) (x : List Int × Int) : Option (List Int) := lrun (fun x => mod (f23_l3_t p3_0 p3_1 x)) x
theorem f23_l3_e (p3_0 : ByteArray) (p3_1 : List Int) (x : List Int × Int) : mod (f23_l3_t p3_0 p3_1 x) =
 (sel (ilt (Prod.snd x) 16)
 (sel (ile 0 (imul IntKind.i64 4 (Prod.snd x)))
 (sel (ilt (imul IntKind.i64 4 (Prod.snd x)) (ssz p3_0))
 (sel (ile 0 (iadd IntKind.i64 (imul IntKind.i64 4 (Prod.snd x)) 1))
 (sel (ilt (iadd IntKind.i64 (imul IntKind.i64 4 (Prod.snd x)) 1) (ssz p3_0))
 (sel (ile 0 (iadd IntKind.i64 (imul IntKind.i64 4 (Prod.snd x)) 2))
 (sel (ilt (iadd IntKind.i64 (imul IntKind.i64 4 (Prod.snd x)) 2) (ssz p3_0))
 (sel (ile 0 (iadd IntKind.i64 (imul IntKind.i64 4 (Prod.snd x)) 3))
 (sel (ilt (iadd IntKind.i64 (imul IntKind.i64 4 (Prod.snd x)) 3) (ssz p3_0))
 (sel (ile 0 (Prod.snd x))
 (sel (ilt (Prod.snd x) 64)
 (sel (nlt (Int.toNat (Prod.snd x)) 64)
 (some ((.inl ((List.set (Prod.fst x) (Int.toNat (Prod.snd x)) (ior IntKind.u32 (f23_s0 p3_0 x) (icv IntKind.u32 (bt p3_0 (iadd IntKind.i64 (imul IntKind.i64 4 (Prod.snd x)) 3)))), iadd IntKind.i64 (Prod.snd x) 1))))) none) none) none) none) none) none) none) none) none) none) none)
 (some ((.inr (Prod.fst x))))) := by kernel_rfl
theorem f23_l3_s0 (d : Nat) {p3_0 : ByteArray} {p3_1 : List Int} {σ : St} {x : List Int × Int} {z : List Int} (h : f23_l3_m p3_0 p3_1 x = some z) (hw : Wk Tryd.f23.ntmps noG [] σ (f23_l3_D p3_0 p3_1 x)) : Lp P noG Tryd.f23.ntmps [] f23_hn (d + 1) (loopOf Tryd.f23 3) σ (Ex.exit 0) (f23_l3_E0 p3_0 p3_1 z) :=
 lp_tree (D := f23_l3_D p3_0 p3_1) (E := f23_l3_E p3_0 p3_1) (f23_l3_v p3_0 p3_1) (f23_l3_o d p3_0 p3_1) h hw
def f23_l7_D (p7_6 : List Int) (x : List Int × Int) : St := St.mk [(2, SV.av (AV.one (Lf.ptr 30700 0 0 0 0))), (4, SV.av (AV.one (Lf.ptr 30701 0 0 0 0))), (5, SV.av (AV.one (Lf.ptr 30702 0 0 0 0))), (7, SV.av (AV.one (Lf.v (Value.int IntKind.i64 (Prod.snd x)))))] [(30700, Blk.cells 56 [Lf.dat (K.arr 8 (K.int IntKind.u32)) p7_6]), (30701, Blk.cells 56 [Lf.dat (K.arr 8 (K.int IntKind.u32)) [0, 0, 0, 0, 0, 0, 0, 0]]), (30702, Blk.cells 59 [Lf.dat (K.arr 64 (K.int IntKind.u32)) (Prod.fst x)])]
def f23_l7_E0 (p7_6 : List Int) (y : List Int) : St := St.mk [(2, SV.av (AV.one (Lf.ptr 60700 0 0 0 0))), (4, SV.av (AV.one (Lf.ptr 60701 0 0 0 0))), (5, SV.av (AV.one (Lf.ptr 60702 0 0 0 0)))] [(60700, Blk.cells 56 [Lf.dat (K.arr 8 (K.int IntKind.u32)) p7_6]), (60701, Blk.cells 56 [Lf.dat (K.arr 8 (K.int IntKind.u32)) [0, 0, 0, 0, 0, 0, 0, 0]]), (60702, Blk.cells 59 [Lf.dat (K.arr 64 (K.int IntKind.u32)) y])]
def f23_l7_E (p7_6 : List Int) : List Int → Ex × St
  | y => (Ex.exit 2, f23_l7_E0 p7_6 y)
def f23_s1 (x : List Int × Int) (z622 : Int) (z630 : Int) : Int := iadd IntKind.u32 (iadd IntKind.u32 (gd (K.int IntKind.u32) (Prod.fst x) (Int.toNat (isub IntKind.i64 (Prod.snd x) 16))) (ixor IntKind.u32 (ixor IntKind.u32 z622 z630) (shr IntKind.u32 (gd (K.int IntKind.u32) (Prod.fst x) (Int.toNat (isub IntKind.i64 (Prod.snd x) 15))) 3))) (gd (K.int IntKind.u32) (Prod.fst x) (Int.toNat (isub IntKind.i64 (Prod.snd x) 7)))
noncomputable def f23_l7_t (p7_6 : List Int) (x : List Int × Int) : DT (Ex × St) ((List Int × Int) ⊕ (List Int)) :=
 (.ask (ilt (Prod.snd x) 64)
 (.need (ile 0 (isub IntKind.i64 (Prod.snd x) 15)) true
 (.need (ilt (isub IntKind.i64 (Prod.snd x) 15) 64) true
 (.need (nlt (Int.toNat (isub IntKind.i64 (Prod.snd x) 15)) 64) true
 (.need (ile 0 (isub IntKind.i64 (Prod.snd x) 2)) true
 (.need (ilt (isub IntKind.i64 (Prod.snd x) 2) 64) true
 (.need (nlt (Int.toNat (isub IntKind.i64 (Prod.snd x) 2)) 64) true
 (.need (ile 0 (isub IntKind.i64 (Prod.snd x) 16)) true
 (.need (ilt (isub IntKind.i64 (Prod.snd x) 16) 64) true
 (.need (nlt (Int.toNat (isub IntKind.i64 (Prod.snd x) 16)) 64) true
 (.call 25 [AV.one (Lf.v (Value.int IntKind.u32 (gd (K.int IntKind.u32) (Prod.fst x) (Int.toNat (isub IntKind.i64 (Prod.snd x) 15))))), AV.one (Lf.v (Value.int IntKind.u32 7))] [] (f25_m (gd (K.int IntKind.u32) (Prod.fst x) (Int.toNat (isub IntKind.i64 (Prod.snd x) 15))) 7) (fun z622 => SV.av (AV.one (Lf.v (Value.int IntKind.u32 z622)))) (fun z622 => []) fun z622 =>
 (.call 25 [AV.one (Lf.v (Value.int IntKind.u32 (gd (K.int IntKind.u32) (Prod.fst x) (Int.toNat (isub IntKind.i64 (Prod.snd x) 15))))), AV.one (Lf.v (Value.int IntKind.u32 18))] [] (f25_m (gd (K.int IntKind.u32) (Prod.fst x) (Int.toNat (isub IntKind.i64 (Prod.snd x) 15))) 18) (fun z630 => SV.av (AV.one (Lf.v (Value.int IntKind.u32 z630)))) (fun z630 => []) fun z630 =>
 (.sure (true) true
 (.need (ile 0 (isub IntKind.i64 (Prod.snd x) 7)) true
 (.need (ilt (isub IntKind.i64 (Prod.snd x) 7) 64) true
 (.need (nlt (Int.toNat (isub IntKind.i64 (Prod.snd x) 7)) 64) true
 (.call 25 [AV.one (Lf.v (Value.int IntKind.u32 (gd (K.int IntKind.u32) (Prod.fst x) (Int.toNat (isub IntKind.i64 (Prod.snd x) 2))))), AV.one (Lf.v (Value.int IntKind.u32 17))] [] (f25_m (gd (K.int IntKind.u32) (Prod.fst x) (Int.toNat (isub IntKind.i64 (Prod.snd x) 2))) 17) (fun z638 => SV.av (AV.one (Lf.v (Value.int IntKind.u32 z638)))) (fun z638 => []) fun z638 =>
 (.call 25 [AV.one (Lf.v (Value.int IntKind.u32 (gd (K.int IntKind.u32) (Prod.fst x) (Int.toNat (isub IntKind.i64 (Prod.snd x) 2))))), AV.one (Lf.v (Value.int IntKind.u32 19))] [] (f25_m (gd (K.int IntKind.u32) (Prod.fst x) (Int.toNat (isub IntKind.i64 (Prod.snd x) 2))) 19) (fun z646 => SV.av (AV.one (Lf.v (Value.int IntKind.u32 z646)))) (fun z646 => []) fun z646 =>
 (.sure (true) true
 (.need (ile 0 (Prod.snd x)) true
 (.sure (ilt (Prod.snd x) 64) true
 (.need (nlt (Int.toNat (Prod.snd x)) 64) true
 (.leaf (Vam.Ex.normal, St.mk [(2, SV.av (AV.one (Lf.ptr 30700 0 0 0 0))), (4, SV.av (AV.one (Lf.ptr 30701 0 0 0 0))), (5, SV.av (AV.one (Lf.ptr 30702 0 0 0 0))), (7, SV.av (AV.one (Lf.v (Value.int IntKind.i64 (iadd IntKind.i64 (Prod.snd x) 1)))))] [(30700, Blk.cells 56 [Lf.dat (K.arr 8 (K.int IntKind.u32)) p7_6]), (30701, Blk.cells 56 [Lf.dat (K.arr 8 (K.int IntKind.u32)) [0, 0, 0, 0, 0, 0, 0, 0]]), (30702, Blk.cells 59 [Lf.dat (K.arr 64 (K.int IntKind.u32)) (List.set (Prod.fst x) (Int.toNat (Prod.snd x)) (iadd IntKind.u32 (f23_s1 x z622 z630) (ixor IntKind.u32 (ixor IntKind.u32 z638 z646) (shr IntKind.u32 (gd (K.int IntKind.u32) (Prod.fst x) (Int.toNat (isub IntKind.i64 (Prod.snd x) 2))) 10))))])]) (.inl ((List.set (Prod.fst x) (Int.toNat (Prod.snd x)) (iadd IntKind.u32 (f23_s1 x z622 z630) (ixor IntKind.u32 (ixor IntKind.u32 z638 z646) (shr IntKind.u32 (gd (K.int IntKind.u32) (Prod.fst x) (Int.toNat (isub IntKind.i64 (Prod.snd x) 2))) 10))), iadd IntKind.i64 (Prod.snd x) 1)))))))))))))))))))))))))
 (.leaf (Ex.exit 2, St.mk [(2, SV.av (AV.one (Lf.ptr 30700 0 0 0 0))), (4, SV.av (AV.one (Lf.ptr 30701 0 0 0 0))), (5, SV.av (AV.one (Lf.ptr 30702 0 0 0 0))), (7, SV.av (AV.one (Lf.v (Value.int IntKind.i64 (Prod.snd x)))))] [(30700, Blk.cells 56 [Lf.dat (K.arr 8 (K.int IntKind.u32)) p7_6]), (30701, Blk.cells 56 [Lf.dat (K.arr 8 (K.int IntKind.u32)) [0, 0, 0, 0, 0, 0, 0, 0]]), (30702, Blk.cells 59 [Lf.dat (K.arr 64 (K.int IntKind.u32)) (Prod.fst x)])]) (.inr (Prod.fst x))))
theorem f23_l7_v (p7_6 : List Int) (x : List Int × Int) : vc (execK P noG Tryd.f23.ntmps f23_hn [2, 4, 5, 7] (loopOf Tryd.f23 7) (f23_l7_D p7_6 x)) (f23_l7_t p7_6 x) = vcT (f23_l7_t p7_6 x) := by kernel_rfl
theorem f23_l7_o (d : Nat) (p7_6 : List Int) (x : List Int × Int) : obl (Snd P noG) (Lp P noG Tryd.f23.ntmps [] f23_hn d) (RelL Tryd.f23.ntmps noG [] (f23_l7_D p7_6) (f23_l7_E p7_6)) (f23_l7_t p7_6 x) := by
 unfold f23_l7_t
 exact (oAsk (fun h0 => (oNeed fun h1 => (oNeed fun h2 => (oNeed fun h3 => (oNeed fun h4 => (oNeed fun h5 => (oNeed fun h6 => (oNeed fun h7 => (oNeed fun h8 => (oNeed fun h9 => (oCall (fun _ e => f25_s e) fun z622 _ =>
 (oCall (fun _ e => f25_s e) fun z630 _ =>
 (oSure rfl (oNeed fun h10 => (oNeed fun h11 => (oNeed fun h12 => (oCall (fun _ e => f25_s e) fun z638 _ =>
 (oCall (fun _ e => f25_s e) fun z646 _ =>
 (oSure rfl (oNeed fun h13 => (oSure h0 (oNeed fun h14 => (oLeaf (relN (wk_tw [(30702, 30702), (30701, 30701), (30700, 30700)] [2, 4, 5, 7] [] (by kernel_rfl) (by kernel_rfl))))))))))))))))))))))))))
 (fun h0 => (oLeaf (relE rfl (wk_tw [(30702, 60702), (30701, 60701), (30700, 60700)] [2, 4, 5] [] (by kernel_rfl) (by kernel_rfl))))))
noncomputable def f23_l7_m (p7_6 : List Int) (x : List Int × Int) : Option (List Int) := lrun (fun x => mod (f23_l7_t p7_6 x)) x
theorem f23_l7_e (p7_6 : List Int) (x : List Int × Int) : mod (f23_l7_t p7_6 x) =
 (sel (ilt (Prod.snd x) 64)
 (sel (ile 0 (isub IntKind.i64 (Prod.snd x) 15))
 (sel (ilt (isub IntKind.i64 (Prod.snd x) 15) 64)
 (sel (nlt (Int.toNat (isub IntKind.i64 (Prod.snd x) 15)) 64)
 (sel (ile 0 (isub IntKind.i64 (Prod.snd x) 2))
 (sel (ilt (isub IntKind.i64 (Prod.snd x) 2) 64)
 (sel (nlt (Int.toNat (isub IntKind.i64 (Prod.snd x) 2)) 64)
 (sel (ile 0 (isub IntKind.i64 (Prod.snd x) 16))
 (sel (ilt (isub IntKind.i64 (Prod.snd x) 16) 64)
 (sel (nlt (Int.toNat (isub IntKind.i64 (Prod.snd x) 16)) 64)
 (Option.bind (f25_m (gd (K.int IntKind.u32) (Prod.fst x) (Int.toNat (isub IntKind.i64 (Prod.snd x) 15))) 7) fun z622 =>
 (Option.bind (f25_m (gd (K.int IntKind.u32) (Prod.fst x) (Int.toNat (isub IntKind.i64 (Prod.snd x) 15))) 18) fun z630 =>
 (sel (ile 0 (isub IntKind.i64 (Prod.snd x) 7))
 (sel (ilt (isub IntKind.i64 (Prod.snd x) 7) 64)
 (sel (nlt (Int.toNat (isub IntKind.i64 (Prod.snd x) 7)) 64)
 (Option.bind (f25_m (gd (K.int IntKind.u32) (Prod.fst x) (Int.toNat (isub IntKind.i64 (Prod.snd x) 2))) 17) fun z638 =>
 (Option.bind (f25_m (gd (K.int IntKind.u32) (Prod.fst x) (Int.toNat (isub IntKind.i64 (Prod.snd x) 2))) 19) fun z646 =>
 (sel (ile 0 (Prod.snd x))
 (sel (nlt (Int.toNat (Prod.snd x)) 64)
 (some ((.inl ((List.set (Prod.fst x) (Int.toNat (Prod.snd x)) (iadd IntKind.u32 (f23_s1 x z622 z630) (ixor IntKind.u32 (ixor IntKind.u32 z638 z646) (shr IntKind.u32 (gd (K.int IntKind.u32) (Prod.fst x) (Int.toNat (isub IntKind.i64 (Prod.snd x) 2))) 10))), iadd IntKind.i64 (Prod.snd x) 1))))) none) none))) none) none) none))) none) none) none) none) none) none) none) none) none)
 (some ((.inr (Prod.fst x))))) := by kernel_rfl
theorem f23_l7_s0 (d : Nat) {p7_6 : List Int} {σ : St} {x : List Int × Int} {z : List Int} (h : f23_l7_m p7_6 x = some z) (hw : Wk Tryd.f23.ntmps noG [] σ (f23_l7_D p7_6 x)) : Lp P noG Tryd.f23.ntmps [] f23_hn (d + 1) (loopOf Tryd.f23 7) σ (Ex.exit 2) (f23_l7_E0 p7_6 z) :=
 lp_tree (D := f23_l7_D p7_6) (E := f23_l7_E p7_6) (f23_l7_v p7_6) (f23_l7_o d p7_6) h hw
def f23_l14_D (p14_78 : List Int) (p14_79 : List Int) (x : List Int × Int) : St := St.mk [(2, SV.av (AV.one (Lf.ptr 31400 0 0 0 0))), (4, SV.av (AV.one (Lf.ptr 31401 0 0 0 0))), (5, SV.av (AV.one (Lf.ptr 31402 0 0 0 0))), (10, SV.av (AV.one (Lf.ptr 31403 0 0 0 0))), (11, SV.av (AV.one (Lf.v (Value.int IntKind.i64 (Prod.snd x)))))] [(31400, Blk.cells 56 [Lf.dat (K.arr 8 (K.int IntKind.u32)) p14_78]), (31401, Blk.cells 56 [Lf.dat (K.arr 8 (K.int IntKind.u32)) [0, 0, 0, 0, 0, 0, 0, 0]]), (31402, Blk.cells 59 [Lf.dat (K.arr 64 (K.int IntKind.u32)) p14_79]), (31403, Blk.cells 56 [Lf.dat (K.arr 8 (K.int IntKind.u32)) (Prod.fst x)])]
def f23_l14_E0 (p14_78 : List Int) (p14_79 : List Int) (y : List Int) : St := St.mk [(2, SV.av (AV.one (Lf.ptr 61400 0 0 0 0))), (4, SV.av (AV.one (Lf.ptr 61401 0 0 0 0))), (10, SV.av (AV.one (Lf.ptr 61402 0 0 0 0)))] [(61400, Blk.cells 56 [Lf.dat (K.arr 8 (K.int IntKind.u32)) p14_78]), (61401, Blk.cells 56 [Lf.dat (K.arr 8 (K.int IntKind.u32)) [0, 0, 0, 0, 0, 0, 0, 0]]), (61402, Blk.cells 56 [Lf.dat (K.arr 8 (K.int IntKind.u32)) y])]
def f23_l14_E (p14_78 : List Int) (p14_79 : List Int) : List Int → Ex × St
  | y => (Ex.exit 4, f23_l14_E0 p14_78 p14_79 y)
def f23_s2 (x : List Int × Int) (z654 : Int) (z662 : Int) (z670 : Int) : Int := iadd IntKind.u32 (iadd IntKind.u32 (gd (K.int IntKind.u32) (Prod.fst x) 7) (ixor IntKind.u32 (ixor IntKind.u32 z654 z662) z670)) (ixor IntKind.u32 (iand IntKind.u32 (gd (K.int IntKind.u32) (Prod.fst x) 4) (gd (K.int IntKind.u32) (Prod.fst x) 5)) (iand IntKind.u32 (ixor IntKind.u32 (gd (K.int IntKind.u32) (Prod.fst x) 4) 4294967295) (gd (K.int IntKind.u32) (Prod.fst x) 6)))
def f23_s3 (x : List Int × Int) : Int := ixor IntKind.u32 (ixor IntKind.u32 (iand IntKind.u32 (gd (K.int IntKind.u32) (Prod.fst x) 0) (gd (K.int IntKind.u32) (Prod.fst x) 1)) (iand IntKind.u32 (gd (K.int IntKind.u32) (Prod.fst x) 0) (gd (K.int IntKind.u32) (Prod.fst x) 2))) (iand IntKind.u32 (gd (K.int IntKind.u32) (Prod.fst x) 1) (gd (K.int IntKind.u32) (Prod.fst x) 2))
noncomputable def f23_l14_t (p14_78 : List Int) (p14_79 : List Int) (x : List Int × Int) : DT (Ex × St) ((List Int × Int) ⊕ (List Int)) :=
 (.ask (ilt (Prod.snd x) 64)
 (.sure (true) true
 (.sure (true) true
 (.sure (true) true
 (.sure (true) true
 (.sure (true) true
 (.sure (true) true
 (.sure (true) true
 (.sure (true) true
 (.sure (true) true
 (.call 25 [AV.one (Lf.v (Value.int IntKind.u32 (gd (K.int IntKind.u32) (Prod.fst x) 4))), AV.one (Lf.v (Value.int IntKind.u32 6))] [] (f25_m (gd (K.int IntKind.u32) (Prod.fst x) 4) 6) (fun z654 => SV.av (AV.one (Lf.v (Value.int IntKind.u32 z654)))) (fun z654 => []) fun z654 =>
 (.call 25 [AV.one (Lf.v (Value.int IntKind.u32 (gd (K.int IntKind.u32) (Prod.fst x) 4))), AV.one (Lf.v (Value.int IntKind.u32 11))] [] (f25_m (gd (K.int IntKind.u32) (Prod.fst x) 4) 11) (fun z662 => SV.av (AV.one (Lf.v (Value.int IntKind.u32 z662)))) (fun z662 => []) fun z662 =>
 (.call 25 [AV.one (Lf.v (Value.int IntKind.u32 (gd (K.int IntKind.u32) (Prod.fst x) 4))), AV.one (Lf.v (Value.int IntKind.u32 25))] [] (f25_m (gd (K.int IntKind.u32) (Prod.fst x) 4) 25) (fun z670 => SV.av (AV.one (Lf.v (Value.int IntKind.u32 z670)))) (fun z670 => []) fun z670 =>
 (.sure (true) true
 (.sure (true) true
 (.sure (true) true
 (.sure (true) true
 (.sure (true) true
 (.sure (true) true
 (.call 26 [AV.one (Lf.v (Value.int IntKind.i64 (Prod.snd x)))] [] (f26_m (Prod.snd x)) (fun z675 => SV.av (AV.one (Lf.v (Value.int IntKind.u32 z675)))) (fun z675 => []) fun z675 =>
 (.need (ile 0 (Prod.snd x)) true
 (.sure (ilt (Prod.snd x) 64) true
 (.need (nlt (Int.toNat (Prod.snd x)) 64) true
 (.call 25 [AV.one (Lf.v (Value.int IntKind.u32 (gd (K.int IntKind.u32) (Prod.fst x) 0))), AV.one (Lf.v (Value.int IntKind.u32 2))] [] (f25_m (gd (K.int IntKind.u32) (Prod.fst x) 0) 2) (fun z683 => SV.av (AV.one (Lf.v (Value.int IntKind.u32 z683)))) (fun z683 => []) fun z683 =>
 (.call 25 [AV.one (Lf.v (Value.int IntKind.u32 (gd (K.int IntKind.u32) (Prod.fst x) 0))), AV.one (Lf.v (Value.int IntKind.u32 13))] [] (f25_m (gd (K.int IntKind.u32) (Prod.fst x) 0) 13) (fun z691 => SV.av (AV.one (Lf.v (Value.int IntKind.u32 z691)))) (fun z691 => []) fun z691 =>
 (.call 25 [AV.one (Lf.v (Value.int IntKind.u32 (gd (K.int IntKind.u32) (Prod.fst x) 0))), AV.one (Lf.v (Value.int IntKind.u32 22))] [] (f25_m (gd (K.int IntKind.u32) (Prod.fst x) 0) 22) (fun z699 => SV.av (AV.one (Lf.v (Value.int IntKind.u32 z699)))) (fun z699 => []) fun z699 =>
 (.sure (true) true
 (.sure (true) true
 (.sure (true) true
 (.sure (true) true
 (.sure (true) true
 (.sure (true) true
 (.sure (true) true
 (.sure (true) true
 (.sure (true) true
 (.sure (true) true
 (.sure (true) true
 (.sure (true) true
 (.sure (true) true
 (.sure (true) true
 (.sure (true) true
 (.sure (true) true
 (.sure (true) true
 (.sure (true) true
 (.sure (true) true
 (.sure (true) true
 (.sure (true) true
 (.sure (true) true
 (.sure (true) true
 (.sure (true) true
 (.sure (true) true
 (.sure (true) true
 (.sure (true) true
 (.sure (true) true
 (.sure (true) true
 (.sure (true) true
 (.sure (true) true
 (.sure (true) true
 (.sure (true) true
 (.leaf (Vam.Ex.normal, St.mk [(2, SV.av (AV.one (Lf.ptr 31400 0 0 0 0))), (4, SV.av (AV.one (Lf.ptr 31401 0 0 0 0))), (5, SV.av (AV.one (Lf.ptr 31402 0 0 0 0))), (10, SV.av (AV.one (Lf.ptr 31403 0 0 0 0))), (11, SV.av (AV.one (Lf.v (Value.int IntKind.i64 (iadd IntKind.i64 (Prod.snd x) 1)))))] [(31400, Blk.cells 56 [Lf.dat (K.arr 8 (K.int IntKind.u32)) p14_78]), (31401, Blk.cells 56 [Lf.dat (K.arr 8 (K.int IntKind.u32)) [0, 0, 0, 0, 0, 0, 0, 0]]), (31402, Blk.cells 59 [Lf.dat (K.arr 64 (K.int IntKind.u32)) p14_79]), (31403, Blk.cells 56 [Lf.dat (K.arr 8 (K.int IntKind.u32)) [iadd IntKind.u32 (iadd IntKind.u32 (iadd IntKind.u32 (f23_s2 x z654 z662 z670) z675) (gd (K.int IntKind.u32) p14_79 (Int.toNat (Prod.snd x)))) (iadd IntKind.u32 (ixor IntKind.u32 (ixor IntKind.u32 z683 z691) z699) (f23_s3 x)), gd (K.int IntKind.u32) (Prod.fst x) 0, gd (K.int IntKind.u32) (Prod.fst x) 1, gd (K.int IntKind.u32) (Prod.fst x) 2, iadd IntKind.u32 (gd (K.int IntKind.u32) (Prod.fst x) 3) (iadd IntKind.u32 (iadd IntKind.u32 (f23_s2 x z654 z662 z670) z675) (gd (K.int IntKind.u32) p14_79 (Int.toNat (Prod.snd x)))), gd (K.int IntKind.u32) (Prod.fst x) 4, gd (K.int IntKind.u32) (Prod.fst x) 5, gd (K.int IntKind.u32) (Prod.fst x) 6]])]) (.inl (([iadd IntKind.u32 (iadd IntKind.u32 (iadd IntKind.u32 (f23_s2 x z654 z662 z670) z675) (gd (K.int IntKind.u32) p14_79 (Int.toNat (Prod.snd x)))) (iadd IntKind.u32 (ixor IntKind.u32 (ixor IntKind.u32 z683 z691) z699) (f23_s3 x)), gd (K.int IntKind.u32) (Prod.fst x) 0, gd (K.int IntKind.u32) (Prod.fst x) 1, gd (K.int IntKind.u32) (Prod.fst x) 2, iadd IntKind.u32 (gd (K.int IntKind.u32) (Prod.fst x) 3) (iadd IntKind.u32 (iadd IntKind.u32 (f23_s2 x z654 z662 z670) z675) (gd (K.int IntKind.u32) p14_79 (Int.toNat (Prod.snd x)))), gd (K.int IntKind.u32) (Prod.fst x) 4, gd (K.int IntKind.u32) (Prod.fst x) 5, gd (K.int IntKind.u32) (Prod.fst x) 6], iadd IntKind.i64 (Prod.snd x) 1))))))))))))))))))))))))))))))))))))))))))))))))))))))))))))))
 (.leaf (Ex.exit 4, St.mk [(2, SV.av (AV.one (Lf.ptr 31400 0 0 0 0))), (4, SV.av (AV.one (Lf.ptr 31401 0 0 0 0))), (5, SV.av (AV.one (Lf.ptr 31402 0 0 0 0))), (10, SV.av (AV.one (Lf.ptr 31403 0 0 0 0))), (11, SV.av (AV.one (Lf.v (Value.int IntKind.i64 (Prod.snd x)))))] [(31400, Blk.cells 56 [Lf.dat (K.arr 8 (K.int IntKind.u32)) p14_78]), (31401, Blk.cells 56 [Lf.dat (K.arr 8 (K.int IntKind.u32)) [0, 0, 0, 0, 0, 0, 0, 0]]), (31402, Blk.cells 59 [Lf.dat (K.arr 64 (K.int IntKind.u32)) p14_79]), (31403, Blk.cells 56 [Lf.dat (K.arr 8 (K.int IntKind.u32)) (Prod.fst x)])]) (.inr (Prod.fst x))))
theorem f23_l14_v (p14_78 : List Int) (p14_79 : List Int) (x : List Int × Int) : vc (execK P noG Tryd.f23.ntmps f23_hn [2, 4, 5, 10, 11] (loopOf Tryd.f23 14) (f23_l14_D p14_78 p14_79 x)) (f23_l14_t p14_78 p14_79 x) = vcT (f23_l14_t p14_78 p14_79 x) := by kernel_rfl
theorem f23_l14_o (d : Nat) (p14_78 : List Int) (p14_79 : List Int) (x : List Int × Int) : obl (Snd P noG) (Lp P noG Tryd.f23.ntmps [] f23_hn d) (RelL Tryd.f23.ntmps noG [] (f23_l14_D p14_78 p14_79) (f23_l14_E p14_78 p14_79)) (f23_l14_t p14_78 p14_79 x) := by
 unfold f23_l14_t
 exact (oAsk (fun h0 => (oSure rfl (oSure rfl (oSure rfl (oSure rfl (oSure rfl (oSure rfl (oSure rfl (oSure rfl (oSure rfl (oCall (fun _ e => f25_s e) fun z654 _ =>
 (oCall (fun _ e => f25_s e) fun z662 _ =>
 (oCall (fun _ e => f25_s e) fun z670 _ =>
 (oSure rfl (oSure rfl (oSure rfl (oSure rfl (oSure rfl (oSure rfl (oCall (fun _ e => f26_s e) fun z675 _ =>
 (oNeed fun h1 => (oSure h0 (oNeed fun h2 => (oCall (fun _ e => f25_s e) fun z683 _ =>
 (oCall (fun _ e => f25_s e) fun z691 _ =>
 (oCall (fun _ e => f25_s e) fun z699 _ =>
 (oSure rfl (oSure rfl (oSure rfl (oSure rfl (oSure rfl (oSure rfl (oSure rfl (oSure rfl (oSure rfl (oSure rfl (oSure rfl (oSure rfl (oSure rfl (oSure rfl (oSure rfl (oSure rfl (oSure rfl (oSure rfl (oSure rfl (oSure rfl (oSure rfl (oSure rfl (oSure rfl (oSure rfl (oSure rfl (oSure rfl (oSure rfl (oSure rfl (oSure rfl (oSure rfl (oSure rfl (oSure rfl (oSure rfl (oLeaf (relN (wk_tw [(31403, 31403), (31402, 31402), (31401, 31401), (31400, 31400)] [2, 4, 5, 10, 11] [] (by kernel_rfl) (by kernel_rfl)))))))))))))))))))))))))))))))))))))))))))))))))))))))))))))))
 (fun h0 => (oLeaf (relE rfl (wk_tw [(31403, 61402), (31401, 61401), (31400, 61400)] [2, 4, 10] [] (by kernel_rfl) (by kernel_rfl))))))
noncomputable def f23_l14_m (p14_78 : List Int) (p14_79 : List Int) (x : List Int × Int) : Option (List Int) := lrun (fun x => mod (f23_l14_t p14_78 p14_79 x)) x
theorem f23_l14_e (p14_78 : List Int) (p14_79 : List Int) (x : List Int × Int) : mod (f23_l14_t p14_78 p14_79 x) =
 (sel (ilt (Prod.snd x) 64)
 (Option.bind (f25_m (gd (K.int IntKind.u32) (Prod.fst x) 4) 6) fun z654 =>
 (Option.bind (f25_m (gd (K.int IntKind.u32) (Prod.fst x) 4) 11) fun z662 =>
 (Option.bind (f25_m (gd (K.int IntKind.u32) (Prod.fst x) 4) 25) fun z670 =>
 (Option.bind (f26_m (Prod.snd x)) fun z675 =>
 (sel (ile 0 (Prod.snd x))
 (sel (nlt (Int.toNat (Prod.snd x)) 64)
 (Option.bind (f25_m (gd (K.int IntKind.u32) (Prod.fst x) 0) 2) fun z683 =>
 (Option.bind (f25_m (gd (K.int IntKind.u32) (Prod.fst x) 0) 13) fun z691 =>
 (Option.bind (f25_m (gd (K.int IntKind.u32) (Prod.fst x) 0) 22) fun z699 =>
 (some ((.inl (([iadd IntKind.u32 (iadd IntKind.u32 (iadd IntKind.u32 (f23_s2 x z654 z662 z670) z675) (gd (K.int IntKind.u32) p14_79 (Int.toNat (Prod.snd x)))) (iadd IntKind.u32 (ixor IntKind.u32 (ixor IntKind.u32 z683 z691) z699) (f23_s3 x)), gd (K.int IntKind.u32) (Prod.fst x) 0, gd (K.int IntKind.u32) (Prod.fst x) 1, gd (K.int IntKind.u32) (Prod.fst x) 2, iadd IntKind.u32 (gd (K.int IntKind.u32) (Prod.fst x) 3) (iadd IntKind.u32 (iadd IntKind.u32 (f23_s2 x z654 z662 z670) z675) (gd (K.int IntKind.u32) p14_79 (Int.toNat (Prod.snd x)))), gd (K.int IntKind.u32) (Prod.fst x) 4, gd (K.int IntKind.u32) (Prod.fst x) 5, gd (K.int IntKind.u32) (Prod.fst x) 6], iadd IntKind.i64 (Prod.snd x) 1)))))))) none) none)))))
 (some ((.inr (Prod.fst x))))) := by kernel_rfl
theorem f23_l14_s0 (d : Nat) {p14_78 : List Int} {p14_79 : List Int} {σ : St} {x : List Int × Int} {z : List Int} (h : f23_l14_m p14_78 p14_79 x = some z) (hw : Wk Tryd.f23.ntmps noG [] σ (f23_l14_D p14_78 p14_79 x)) : Lp P noG Tryd.f23.ntmps [] f23_hn (d + 1) (loopOf Tryd.f23 14) σ (Ex.exit 4) (f23_l14_E0 p14_78 p14_79 z) :=
 lp_tree (D := f23_l14_D p14_78 p14_79) (E := f23_l14_E p14_78 p14_79) (f23_l14_v p14_78 p14_79) (f23_l14_o d p14_78 p14_79) h hw
def f23_l22_D (p22_259 : List Int) (x : List Int × Int) : St := St.mk [(2, SV.av (AV.one (Lf.ptr 32200 0 0 0 0))), (4, SV.av (AV.one (Lf.ptr 32201 0 0 0 0))), (10, SV.av (AV.one (Lf.ptr 32202 0 0 0 0))), (16, SV.av (AV.one (Lf.v (Value.int IntKind.i64 (Prod.snd x)))))] [(32200, Blk.cells 56 [Lf.dat (K.arr 8 (K.int IntKind.u32)) (Prod.fst x)]), (32201, Blk.cells 56 [Lf.dat (K.arr 8 (K.int IntKind.u32)) [0, 0, 0, 0, 0, 0, 0, 0]]), (32202, Blk.cells 56 [Lf.dat (K.arr 8 (K.int IntKind.u32)) p22_259])]
def f23_l22_E0 (p22_259 : List Int) (y : List Int) : St := St.mk [(2, SV.av (AV.one (Lf.ptr 62200 0 0 0 0))), (4, SV.av (AV.one (Lf.ptr 62201 0 0 0 0)))] [(62200, Blk.cells 56 [Lf.dat (K.arr 8 (K.int IntKind.u32)) y]), (62201, Blk.cells 56 [Lf.dat (K.arr 8 (K.int IntKind.u32)) [0, 0, 0, 0, 0, 0, 0, 0]])]
def f23_l22_E (p22_259 : List Int) : List Int → Ex × St
  | y => (Ex.exit 6, f23_l22_E0 p22_259 y)
noncomputable def f23_l22_t (p22_259 : List Int) (x : List Int × Int) : DT (Ex × St) ((List Int × Int) ⊕ (List Int)) :=
 (.ask (ilt (Prod.snd x) 8)
 (.need (ile 0 (Prod.snd x)) true
 (.sure (ilt (Prod.snd x) 8) true
 (.need (nlt (Int.toNat (Prod.snd x)) 8) true
 (.sure (ile 0 (Prod.snd x)) true
 (.sure (ilt (Prod.snd x) 8) true
 (.sure (nlt (Int.toNat (Prod.snd x)) 8) true
 (.sure (ile 0 (Prod.snd x)) true
 (.sure (ilt (Prod.snd x) 8) true
 (.sure (nlt (Int.toNat (Prod.snd x)) 8) true
 (.leaf (Vam.Ex.normal, St.mk [(2, SV.av (AV.one (Lf.ptr 32200 0 0 0 0))), (4, SV.av (AV.one (Lf.ptr 32201 0 0 0 0))), (10, SV.av (AV.one (Lf.ptr 32202 0 0 0 0))), (16, SV.av (AV.one (Lf.v (Value.int IntKind.i64 (iadd IntKind.i64 (Prod.snd x) 1)))))] [(32200, Blk.cells 56 [Lf.dat (K.arr 8 (K.int IntKind.u32)) (List.set (Prod.fst x) (Int.toNat (Prod.snd x)) (iadd IntKind.u32 (gd (K.int IntKind.u32) (Prod.fst x) (Int.toNat (Prod.snd x))) (gd (K.int IntKind.u32) p22_259 (Int.toNat (Prod.snd x)))))]), (32201, Blk.cells 56 [Lf.dat (K.arr 8 (K.int IntKind.u32)) [0, 0, 0, 0, 0, 0, 0, 0]]), (32202, Blk.cells 56 [Lf.dat (K.arr 8 (K.int IntKind.u32)) p22_259])]) (.inl ((List.set (Prod.fst x) (Int.toNat (Prod.snd x)) (iadd IntKind.u32 (gd (K.int IntKind.u32) (Prod.fst x) (Int.toNat (Prod.snd x))) (gd (K.int IntKind.u32) p22_259 (Int.toNat (Prod.snd x)))), iadd IntKind.i64 (Prod.snd x) 1)))))))))))))
 (.leaf (Ex.exit 6, St.mk [(2, SV.av (AV.one (Lf.ptr 32200 0 0 0 0))), (4, SV.av (AV.one (Lf.ptr 32201 0 0 0 0))), (10, SV.av (AV.one (Lf.ptr 32202 0 0 0 0))), (16, SV.av (AV.one (Lf.v (Value.int IntKind.i64 (Prod.snd x)))))] [(32200, Blk.cells 56 [Lf.dat (K.arr 8 (K.int IntKind.u32)) (Prod.fst x)]), (32201, Blk.cells 56 [Lf.dat (K.arr 8 (K.int IntKind.u32)) [0, 0, 0, 0, 0, 0, 0, 0]]), (32202, Blk.cells 56 [Lf.dat (K.arr 8 (K.int IntKind.u32)) p22_259])]) (.inr (Prod.fst x))))
theorem f23_l22_v (p22_259 : List Int) (x : List Int × Int) : vc (execK P noG Tryd.f23.ntmps f23_hn [2, 4, 10, 16] (loopOf Tryd.f23 22) (f23_l22_D p22_259 x)) (f23_l22_t p22_259 x) = vcT (f23_l22_t p22_259 x) := by kernel_rfl
theorem f23_l22_o (d : Nat) (p22_259 : List Int) (x : List Int × Int) : obl (Snd P noG) (Lp P noG Tryd.f23.ntmps [] f23_hn d) (RelL Tryd.f23.ntmps noG [] (f23_l22_D p22_259) (f23_l22_E p22_259)) (f23_l22_t p22_259 x) := by
 unfold f23_l22_t
 exact (oAsk (fun h0 => (oNeed fun h1 => (oSure h0 (oNeed fun h2 => (oSure h1 (oSure h0 (oSure h2 (oSure h1 (oSure h0 (oSure h2 (oLeaf (relN (wk_tw [(32202, 32202), (32201, 32201), (32200, 32200)] [2, 4, 10, 16] [] (by kernel_rfl) (by kernel_rfl))))))))))))))
 (fun h0 => (oLeaf (relE rfl (wk_tw [(32201, 62201), (32200, 62200)] [2, 4] [] (by kernel_rfl) (by kernel_rfl))))))
noncomputable def f23_l22_m (p22_259 : List Int) (x : List Int × Int) : Option (List Int) := lrun (fun x => mod (f23_l22_t p22_259 x)) x
theorem f23_l22_e (p22_259 : List Int) (x : List Int × Int) : mod (f23_l22_t p22_259 x) =
 (sel (ilt (Prod.snd x) 8)
 (sel (ile 0 (Prod.snd x))
 (sel (nlt (Int.toNat (Prod.snd x)) 8)
 (some ((.inl ((List.set (Prod.fst x) (Int.toNat (Prod.snd x)) (iadd IntKind.u32 (gd (K.int IntKind.u32) (Prod.fst x) (Int.toNat (Prod.snd x))) (gd (K.int IntKind.u32) p22_259 (Int.toNat (Prod.snd x)))), iadd IntKind.i64 (Prod.snd x) 1))))) none) none)
 (some ((.inr (Prod.fst x))))) := by kernel_rfl
theorem f23_l22_s0 (d : Nat) {p22_259 : List Int} {σ : St} {x : List Int × Int} {z : List Int} (h : f23_l22_m p22_259 x = some z) (hw : Wk Tryd.f23.ntmps noG [] σ (f23_l22_D p22_259 x)) : Lp P noG Tryd.f23.ntmps [] f23_hn (d + 1) (loopOf Tryd.f23 22) σ (Ex.exit 6) (f23_l22_E0 p22_259 z) :=
 lp_tree (D := f23_l22_D p22_259) (E := f23_l22_E p22_259) (f23_l22_v p22_259) (f23_l22_o d p22_259) h hw
def f23_R (a0 : List Int) (a1 : ByteArray) : List Int → SV × Hp
  | z => (SV.av (AV.one (Lf.dat (K.arr 8 (K.int IntKind.u32)) z)), [])
noncomputable def f23_t (a0 : List Int) (a1 : ByteArray) : DT (SV × Hp) (List Int) :=
 (.loop (loopOf Tryd.f23 3) (St.mk [(1, SV.av (AV.one (Lf.v (Value.string a1)))), (2, SV.av (AV.one (Lf.ptr 2 0 0 0 0))), (4, SV.av (AV.one (Lf.ptr 4 0 0 0 0))), (5, SV.av (AV.one (Lf.ptr 5 0 0 0 0))), (6, SV.av (AV.one (Lf.v (Value.int IntKind.i64 0))))] [(2, Blk.cells 56 [Lf.dat (K.arr 8 (K.int IntKind.u32)) a0]), (4, Blk.cells 56 [Lf.dat (K.arr 8 (K.int IntKind.u32)) [0, 0, 0, 0, 0, 0, 0, 0]]), (5, Blk.cells 59 [Lf.dat (K.arr 64 (K.int IntKind.u32)) (List.replicate 64 (0 : Int))])]) (f23_l3_m a1 a0 (List.replicate 64 0, 0)) (Ex.exit 0) (f23_l3_E0 a1 a0) fun z700 =>
 (.loop (loopOf Tryd.f23 7) (St.mk [(2, SV.av (AV.one (Lf.ptr 60300 0 0 0 0))), (4, SV.av (AV.one (Lf.ptr 60301 0 0 0 0))), (5, SV.av (AV.one (Lf.ptr 60302 0 0 0 0))), (7, SV.av (AV.one (Lf.v (Value.int IntKind.i64 16))))] [(60300, Blk.cells 56 [Lf.dat (K.arr 8 (K.int IntKind.u32)) a0]), (60301, Blk.cells 56 [Lf.dat (K.arr 8 (K.int IntKind.u32)) [0, 0, 0, 0, 0, 0, 0, 0]]), (60302, Blk.cells 59 [Lf.dat (K.arr 64 (K.int IntKind.u32)) z700])]) (f23_l7_m a0 (z700, 16)) (Ex.exit 2) (f23_l7_E0 a0) fun z701 =>
 (.loop (loopOf Tryd.f23 14) (St.mk [(2, SV.av (AV.one (Lf.ptr 60700 0 0 0 0))), (4, SV.av (AV.one (Lf.ptr 60701 0 0 0 0))), (5, SV.av (AV.one (Lf.ptr 60702 0 0 0 0))), (10, SV.av (AV.one (Lf.ptr 10 0 0 0 0))), (11, SV.av (AV.one (Lf.v (Value.int IntKind.i64 0))))] [(10, Blk.cells 56 [Lf.dat (K.arr 8 (K.int IntKind.u32)) a0]), (60700, Blk.cells 56 [Lf.dat (K.arr 8 (K.int IntKind.u32)) a0]), (60701, Blk.cells 56 [Lf.dat (K.arr 8 (K.int IntKind.u32)) [0, 0, 0, 0, 0, 0, 0, 0]]), (60702, Blk.cells 59 [Lf.dat (K.arr 64 (K.int IntKind.u32)) z701])]) (f23_l14_m a0 z701 (a0, 0)) (Ex.exit 4) (f23_l14_E0 a0 z701) fun z702 =>
 (.loop (loopOf Tryd.f23 22) (St.mk [(2, SV.av (AV.one (Lf.ptr 61400 0 0 0 0))), (4, SV.av (AV.one (Lf.ptr 61401 0 0 0 0))), (10, SV.av (AV.one (Lf.ptr 61402 0 0 0 0))), (16, SV.av (AV.one (Lf.v (Value.int IntKind.i64 0))))] [(61400, Blk.cells 56 [Lf.dat (K.arr 8 (K.int IntKind.u32)) a0]), (61401, Blk.cells 56 [Lf.dat (K.arr 8 (K.int IntKind.u32)) [0, 0, 0, 0, 0, 0, 0, 0]]), (61402, Blk.cells 56 [Lf.dat (K.arr 8 (K.int IntKind.u32)) z702])]) (f23_l22_m z702 (a0, 0)) (Ex.exit 6) (f23_l22_E0 z702) fun z703 =>
 (.leaf (SV.av (AV.one (Lf.dat (K.arr 8 (K.int IntKind.u32)) z703)), [(62200, Blk.cells 56 [Lf.dat (K.arr 8 (K.int IntKind.u32)) z703]), (62201, Blk.cells 56 [Lf.dat (K.arr 8 (K.int IntKind.u32)) z703])]) (z703))))))
theorem f23_v (a0 : List Int) (a1 : ByteArray) : vc (runR P noG Tryd.f23 f23_hn [AV.one (Lf.dat (K.arr 8 (K.int IntKind.u32)) a0), AV.one (Lf.v (Value.string a1))] []) (f23_t a0 a1) = vcT (f23_t a0 a1) := by kernel_rfl
theorem f23_o (a0 : List Int) (a1 : ByteArray) : obl (Snd P noG) (Lp P noG Tryd.f23.ntmps [] f23_hn 1) (RelF [] (f23_R a0 a1)) (f23_t a0 a1) := by
 unfold f23_t
 exact (oLoop (fun _ e => f23_l3_s0 0 e (wk_tw [(5, 30302), (4, 30301), (2, 30300)] [1, 2, 4, 5, 6] [] (by kernel_rfl) (by kernel_rfl))) fun z700 _ =>
 (oLoop (fun _ e => f23_l7_s0 0 e (wk_tw [(60302, 30702), (60301, 30701), (60300, 30700)] [2, 4, 5, 7] [] (by kernel_rfl) (by kernel_rfl))) fun z701 _ =>
 (oLoop (fun _ e => f23_l14_s0 0 e (wk_tw [(10, 31403), (60702, 31402), (60701, 31401), (60700, 31400)] [2, 4, 5, 10, 11] [] (by kernel_rfl) (by kernel_rfl))) fun z702 _ =>
 (oLoop (fun _ e => f23_l22_s0 0 e (wk_tw [(61402, 32202), (61401, 32201), (61400, 32200)] [2, 4, 10, 16] [] (by kernel_rfl) (by kernel_rfl))) fun z703 _ =>
 (oLeaf (wks_tw [] [] (by kernel_rfl) (by kernel_rfl)))))))
noncomputable def f23_m (a0 : List Int) (a1 : ByteArray) : Option (List Int) := mod (f23_t a0 a1)
theorem f23_e (a0 : List Int) (a1 : ByteArray) : f23_m a0 a1 =
 (Option.bind (f23_l3_m a1 a0 (List.replicate 64 0, 0)) fun z700 =>
 (Option.bind (f23_l7_m a0 (z700, 16)) fun z701 =>
 (Option.bind (f23_l14_m a0 z701 (a0, 0)) fun z702 =>
 (Option.bind (f23_l22_m z702 (a0, 0)) fun z703 =>
 (some ((z703))))))) := by kernel_rfl
theorem f23_s {a0 : List Int} {a1 : ByteArray} {z : List Int} (h : f23_m a0 a1 = some z) : Snd P noG 23 [AV.one (Lf.dat (K.arr 8 (K.int IntKind.u32)) a0), AV.one (Lf.v (Value.string a1))] [] (SV.av (AV.one (Lf.dat (K.arr 8 (K.int IntKind.u32)) z))) [] :=
 snd_tree (hn := f23_hn) 1 (f23_R a0 a1) mixed (by kernel_rfl) (by kernel_rfl) (by kernel_rfl) (by kernel_rfl) (by kernel_rfl) (f23_v a0 a1) (f23_o a0 a1) h
def f20_hn : Hn := Hn.mk [] [] [] [] [(4, [0, 2, 3]), (7, [0, 2, 3, 4]), (12, [0, 2, 5, 6]), (17, [2, 5, 7, 8])]
def f20_l3_D (p3_1 : Int) (x : ByteArray) : St := St.mk [(0, SV.av (AV.one (Lf.v (Value.string x)))), (2, SV.av (AV.one (Lf.ptr 30300 0 0 0 0))), (3, SV.av (AV.one (Lf.v (Value.int IntKind.u64 p3_1))))] [(30300, Blk.cells 31 [Lf.dat (K.arr 32 (K.int IntKind.u8)) [0, 0, 0, 0, 0, 0, 0, 0, 0, 0, 0, 0, 0, 0, 0, 0, 0, 0, 0, 0, 0, 0, 0, 0, 0, 0, 0, 0, 0, 0, 0, 0]])]
def f20_l3_E0 (p3_1 : Int) (y : ByteArray) : St := St.mk [(0, SV.av (AV.one (Lf.v (Value.string y)))), (2, SV.av (AV.one (Lf.ptr 60300 0 0 0 0))), (3, SV.av (AV.one (Lf.v (Value.int IntKind.u64 p3_1))))] [(60300, Blk.cells 31 [Lf.dat (K.arr 32 (K.int IntKind.u8)) [0, 0, 0, 0, 0, 0, 0, 0, 0, 0, 0, 0, 0, 0, 0, 0, 0, 0, 0, 0, 0, 0, 0, 0, 0, 0, 0, 0, 0, 0, 0, 0]])]
def f20_l3_E (p3_1 : Int) : ByteArray → Ex × St
  | y => (Ex.exit 0, f20_l3_E0 p3_1 y)
noncomputable def f20_l3_t (p3_1 : Int) (x : ByteArray) : DT (Ex × St) ((ByteArray) ⊕ (ByteArray)) :=
 (.sure (true) true
 (.ask (bno (ieq (irem (ssz x) 64) 56))
 (.need (nle (ByteArray.size x + 1) 9223372036854775807) true
 (.leaf (Vam.Ex.normal, St.mk [(0, SV.av (AV.one (Lf.v (Value.string (sapp x (ByteArray.mk #[0])))))), (2, SV.av (AV.one (Lf.ptr 30300 0 0 0 0))), (3, SV.av (AV.one (Lf.v (Value.int IntKind.u64 p3_1))))] [(30300, Blk.cells 31 [Lf.dat (K.arr 32 (K.int IntKind.u8)) [0, 0, 0, 0, 0, 0, 0, 0, 0, 0, 0, 0, 0, 0, 0, 0, 0, 0, 0, 0, 0, 0, 0, 0, 0, 0, 0, 0, 0, 0, 0, 0]])]) (.inl (sapp x (ByteArray.mk #[0])))))
 (.leaf (Ex.exit 0, St.mk [(0, SV.av (AV.one (Lf.v (Value.string x)))), (2, SV.av (AV.one (Lf.ptr 30300 0 0 0 0))), (3, SV.av (AV.one (Lf.v (Value.int IntKind.u64 p3_1))))] [(30300, Blk.cells 31 [Lf.dat (K.arr 32 (K.int IntKind.u8)) [0, 0, 0, 0, 0, 0, 0, 0, 0, 0, 0, 0, 0, 0, 0, 0, 0, 0, 0, 0, 0, 0, 0, 0, 0, 0, 0, 0, 0, 0, 0, 0]])]) (.inr (x)))))
theorem f20_l3_v (p3_1 : Int) (x : ByteArray) : vc (execK P noG Tryd.f20.ntmps f20_hn [0, 2, 3] (loopOf Tryd.f20 3) (f20_l3_D p3_1 x)) (f20_l3_t p3_1 x) = vcT (f20_l3_t p3_1 x) := by kernel_rfl
theorem f20_l3_o (d : Nat) (p3_1 : Int) (x : ByteArray) : obl (Snd P noG) (Lp P noG Tryd.f20.ntmps [] f20_hn d) (RelL Tryd.f20.ntmps noG [] (f20_l3_D p3_1) (f20_l3_E p3_1)) (f20_l3_t p3_1 x) := by
 unfold f20_l3_t
 exact (oSure rfl (oAsk (fun h0 => (oNeed fun h1 => (oLeaf (relN (wk_tw [(30300, 30300)] [0, 2, 3] [] (by kernel_rfl) (by kernel_rfl))))))
 (fun h0 => (oLeaf (relE rfl (wk_tw [(30300, 60300)] [0, 2, 3] [] (by kernel_rfl) (by kernel_rfl)))))))
noncomputable def f20_l3_m (p3_1 : Int) (x : ByteArray) : Option (ByteArray) := lrun (fun x => mod (f20_l3_t p3_1 x)) x
theorem f20_l3_e (p3_1 : Int) (x : ByteArray) : mod (f20_l3_t p3_1 x) =
 (sel (bno (ieq (irem (ssz x) 64) 56))
 (sel (nle (ByteArray.size x + 1) 9223372036854775807)
 (some ((.inl (sapp x (ByteArray.mk #[0]))))) none)
 (some ((.inr (x))))) := by kernel_rfl
theorem f20_l3_s0 (d : Nat) {p3_1 : Int} {σ : St} {x : ByteArray} {z : ByteArray} (h : f20_l3_m p3_1 x = some z) (hw : Wk Tryd.f20.ntmps noG [] σ (f20_l3_D p3_1 x)) : Lp P noG Tryd.f20.ntmps [] f20_hn (d + 1) (loopOf Tryd.f20 3) σ (Ex.exit 0) (f20_l3_E0 p3_1 z) :=
 lp_tree (D := f20_l3_D p3_1) (E := f20_l3_E p3_1) (f20_l3_v p3_1) (f20_l3_o d p3_1) h hw
def f20_l6_D (p6_5 : Int) (x : ByteArray × Int) : St := St.mk [(0, SV.av (AV.one (Lf.v (Value.string (Prod.fst x))))), (2, SV.av (AV.one (Lf.ptr 30600 0 0 0 0))), (3, SV.av (AV.one (Lf.v (Value.int IntKind.u64 p6_5)))), (4, SV.av (AV.one (Lf.v (Value.int IntKind.i64 (Prod.snd x)))))] [(30600, Blk.cells 31 [Lf.dat (K.arr 32 (K.int IntKind.u8)) [0, 0, 0, 0, 0, 0, 0, 0, 0, 0, 0, 0, 0, 0, 0, 0, 0, 0, 0, 0, 0, 0, 0, 0, 0, 0, 0, 0, 0, 0, 0, 0]])]
def f20_l6_E0 (p6_5 : Int) (y : ByteArray) : St := St.mk [(0, SV.av (AV.one (Lf.v (Value.string y)))), (2, SV.av (AV.one (Lf.ptr 60600 0 0 0 0)))] [(60600, Blk.cells 31 [Lf.dat (K.arr 32 (K.int IntKind.u8)) [0, 0, 0, 0, 0, 0, 0, 0, 0, 0, 0, 0, 0, 0, 0, 0, 0, 0, 0, 0, 0, 0, 0, 0, 0, 0, 0, 0, 0, 0, 0, 0]])]
def f20_l6_E (p6_5 : Int) : ByteArray → Ex × St
  | y => (Ex.exit 2, f20_l6_E0 p6_5 y)
noncomputable def f20_l6_t (p6_5 : Int) (x : ByteArray × Int) : DT (Ex × St) ((ByteArray × Int) ⊕ (ByteArray)) :=
 (.ask (ile 0 (Prod.snd x))
 (.need (ile 0 (imul IntKind.i64 8 (Prod.snd x))) true
 (.pick true (.sure (true) true
 (.need (nle (ByteArray.size (Prod.fst x) + ByteArray.size (strOfNums [icv IntKind.u8 (shr IntKind.u64 p6_5 (imul IntKind.i64 8 (Prod.snd x)))])) 9223372036854775807) true
 (.leaf (Vam.Ex.normal, St.mk [(0, SV.av (AV.one (Lf.v (Value.string (sapp (Prod.fst x) (strOfNums [icv IntKind.u8 (shr IntKind.u64 p6_5 (imul IntKind.i64 8 (Prod.snd x)))])))))), (2, SV.av (AV.one (Lf.ptr 30600 0 0 0 0))), (3, SV.av (AV.one (Lf.v (Value.int IntKind.u64 p6_5)))), (4, SV.av (AV.one (Lf.v (Value.int IntKind.i64 (isub IntKind.i64 (Prod.snd x) 1)))))] [(31, Blk.row 5 (K.int IntKind.u8) [icv IntKind.u8 (shr IntKind.u64 p6_5 (imul IntKind.i64 8 (Prod.snd x)))]), (30600, Blk.cells 31 [Lf.dat (K.arr 32 (K.int IntKind.u8)) [0, 0, 0, 0, 0, 0, 0, 0, 0, 0, 0, 0, 0, 0, 0, 0, 0, 0, 0, 0, 0, 0, 0, 0, 0, 0, 0, 0, 0, 0, 0, 0]])]) (.inl ((sapp (Prod.fst x) (strOfNums [icv IntKind.u8 (shr IntKind.u64 p6_5 (imul IntKind.i64 8 (Prod.snd x)))]), isub IntKind.i64 (Prod.snd x) 1))))))))
 (.leaf (Ex.exit 2, St.mk [(0, SV.av (AV.one (Lf.v (Value.string (Prod.fst x))))), (2, SV.av (AV.one (Lf.ptr 30600 0 0 0 0))), (3, SV.av (AV.one (Lf.v (Value.int IntKind.u64 p6_5)))), (4, SV.av (AV.one (Lf.v (Value.int IntKind.i64 (Prod.snd x)))))] [(30600, Blk.cells 31 [Lf.dat (K.arr 32 (K.int IntKind.u8)) [0, 0, 0, 0, 0, 0, 0, 0, 0, 0, 0, 0, 0, 0, 0, 0, 0, 0, 0, 0, 0, 0, 0, 0, 0, 0, 0, 0, 0, 0, 0, 0]])]) (.inr (Prod.fst x))))
theorem f20_l6_v (p6_5 : Int) (x : ByteArray × Int) : vc (execK P noG Tryd.f20.ntmps f20_hn [0, 2, 3, 4] (loopOf Tryd.f20 6) (f20_l6_D p6_5 x)) (f20_l6_t p6_5 x) = vcT (f20_l6_t p6_5 x) := by kernel_rfl
theorem f20_l6_o (d : Nat) (p6_5 : Int) (x : ByteArray × Int) : obl (Snd P noG) (Lp P noG Tryd.f20.ntmps [] f20_hn d) (RelL Tryd.f20.ntmps noG [] (f20_l6_D p6_5) (f20_l6_E p6_5)) (f20_l6_t p6_5 x) := by
 unfold f20_l6_t
 exact (oAsk (fun h0 => (oNeed fun h1 => (oPick (oSure rfl (oNeed fun h2 => (oLeaf (relN (wk_tw [(30600, 30600)] [0, 2, 3, 4] [] (by kernel_rfl) (by kernel_rfl)))))))))
 (fun h0 => (oLeaf (relE rfl (wk_tw [(30600, 60600)] [0, 2] [] (by kernel_rfl) (by kernel_rfl))))))
noncomputable def f20_l6_m (p6_5 : Int) (x : ByteArray × Int) : Option (ByteArray) := lrun (fun x => mod (f20_l6_t p6_5 x)) x
theorem f20_l6_e (p6_5 : Int) (x : ByteArray × Int) : mod (f20_l6_t p6_5 x) =
 (sel (ile 0 (Prod.snd x))
 (sel (ile 0 (imul IntKind.i64 8 (Prod.snd x)))
 (sel (nle (ByteArray.size (Prod.fst x) + ByteArray.size (strOfNums [icv IntKind.u8 (shr IntKind.u64 p6_5 (imul IntKind.i64 8 (Prod.snd x)))])) 9223372036854775807)
 (some ((.inl ((sapp (Prod.fst x) (strOfNums [icv IntKind.u8 (shr IntKind.u64 p6_5 (imul IntKind.i64 8 (Prod.snd x)))]), isub IntKind.i64 (Prod.snd x) 1))))) none) none)
 (some ((.inr (Prod.fst x))))) := by kernel_rfl
theorem f20_l6_s0 (d : Nat) {p6_5 : Int} {σ : St} {x : ByteArray × Int} {z : ByteArray} (h : f20_l6_m p6_5 x = some z) (hw : Wk Tryd.f20.ntmps noG [] σ (f20_l6_D p6_5 x)) : Lp P noG Tryd.f20.ntmps [] f20_hn (d + 1) (loopOf Tryd.f20 6) σ (Ex.exit 2) (f20_l6_E0 p6_5 z) :=
 lp_tree (D := f20_l6_D p6_5) (E := f20_l6_E p6_5) (f20_l6_v p6_5) (f20_l6_o d p6_5) h hw
def f20_l11_D (p11_13 : ByteArray) (x : List Int × Int) : St := St.mk [(0, SV.av (AV.one (Lf.v (Value.string p11_13)))), (2, SV.av (AV.one (Lf.ptr 31100 0 0 0 0))), (5, SV.av (AV.one (Lf.ptr 31101 0 0 0 0))), (6, SV.av (AV.one (Lf.v (Value.int IntKind.i64 (Prod.snd x)))))] [(31100, Blk.cells 31 [Lf.dat (K.arr 32 (K.int IntKind.u8)) [0, 0, 0, 0, 0, 0, 0, 0, 0, 0, 0, 0, 0, 0, 0, 0, 0, 0, 0, 0, 0, 0, 0, 0, 0, 0, 0, 0, 0, 0, 0, 0]]), (31101, Blk.cells 56 [Lf.dat (K.arr 8 (K.int IntKind.u32)) (Prod.fst x)])]
def f20_l11_E0 (p11_13 : ByteArray) (y : List Int) : St := St.mk [(2, SV.av (AV.one (Lf.ptr 61100 0 0 0 0))), (5, SV.av (AV.one (Lf.ptr 61101 0 0 0 0)))] [(61100, Blk.cells 31 [Lf.dat (K.arr 32 (K.int IntKind.u8)) [0, 0, 0, 0, 0, 0, 0, 0, 0, 0, 0, 0, 0, 0, 0, 0, 0, 0, 0, 0, 0, 0, 0, 0, 0, 0, 0, 0, 0, 0, 0, 0]]), (61101, Blk.cells 56 [Lf.dat (K.arr 8 (K.int IntKind.u32)) y])]
def f20_l11_E (p11_13 : ByteArray) : List Int → Ex × St
  | y => (Ex.exit 4, f20_l11_E0 p11_13 y)
noncomputable def f20_l11_t (p11_13 : ByteArray) (x : List Int × Int) : DT (Ex × St) ((List Int × Int) ⊕ (List Int)) :=
 (.ask (ilt (Prod.snd x) (ssz p11_13))
 (.need (ile 0 (Prod.snd x)) true
 (.need (ile (Prod.snd x) (iadd IntKind.i64 (Prod.snd x) 64)) true
 (.need (ile (iadd IntKind.i64 (Prod.snd x) 64) (ssz p11_13)) true
 (.call 23 [AV.one (Lf.dat (K.arr 8 (K.int IntKind.u32)) (Prod.fst x)), AV.one (Lf.v (Value.string (scut p11_13 (Int.toNat (Prod.snd x)) (Int.toNat (iadd IntKind.i64 (Prod.snd x) 64)))))] [] (f23_m (Prod.fst x) (scut p11_13 (Int.toNat (Prod.snd x)) (Int.toNat (iadd IntKind.i64 (Prod.snd x) 64)))) (fun z83 => SV.av (AV.one (Lf.dat (K.arr 8 (K.int IntKind.u32)) z83))) (fun z83 => []) fun z83 =>
 (.leaf (Vam.Ex.normal, St.mk [(0, SV.av (AV.one (Lf.v (Value.string p11_13)))), (2, SV.av (AV.one (Lf.ptr 31100 0 0 0 0))), (5, SV.av (AV.one (Lf.ptr 31101 0 0 0 0))), (6, SV.av (AV.one (Lf.v (Value.int IntKind.i64 (iadd IntKind.i64 (Prod.snd x) 64)))))] [(31100, Blk.cells 31 [Lf.dat (K.arr 32 (K.int IntKind.u8)) [0, 0, 0, 0, 0, 0, 0, 0, 0, 0, 0, 0, 0, 0, 0, 0, 0, 0, 0, 0, 0, 0, 0, 0, 0, 0, 0, 0, 0, 0, 0, 0]]), (31101, Blk.cells 56 [Lf.dat (K.arr 8 (K.int IntKind.u32)) z83])]) (.inl ((z83, iadd IntKind.i64 (Prod.snd x) 64))))))))
 (.leaf (Ex.exit 4, St.mk [(0, SV.av (AV.one (Lf.v (Value.string p11_13)))), (2, SV.av (AV.one (Lf.ptr 31100 0 0 0 0))), (5, SV.av (AV.one (Lf.ptr 31101 0 0 0 0))), (6, SV.av (AV.one (Lf.v (Value.int IntKind.i64 (Prod.snd x)))))] [(31100, Blk.cells 31 [Lf.dat (K.arr 32 (K.int IntKind.u8)) [0, 0, 0, 0, 0, 0, 0, 0, 0, 0, 0, 0, 0, 0, 0, 0, 0, 0, 0, 0, 0, 0, 0, 0, 0, 0, 0, 0, 0, 0, 0, 0]]), (31101, Blk.cells 56 [Lf.dat (K.arr 8 (K.int IntKind.u32)) (Prod.fst x)])]) (.inr (Prod.fst x))))
theorem f20_l11_v (p11_13 : ByteArray) (x : List Int × Int) : vc (execK P noG Tryd.f20.ntmps f20_hn [0, 2, 5, 6] (loopOf Tryd.f20 11) (f20_l11_D p11_13 x)) (f20_l11_t p11_13 x) = vcT (f20_l11_t p11_13 x) := by kernel_rfl
theorem f20_l11_o (d : Nat) (p11_13 : ByteArray) (x : List Int × Int) : obl (Snd P noG) (Lp P noG Tryd.f20.ntmps [] f20_hn d) (RelL Tryd.f20.ntmps noG [] (f20_l11_D p11_13) (f20_l11_E p11_13)) (f20_l11_t p11_13 x) := by
 unfold f20_l11_t
 exact (oAsk (fun h0 => (oNeed fun h1 => (oNeed fun h2 => (oNeed fun h3 => (oCall (fun _ e => f23_s e) fun z83 _ =>
 (oLeaf (relN (wk_tw [(31101, 31101), (31100, 31100)] [0, 2, 5, 6] [] (by kernel_rfl) (by kernel_rfl)))))))))
 (fun h0 => (oLeaf (relE rfl (wk_tw [(31101, 61101), (31100, 61100)] [2, 5] [] (by kernel_rfl) (by kernel_rfl))))))
noncomputable def f20_l11_m (p11_13 : ByteArray) (x : List Int × Int) : Option (List Int) := lrun (fun x => mod (f20_l11_t p11_13 x)) x
theorem f20_l11_e (p11_13 : ByteArray) (x : List Int × Int) : mod (f20_l11_t p11_13 x) =
 (sel (ilt (Prod.snd x) (ssz p11_13))
 (sel (ile 0 (Prod.snd x))
 (sel (ile (Prod.snd x) (iadd IntKind.i64 (Prod.snd x) 64))
 (sel (ile (iadd IntKind.i64 (Prod.snd x) 64) (ssz p11_13))
 (Option.bind (f23_m (Prod.fst x) (scut p11_13 (Int.toNat (Prod.snd x)) (Int.toNat (iadd IntKind.i64 (Prod.snd x) 64)))) fun z83 =>
 (some ((.inl ((z83, iadd IntKind.i64 (Prod.snd x) 64)))))) none) none) none)
 (some ((.inr (Prod.fst x))))) := by kernel_rfl
theorem f20_l11_s0 (d : Nat) {p11_13 : ByteArray} {σ : St} {x : List Int × Int} {z : List Int} (h : f20_l11_m p11_13 x = some z) (hw : Wk Tryd.f20.ntmps noG [] σ (f20_l11_D p11_13 x)) : Lp P noG Tryd.f20.ntmps [] f20_hn (d + 1) (loopOf Tryd.f20 11) σ (Ex.exit 4) (f20_l11_E0 p11_13 z) :=
 lp_tree (D := f20_l11_D p11_13) (E := f20_l11_E p11_13) (f20_l11_v p11_13) (f20_l11_o d p11_13) h hw
def f20_l16_D (p16_41 : List Int) (x : List Int × Int) : St := St.mk [(2, SV.av (AV.one (Lf.ptr 31600 0 0 0 0))), (5, SV.av (AV.one (Lf.ptr 31601 0 0 0 0))), (7, SV.av (AV.one (Lf.ptr 31602 0 0 0 0))), (8, SV.av (AV.one (Lf.v (Value.int IntKind.i64 (Prod.snd x)))))] [(31600, Blk.cells 31 [Lf.dat (K.arr 32 (K.int IntKind.u8)) [0, 0, 0, 0, 0, 0, 0, 0, 0, 0, 0, 0, 0, 0, 0, 0, 0, 0, 0, 0, 0, 0, 0, 0, 0, 0, 0, 0, 0, 0, 0, 0]]), (31601, Blk.cells 56 [Lf.dat (K.arr 8 (K.int IntKind.u32)) p16_41]), (31602, Blk.cells 31 [Lf.dat (K.arr 32 (K.int IntKind.u8)) (Prod.fst x)])]
def f20_l16_E0 (p16_41 : List Int) (y : List Int) : St := St.mk [(2, SV.av (AV.one (Lf.ptr 61600 0 0 0 0))), (7, SV.av (AV.one (Lf.ptr 61601 0 0 0 0)))] [(61600, Blk.cells 31 [Lf.dat (K.arr 32 (K.int IntKind.u8)) [0, 0, 0, 0, 0, 0, 0, 0, 0, 0, 0, 0, 0, 0, 0, 0, 0, 0, 0, 0, 0, 0, 0, 0, 0, 0, 0, 0, 0, 0, 0, 0]]), (61601, Blk.cells 31 [Lf.dat (K.arr 32 (K.int IntKind.u8)) y])]
def f20_l16_E (p16_41 : List Int) : List Int → Ex × St
  | y => (Ex.exit 6, f20_l16_E0 p16_41 y)
noncomputable def f20_l16_t (p16_41 : List Int) (x : List Int × Int) : DT (Ex × St) ((List Int × Int) ⊕ (List Int)) :=
 (.ask (ilt (Prod.snd x) 32)
 (.sure (true) true
 (.need (ile 0 (iquo IntKind.i64 (Prod.snd x) 4)) true
 (.need (ilt (iquo IntKind.i64 (Prod.snd x) 4) 8) true
 (.need (nlt (Int.toNat (iquo IntKind.i64 (Prod.snd x) 4)) 8) true
 (.sure (true) true
 (.need (ile 0 (isub IntKind.i64 24 (imul IntKind.i64 8 (irem (Prod.snd x) 4)))) true
 (.need (ile 0 (Prod.snd x)) true
 (.sure (ilt (Prod.snd x) 32) true
 (.need (nlt (Int.toNat (Prod.snd x)) 32) true
 (.leaf (Vam.Ex.normal, St.mk [(2, SV.av (AV.one (Lf.ptr 31600 0 0 0 0))), (5, SV.av (AV.one (Lf.ptr 31601 0 0 0 0))), (7, SV.av (AV.one (Lf.ptr 31602 0 0 0 0))), (8, SV.av (AV.one (Lf.v (Value.int IntKind.i64 (iadd IntKind.i64 (Prod.snd x) 1)))))] [(31600, Blk.cells 31 [Lf.dat (K.arr 32 (K.int IntKind.u8)) [0, 0, 0, 0, 0, 0, 0, 0, 0, 0, 0, 0, 0, 0, 0, 0, 0, 0, 0, 0, 0, 0, 0, 0, 0, 0, 0, 0, 0, 0, 0, 0]]), (31601, Blk.cells 56 [Lf.dat (K.arr 8 (K.int IntKind.u32)) p16_41]), (31602, Blk.cells 31 [Lf.dat (K.arr 32 (K.int IntKind.u8)) (List.set (Prod.fst x) (Int.toNat (Prod.snd x)) (icv IntKind.u8 (shr IntKind.u32 (gd (K.int IntKind.u32) p16_41 (Int.toNat (iquo IntKind.i64 (Prod.snd x) 4))) (isub IntKind.i64 24 (imul IntKind.i64 8 (irem (Prod.snd x) 4))))))])]) (.inl ((List.set (Prod.fst x) (Int.toNat (Prod.snd x)) (icv IntKind.u8 (shr IntKind.u32 (gd (K.int IntKind.u32) p16_41 (Int.toNat (iquo IntKind.i64 (Prod.snd x) 4))) (isub IntKind.i64 24 (imul IntKind.i64 8 (irem (Prod.snd x) 4))))), iadd IntKind.i64 (Prod.snd x) 1)))))))))))))
 (.leaf (Ex.exit 6, St.mk [(2, SV.av (AV.one (Lf.ptr 31600 0 0 0 0))), (5, SV.av (AV.one (Lf.ptr 31601 0 0 0 0))), (7, SV.av (AV.one (Lf.ptr 31602 0 0 0 0))), (8, SV.av (AV.one (Lf.v (Value.int IntKind.i64 (Prod.snd x)))))] [(31600, Blk.cells 31 [Lf.dat (K.arr 32 (K.int IntKind.u8)) [0, 0, 0, 0, 0, 0, 0, 0, 0, 0, 0, 0, 0, 0, 0, 0, 0, 0, 0, 0, 0, 0, 0, 0, 0, 0, 0, 0, 0, 0, 0, 0]]), (31601, Blk.cells 56 [Lf.dat (K.arr 8 (K.int IntKind.u32)) p16_41]), (31602, Blk.cells 31 [Lf.dat (K.arr 32 (K.int IntKind.u8)) (Prod.fst x)])]) (.inr (Prod.fst x))))
theorem f20_l16_v (p16_41 : List Int) (x : List Int × Int) : vc (execK P noG Tryd.f20.ntmps f20_hn [2, 5, 7, 8] (loopOf Tryd.f20 16) (f20_l16_D p16_41 x)) (f20_l16_t p16_41 x) = vcT (f20_l16_t p16_41 x) := by kernel_rfl
theorem f20_l16_o (d : Nat) (p16_41 : List Int) (x : List Int × Int) : obl (Snd P noG) (Lp P noG Tryd.f20.ntmps [] f20_hn d) (RelL Tryd.f20.ntmps noG [] (f20_l16_D p16_41) (f20_l16_E p16_41)) (f20_l16_t p16_41 x) := by
 unfold f20_l16_t
 exact (oAsk (fun h0 => (oSure rfl (oNeed fun h1 => (oNeed fun h2 => (oNeed fun h3 => (oSure rfl (oNeed fun h4 => (oNeed fun h5 => (oSure h0 (oNeed fun h6 => (oLeaf (relN (wk_tw [(31602, 31602), (31601, 31601), (31600, 31600)] [2, 5, 7, 8] [] (by kernel_rfl) (by kernel_rfl))))))))))))))
 (fun h0 => (oLeaf (relE rfl (wk_tw [(31602, 61601), (31600, 61600)] [2, 7] [] (by kernel_rfl) (by kernel_rfl))))))
noncomputable def f20_l16_m (p16_41 : List Int) (x : List Int × Int) : Option (List Int) := lrun (fun x => mod (f20_l16_t p16_41 x)) x
theorem f20_l16_e (p16_41 : List Int) (x : List Int × Int) : mod (f20_l16_t p16_41 x) =
 (sel (ilt (Prod.snd x) 32)
 (sel (ile 0 (iquo IntKind.i64 (Prod.snd x) 4))
 (sel (ilt (iquo IntKind.i64 (Prod.snd x) 4) 8)
 (sel (nlt (Int.toNat (iquo IntKind.i64 (Prod.snd x) 4)) 8)
 (sel (ile 0 (isub IntKind.i64 24 (imul IntKind.i64 8 (irem (Prod.snd x) 4))))
 (sel (ile 0 (Prod.snd x))
 (sel (nlt (Int.toNat (Prod.snd x)) 32)
 (some ((.inl ((List.set (Prod.fst x) (Int.toNat (Prod.snd x)) (icv IntKind.u8 (shr IntKind.u32 (gd (K.int IntKind.u32) p16_41 (Int.toNat (iquo IntKind.i64 (Prod.snd x) 4))) (isub IntKind.i64 24 (imul IntKind.i64 8 (irem (Prod.snd x) 4))))), iadd IntKind.i64 (Prod.snd x) 1))))) none) none) none) none) none) none)
 (some ((.inr (Prod.fst x))))) := by kernel_rfl
theorem f20_l16_s0 (d : Nat) {p16_41 : List Int} {σ : St} {x : List Int × Int} {z : List Int} (h : f20_l16_m p16_41 x = some z) (hw : Wk Tryd.f20.ntmps noG [] σ (f20_l16_D p16_41 x)) : Lp P noG Tryd.f20.ntmps [] f20_hn (d + 1) (loopOf Tryd.f20 16) σ (Ex.exit 6) (f20_l16_E0 p16_41 z) :=
 lp_tree (D := f20_l16_D p16_41) (E := f20_l16_E p16_41) (f20_l16_v p16_41) (f20_l16_o d p16_41) h hw
def f20_R (a0 : ByteArray) : List Int → SV × Hp
  | z => (SV.av (AV.one (Lf.dat (K.arr 32 (K.int IntKind.u8)) z)), [])
noncomputable def f20_t (a0 : ByteArray) : DT (SV × Hp) (List Int) :=
 (.need (nle (ByteArray.size a0 + 1) 9223372036854775807) true
 (.loop (loopOf Tryd.f20 3) (St.mk [(0, SV.av (AV.one (Lf.v (Value.string (sapp a0 (ByteArray.mk #[128])))))), (2, SV.av (AV.one (Lf.ptr 2 0 0 0 0))), (3, SV.av (AV.one (Lf.v (Value.int IntKind.u64 (imul IntKind.u64 (icv IntKind.u64 (ssz a0)) 8)))))] [(2, Blk.cells 31 [Lf.dat (K.arr 32 (K.int IntKind.u8)) [0, 0, 0, 0, 0, 0, 0, 0, 0, 0, 0, 0, 0, 0, 0, 0, 0, 0, 0, 0, 0, 0, 0, 0, 0, 0, 0, 0, 0, 0, 0, 0]])]) (f20_l3_m (imul IntKind.u64 (icv IntKind.u64 (ssz a0)) 8) (sapp a0 (ByteArray.mk #[128]))) (Ex.exit 0) (f20_l3_E0 (imul IntKind.u64 (icv IntKind.u64 (ssz a0)) 8)) fun z84 =>
 (.loop (loopOf Tryd.f20 6) (St.mk [(0, SV.av (AV.one (Lf.v (Value.string z84)))), (2, SV.av (AV.one (Lf.ptr 60300 0 0 0 0))), (3, SV.av (AV.one (Lf.v (Value.int IntKind.u64 (imul IntKind.u64 (icv IntKind.u64 (ssz a0)) 8))))), (4, SV.av (AV.one (Lf.v (Value.int IntKind.i64 7))))] [(60300, Blk.cells 31 [Lf.dat (K.arr 32 (K.int IntKind.u8)) [0, 0, 0, 0, 0, 0, 0, 0, 0, 0, 0, 0, 0, 0, 0, 0, 0, 0, 0, 0, 0, 0, 0, 0, 0, 0, 0, 0, 0, 0, 0, 0]])]) (f20_l6_m (imul IntKind.u64 (icv IntKind.u64 (ssz a0)) 8) (z84, 7)) (Ex.exit 2) (f20_l6_E0 (imul IntKind.u64 (icv IntKind.u64 (ssz a0)) 8)) fun z85 =>
 (.loop (loopOf Tryd.f20 11) (St.mk [(0, SV.av (AV.one (Lf.v (Value.string z85)))), (2, SV.av (AV.one (Lf.ptr 60600 0 0 0 0))), (5, SV.av (AV.one (Lf.ptr 5 0 0 0 0))), (6, SV.av (AV.one (Lf.v (Value.int IntKind.i64 0))))] [(5, Blk.cells 56 [Lf.dat (K.arr 8 (K.int IntKind.u32)) [1779033703, 3144134277, 1013904242, 2773480762, 1359893119, 2600822924, 528734635, 1541459225]]), (60600, Blk.cells 31 [Lf.dat (K.arr 32 (K.int IntKind.u8)) [0, 0, 0, 0, 0, 0, 0, 0, 0, 0, 0, 0, 0, 0, 0, 0, 0, 0, 0, 0, 0, 0, 0, 0, 0, 0, 0, 0, 0, 0, 0, 0]])]) (f20_l11_m z85 ([1779033703, 3144134277, 1013904242, 2773480762, 1359893119, 2600822924, 528734635, 1541459225], 0)) (Ex.exit 4) (f20_l11_E0 z85) fun z86 =>
 (.loop (loopOf Tryd.f20 16) (St.mk [(2, SV.av (AV.one (Lf.ptr 61100 0 0 0 0))), (5, SV.av (AV.one (Lf.ptr 61101 0 0 0 0))), (7, SV.av (AV.one (Lf.ptr 7 0 0 0 0))), (8, SV.av (AV.one (Lf.v (Value.int IntKind.i64 0))))] [(7, Blk.cells 31 [Lf.dat (K.arr 32 (K.int IntKind.u8)) [0, 0, 0, 0, 0, 0, 0, 0, 0, 0, 0, 0, 0, 0, 0, 0, 0, 0, 0, 0, 0, 0, 0, 0, 0, 0, 0, 0, 0, 0, 0, 0]]), (61100, Blk.cells 31 [Lf.dat (K.arr 32 (K.int IntKind.u8)) [0, 0, 0, 0, 0, 0, 0, 0, 0, 0, 0, 0, 0, 0, 0, 0, 0, 0, 0, 0, 0, 0, 0, 0, 0, 0, 0, 0, 0, 0, 0, 0]]), (61101, Blk.cells 56 [Lf.dat (K.arr 8 (K.int IntKind.u32)) z86])]) (f20_l16_m z86 ([0, 0, 0, 0, 0, 0, 0, 0, 0, 0, 0, 0, 0, 0, 0, 0, 0, 0, 0, 0, 0, 0, 0, 0, 0, 0, 0, 0, 0, 0, 0, 0], 0)) (Ex.exit 6) (f20_l16_E0 z86) fun z87 =>
 (.leaf (SV.av (AV.one (Lf.dat (K.arr 32 (K.int IntKind.u8)) z87)), [(61600, Blk.cells 31 [Lf.dat (K.arr 32 (K.int IntKind.u8)) z87]), (61601, Blk.cells 31 [Lf.dat (K.arr 32 (K.int IntKind.u8)) z87])]) (z87)))))))
theorem f20_v (a0 : ByteArray) : vc (runR P noG Tryd.f20 f20_hn [AV.one (Lf.v (Value.string a0))] []) (f20_t a0) = vcT (f20_t a0) := by kernel_rfl
theorem f20_o (a0 : ByteArray) : obl (Snd P noG) (Lp P noG Tryd.f20.ntmps [] f20_hn 1) (RelF [] (f20_R a0)) (f20_t a0) := by
 unfold f20_t
 exact (oNeed fun h0 => (oLoop (fun _ e => f20_l3_s0 0 e (wk_tw [(2, 30300)] [0, 2, 3] [] (by kernel_rfl) (by kernel_rfl))) fun z84 _ =>
 (oLoop (fun _ e => f20_l6_s0 0 e (wk_tw [(60300, 30600)] [0, 2, 3, 4] [] (by kernel_rfl) (by kernel_rfl))) fun z85 _ =>
 (oLoop (fun _ e => f20_l11_s0 0 e (wk_tw [(5, 31101), (60600, 31100)] [0, 2, 5, 6] [] (by kernel_rfl) (by kernel_rfl))) fun z86 _ =>
 (oLoop (fun _ e => f20_l16_s0 0 e (wk_tw [(7, 31602), (61101, 31601), (61100, 31600)] [2, 5, 7, 8] [] (by kernel_rfl) (by kernel_rfl))) fun z87 _ =>
 (oLeaf (wks_tw [] [] (by kernel_rfl) (by kernel_rfl))))))))
noncomputable def f20_m (a0 : ByteArray) : Option (List Int) := mod (f20_t a0)
theorem f20_e (a0 : ByteArray) : f20_m a0 =
 (sel (nle (ByteArray.size a0 + 1) 9223372036854775807)
 (Option.bind (f20_l3_m (imul IntKind.u64 (icv IntKind.u64 (ssz a0)) 8) (sapp a0 (ByteArray.mk #[128]))) fun z84 =>
 (Option.bind (f20_l6_m (imul IntKind.u64 (icv IntKind.u64 (ssz a0)) 8) (z84, 7)) fun z85 =>
 (Option.bind (f20_l11_m z85 ([1779033703, 3144134277, 1013904242, 2773480762, 1359893119, 2600822924, 528734635, 1541459225], 0)) fun z86 =>
 (Option.bind (f20_l16_m z86 ([0, 0, 0, 0, 0, 0, 0, 0, 0, 0, 0, 0, 0, 0, 0, 0, 0, 0, 0, 0, 0, 0, 0, 0, 0, 0, 0, 0, 0, 0, 0, 0], 0)) fun z87 =>
 (some ((z87))))))) none) := by kernel_rfl
theorem f20_s {a0 : ByteArray} {z : List Int} (h : f20_m a0 = some z) : Snd P noG 20 [AV.one (Lf.v (Value.string a0))] [] (SV.av (AV.one (Lf.dat (K.arr 32 (K.int IntKind.u8)) z))) [] :=
 snd_tree (hn := f20_hn) 1 (f20_R a0) mixed (by kernel_rfl) (by kernel_rfl) (by kernel_rfl) (by kernel_rfl) (by kernel_rfl) (f20_v a0) (f20_o a0) h
def f12_hn : Hn := Hn.mk [(1002, [(1000000, 6)])] [] [] [] []
def f12_R (a0 : ByteArray) (a1 : List ByteArray) : List Int → SV × Hp
  | z => (SV.av (AV.one (Lf.dat (K.arr 32 (K.int IntKind.u8)) z)), [])
noncomputable def f12_t (a0 : ByteArray) (a1 : List ByteArray) : DT (SV × Hp) (List Int) :=
 (.pick true (.sure (true) true
 (.call 10 [AV.one (Lf.dat (K.sl K.str) [a0])] [] (f10_m [a0]) (fun z35 => SV.av (AV.one (Lf.v (Value.string z35)))) (fun z35 => []) fun z35 =>
 (.call 10 [AV.one (Lf.dat (K.sl K.str) a1)] [] (f10_m a1) (fun z40 => SV.av (AV.one (Lf.v (Value.string z40)))) (fun z40 => []) fun z40 =>
 (.need (nle (ByteArray.size z35 + ByteArray.size z40) 9223372036854775807) true
 (.call 20 [AV.one (Lf.v (Value.string (sapp z35 z40)))] [] (f20_m (sapp z35 z40)) (fun z45 => SV.av (AV.one (Lf.dat (K.arr 32 (K.int IntKind.u8)) z45))) (fun z45 => []) fun z45 =>
 (.leaf (SV.av (AV.one (Lf.dat (K.arr 32 (K.int IntKind.u8)) z45)), [(4, Blk.cells 31 [Lf.dat (K.arr 32 (K.int IntKind.u8)) z45]), (6, Blk.row 9 K.str [a0])]) (z45))))))))
theorem f12_v (a0 : ByteArray) (a1 : List ByteArray) : vc (runR P noG Tryd.f12 f12_hn [AV.one (Lf.v (Value.string a0)), AV.one (Lf.dat (K.sl K.str) a1)] []) (f12_t a0 a1) = vcT (f12_t a0 a1) := by kernel_rfl
theorem f12_o (a0 : ByteArray) (a1 : List ByteArray) : obl (Snd P noG) (Lp P noG Tryd.f12.ntmps [] f12_hn 1) (RelF [] (f12_R a0 a1)) (f12_t a0 a1) := by
 unfold f12_t
 exact (oPick (oSure rfl (oCall (fun _ e => f10_s e) fun z35 _ =>
 (oCall (fun _ e => f10_s e) fun z40 _ =>
 (oNeed fun h0 => (oCall (fun _ e => f20_s e) fun z45 _ =>
 (oLeaf (wks_tw [] [] (by kernel_rfl) (by kernel_rfl)))))))))
noncomputable def f12_m (a0 : ByteArray) (a1 : List ByteArray) : Option (List Int) := mod (f12_t a0 a1)
theorem f12_e (a0 : ByteArray) (a1 : List ByteArray) : f12_m a0 a1 =
 (Option.bind (f10_m [a0]) fun z35 =>
 (Option.bind (f10_m a1) fun z40 =>
 (sel (nle (ByteArray.size z35 + ByteArray.size z40) 9223372036854775807)
 (Option.bind (f20_m (sapp z35 z40)) fun z45 =>
 (some ((z45)))) none))) := by kernel_rfl
theorem f12_s {a0 : ByteArray} {a1 : List ByteArray} {z : List Int} (h : f12_m a0 a1 = some z) : Snd P noG 12 [AV.one (Lf.v (Value.string a0)), AV.one (Lf.dat (K.sl K.str) a1)] [] (SV.av (AV.one (Lf.dat (K.arr 32 (K.int IntKind.u8)) z))) [] :=
 snd_tree (hn := f12_hn) 1 (f12_R a0 a1) mixed (by kernel_rfl) (by kernel_rfl) (by kernel_rfl) (by kernel_rfl) (by kernel_rfl) (f12_v a0 a1) (f12_o a0 a1) h
def f14_hn : Hn := Hn.mk [] [] [] [] [(5, [4, 5, 6, 7])]
def f14_l4_D (p4_8 : List Int) (x : List Int × Int) : St := St.mk [(4, SV.av (AV.one (Lf.ptr 30400 0 0 0 0))), (5, SV.av (AV.one (Lf.ptr 30401 0 0 0 0))), (6, SV.av (AV.one (Lf.ptr 30402 0 0 0 0))), (7, SV.av (AV.one (Lf.v (Value.int IntKind.i64 (Prod.snd x)))))] [(30400, Blk.cells 35 [Lf.dat (K.arr 16 (K.int IntKind.u8)) [0, 0, 0, 0, 0, 0, 0, 0, 0, 0, 0, 0, 0, 0, 0, 0]]), (30401, Blk.cells 31 [Lf.dat (K.arr 32 (K.int IntKind.u8)) p4_8]), (30402, Blk.cells 35 [Lf.dat (K.arr 16 (K.int IntKind.u8)) (Prod.fst x)])]
def f14_l4_E0 (p4_8 : List Int) (y : List Int) : St := St.mk [(4, SV.av (AV.one (Lf.ptr 60400 0 0 0 0))), (6, SV.av (AV.one (Lf.ptr 60401 0 0 0 0)))] [(60400, Blk.cells 35 [Lf.dat (K.arr 16 (K.int IntKind.u8)) [0, 0, 0, 0, 0, 0, 0, 0, 0, 0, 0, 0, 0, 0, 0, 0]]), (60401, Blk.cells 35 [Lf.dat (K.arr 16 (K.int IntKind.u8)) y])]
def f14_l4_E (p4_8 : List Int) : List Int → Ex × St
  | y => (Ex.exit 0, f14_l4_E0 p4_8 y)
noncomputable def f14_l4_t (p4_8 : List Int) (x : List Int × Int) : DT (Ex × St) ((List Int × Int) ⊕ (List Int)) :=
 (.ask (ilt (Prod.snd x) 16)
 (.need (ile 0 (Prod.snd x)) true
 (.need (ilt (Prod.snd x) 32) true
 (.need (nlt (Int.toNat (Prod.snd x)) 32) true
 (.sure (ile 0 (Prod.snd x)) true
 (.sure (ilt (Prod.snd x) 16) true
 (.need (nlt (Int.toNat (Prod.snd x)) 16) true
 (.leaf (Vam.Ex.normal, St.mk [(4, SV.av (AV.one (Lf.ptr 30400 0 0 0 0))), (5, SV.av (AV.one (Lf.ptr 30401 0 0 0 0))), (6, SV.av (AV.one (Lf.ptr 30402 0 0 0 0))), (7, SV.av (AV.one (Lf.v (Value.int IntKind.i64 (iadd IntKind.i64 (Prod.snd x) 1)))))] [(30400, Blk.cells 35 [Lf.dat (K.arr 16 (K.int IntKind.u8)) [0, 0, 0, 0, 0, 0, 0, 0, 0, 0, 0, 0, 0, 0, 0, 0]]), (30401, Blk.cells 31 [Lf.dat (K.arr 32 (K.int IntKind.u8)) p4_8]), (30402, Blk.cells 35 [Lf.dat (K.arr 16 (K.int IntKind.u8)) (List.set (Prod.fst x) (Int.toNat (Prod.snd x)) (gd (K.int IntKind.u8) p4_8 (Int.toNat (Prod.snd x))))])]) (.inl ((List.set (Prod.fst x) (Int.toNat (Prod.snd x)) (gd (K.int IntKind.u8) p4_8 (Int.toNat (Prod.snd x))), iadd IntKind.i64 (Prod.snd x) 1))))))))))
 (.leaf (Ex.exit 0, St.mk [(4, SV.av (AV.one (Lf.ptr 30400 0 0 0 0))), (5, SV.av (AV.one (Lf.ptr 30401 0 0 0 0))), (6, SV.av (AV.one (Lf.ptr 30402 0 0 0 0))), (7, SV.av (AV.one (Lf.v (Value.int IntKind.i64 (Prod.snd x)))))] [(30400, Blk.cells 35 [Lf.dat (K.arr 16 (K.int IntKind.u8)) [0, 0, 0, 0, 0, 0, 0, 0, 0, 0, 0, 0, 0, 0, 0, 0]]), (30401, Blk.cells 31 [Lf.dat (K.arr 32 (K.int IntKind.u8)) p4_8]), (30402, Blk.cells 35 [Lf.dat (K.arr 16 (K.int IntKind.u8)) (Prod.fst x)])]) (.inr (Prod.fst x))))
theorem f14_l4_v (p4_8 : List Int) (x : List Int × Int) : vc (execK P noG Tryd.f14.ntmps f14_hn [4, 5, 6, 7] (loopOf Tryd.f14 4) (f14_l4_D p4_8 x)) (f14_l4_t p4_8 x) = vcT (f14_l4_t p4_8 x) := by kernel_rfl
theorem f14_l4_o (d : Nat) (p4_8 : List Int) (x : List Int × Int) : obl (Snd P noG) (Lp P noG Tryd.f14.ntmps [] f14_hn d) (RelL Tryd.f14.ntmps noG [] (f14_l4_D p4_8) (f14_l4_E p4_8)) (f14_l4_t p4_8 x) := by
 unfold f14_l4_t
 exact (oAsk (fun h0 => (oNeed fun h1 => (oNeed fun h2 => (oNeed fun h3 => (oSure h1 (oSure h0 (oNeed fun h4 => (oLeaf (relN (wk_tw [(30402, 30402), (30401, 30401), (30400, 30400)] [4, 5, 6, 7] [] (by kernel_rfl) (by kernel_rfl)))))))))))
 (fun h0 => (oLeaf (relE rfl (wk_tw [(30402, 60401), (30400, 60400)] [4, 6] [] (by kernel_rfl) (by kernel_rfl))))))
noncomputable def f14_l4_m (p4_8 : List Int) (x : List Int × Int) : Option (List Int) := lrun (fun x => mod (f14_l4_t p4_8 x)) x
theorem f14_l4_e (p4_8 : List Int) (x : List Int × Int) : mod (f14_l4_t p4_8 x) =
 (sel (ilt (Prod.snd x) 16)
 (sel (ile 0 (Prod.snd x))
 (sel (ilt (Prod.snd x) 32)
 (sel (nlt (Int.toNat (Prod.snd x)) 32)
 (sel (nlt (Int.toNat (Prod.snd x)) 16)
 (some ((.inl ((List.set (Prod.fst x) (Int.toNat (Prod.snd x)) (gd (K.int IntKind.u8) p4_8 (Int.toNat (Prod.snd x))), iadd IntKind.i64 (Prod.snd x) 1))))) none) none) none) none)
 (some ((.inr (Prod.fst x))))) := by kernel_rfl
theorem f14_l4_s0 (d : Nat) {p4_8 : List Int} {σ : St} {x : List Int × Int} {z : List Int} (h : f14_l4_m p4_8 x = some z) (hw : Wk Tryd.f14.ntmps noG [] σ (f14_l4_D p4_8 x)) : Lp P noG Tryd.f14.ntmps [] f14_hn (d + 1) (loopOf Tryd.f14 4) σ (Ex.exit 0) (f14_l4_E0 p4_8 z) :=
 lp_tree (D := f14_l4_D p4_8) (E := f14_l4_E p4_8) (f14_l4_v p4_8) (f14_l4_o d p4_8) h hw
def f14_R (a0 : ByteArray) (a1 : List ByteArray) : List Int → SV × Hp
  | z => (SV.av (AV.one (Lf.dat (K.arr 16 (K.int IntKind.u8)) z)), [])
noncomputable def f14_t (a0 : ByteArray) (a1 : List ByteArray) : DT (SV × Hp) (List Int) :=
 (.call 12 [AV.one (Lf.v (Value.string a0)), AV.one (Lf.dat (K.sl K.str) a1)] [] (f12_m a0 a1) (fun z46 => SV.av (AV.one (Lf.dat (K.arr 32 (K.int IntKind.u8)) z46))) (fun z46 => []) fun z46 =>
 (.loop (loopOf Tryd.f14 4) (St.mk [(4, SV.av (AV.one (Lf.ptr 4 0 0 0 0))), (5, SV.av (AV.one (Lf.ptr 5 0 0 0 0))), (6, SV.av (AV.one (Lf.ptr 6 0 0 0 0))), (7, SV.av (AV.one (Lf.v (Value.int IntKind.i64 0))))] [(4, Blk.cells 35 [Lf.dat (K.arr 16 (K.int IntKind.u8)) [0, 0, 0, 0, 0, 0, 0, 0, 0, 0, 0, 0, 0, 0, 0, 0]]), (5, Blk.cells 31 [Lf.dat (K.arr 32 (K.int IntKind.u8)) z46]), (6, Blk.cells 35 [Lf.dat (K.arr 16 (K.int IntKind.u8)) [0, 0, 0, 0, 0, 0, 0, 0, 0, 0, 0, 0, 0, 0, 0, 0]])]) (f14_l4_m z46 ([0, 0, 0, 0, 0, 0, 0, 0, 0, 0, 0, 0, 0, 0, 0, 0], 0)) (Ex.exit 0) (f14_l4_E0 z46) fun z47 =>
 (.leaf (SV.av (AV.one (Lf.dat (K.arr 16 (K.int IntKind.u8)) z47)), [(60400, Blk.cells 35 [Lf.dat (K.arr 16 (K.int IntKind.u8)) z47]), (60401, Blk.cells 35 [Lf.dat (K.arr 16 (K.int IntKind.u8)) z47])]) (z47))))
theorem f14_v (a0 : ByteArray) (a1 : List ByteArray) : vc (runR P noG Tryd.f14 f14_hn [AV.one (Lf.v (Value.string a0)), AV.one (Lf.dat (K.sl K.str) a1)] []) (f14_t a0 a1) = vcT (f14_t a0 a1) := by kernel_rfl
theorem f14_o (a0 : ByteArray) (a1 : List ByteArray) : obl (Snd P noG) (Lp P noG Tryd.f14.ntmps [] f14_hn 1) (RelF [] (f14_R a0 a1)) (f14_t a0 a1) := by
 unfold f14_t
 exact (oCall (fun _ e => f12_s e) fun z46 _ =>
 (oLoop (fun _ e => f14_l4_s0 0 e (wk_tw [(6, 30402), (5, 30401), (4, 30400)] [4, 5, 6, 7] [] (by kernel_rfl) (by kernel_rfl))) fun z47 _ =>
 (oLeaf (wks_tw [] [] (by kernel_rfl) (by kernel_rfl)))))
noncomputable def f14_m (a0 : ByteArray) (a1 : List ByteArray) : Option (List Int) := mod (f14_t a0 a1)
theorem f14_e (a0 : ByteArray) (a1 : List ByteArray) : f14_m a0 a1 =
 (Option.bind (f12_m a0 a1) fun z46 =>
 (Option.bind (f14_l4_m z46 ([0, 0, 0, 0, 0, 0, 0, 0, 0, 0, 0, 0, 0, 0, 0, 0], 0)) fun z47 =>
 (some ((z47))))) := by kernel_rfl
theorem f14_s {a0 : ByteArray} {a1 : List ByteArray} {z : List Int} (h : f14_m a0 a1 = some z) : Snd P noG 14 [AV.one (Lf.v (Value.string a0)), AV.one (Lf.dat (K.sl K.str) a1)] [] (SV.av (AV.one (Lf.dat (K.arr 16 (K.int IntKind.u8)) z))) [] :=
 snd_tree (hn := f14_hn) 1 (f14_R a0 a1) mixed (by kernel_rfl) (by kernel_rfl) (by kernel_rfl) (by kernel_rfl) (by kernel_rfl) (f14_v a0 a1) (f14_o a0 a1) h
def f16_hn : Hn := Hn.mk [] [] [] [] [(4, [0, 3, 4])]
def f16_l3_D (p3_0 : Int) (x : List Int × Int) : St := St.mk [(0, SV.av (AV.one (Lf.v (Value.int IntKind.u64 p3_0)))), (3, SV.av (AV.one (Lf.ptr 30300 0 0 0 0))), (4, SV.av (AV.one (Lf.v (Value.int IntKind.i64 (Prod.snd x)))))] [(30300, Blk.cells 55 [Lf.dat (K.arr 8 (K.int IntKind.u8)) (Prod.fst x)])]
def f16_l3_E0 (p3_0 : Int) (y : List Int) : St := St.mk [(3, SV.av (AV.one (Lf.ptr 60300 0 0 0 0)))] [(60300, Blk.cells 55 [Lf.dat (K.arr 8 (K.int IntKind.u8)) y])]
def f16_l3_E (p3_0 : Int) : List Int → Ex × St
  | y => (Ex.exit 0, f16_l3_E0 p3_0 y)
noncomputable def f16_l3_t (p3_0 : Int) (x : List Int × Int) : DT (Ex × St) ((List Int × Int) ⊕ (List Int)) :=
 (.ask (ilt (Prod.snd x) 8)
 (.need (ile 0 (imul IntKind.i64 8 (Prod.snd x))) true
 (.need (ile 0 (Prod.snd x)) true
 (.sure (ilt (Prod.snd x) 8) true
 (.need (nlt (Int.toNat (Prod.snd x)) 8) true
 (.leaf (Vam.Ex.normal, St.mk [(0, SV.av (AV.one (Lf.v (Value.int IntKind.u64 p3_0)))), (3, SV.av (AV.one (Lf.ptr 30300 0 0 0 0))), (4, SV.av (AV.one (Lf.v (Value.int IntKind.i64 (iadd IntKind.i64 (Prod.snd x) 1)))))] [(30300, Blk.cells 55 [Lf.dat (K.arr 8 (K.int IntKind.u8)) (List.set (Prod.fst x) (Int.toNat (Prod.snd x)) (icv IntKind.u8 (shr IntKind.u64 p3_0 (imul IntKind.i64 8 (Prod.snd x)))))])]) (.inl ((List.set (Prod.fst x) (Int.toNat (Prod.snd x)) (icv IntKind.u8 (shr IntKind.u64 p3_0 (imul IntKind.i64 8 (Prod.snd x)))), iadd IntKind.i64 (Prod.snd x) 1))))))))
 (.leaf (Ex.exit 0, St.mk [(0, SV.av (AV.one (Lf.v (Value.int IntKind.u64 p3_0)))), (3, SV.av (AV.one (Lf.ptr 30300 0 0 0 0))), (4, SV.av (AV.one (Lf.v (Value.int IntKind.i64 (Prod.snd x)))))] [(30300, Blk.cells 55 [Lf.dat (K.arr 8 (K.int IntKind.u8)) (Prod.fst x)])]) (.inr (Prod.fst x))))
theorem f16_l3_v (p3_0 : Int) (x : List Int × Int) : vc (execK P noG Tryd.f16.ntmps f16_hn [0, 3, 4] (loopOf Tryd.f16 3) (f16_l3_D p3_0 x)) (f16_l3_t p3_0 x) = vcT (f16_l3_t p3_0 x) := by kernel_rfl
theorem f16_l3_o (d : Nat) (p3_0 : Int) (x : List Int × Int) : obl (Snd P noG) (Lp P noG Tryd.f16.ntmps [] f16_hn d) (RelL Tryd.f16.ntmps noG [] (f16_l3_D p3_0) (f16_l3_E p3_0)) (f16_l3_t p3_0 x) := by
 unfold f16_l3_t
 exact (oAsk (fun h0 => (oNeed fun h1 => (oNeed fun h2 => (oSure h0 (oNeed fun h3 => (oLeaf (relN (wk_tw [(30300, 30300)] [0, 3, 4] [] (by kernel_rfl) (by kernel_rfl)))))))))
 (fun h0 => (oLeaf (relE rfl (wk_tw [(30300, 60300)] [3] [] (by kernel_rfl) (by kernel_rfl))))))
noncomputable def f16_l3_m (p3_0 : Int) (x : List Int × Int) : Option (List Int) := lrun (fun x => mod (f16_l3_t p3_0 x)) x
theorem f16_l3_e (p3_0 : Int) (x : List Int × Int) : mod (f16_l3_t p3_0 x) =
 (sel (ilt (Prod.snd x) 8)
 (sel (ile 0 (imul IntKind.i64 8 (Prod.snd x)))
 (sel (ile 0 (Prod.snd x))
 (sel (nlt (Int.toNat (Prod.snd x)) 8)
 (some ((.inl ((List.set (Prod.fst x) (Int.toNat (Prod.snd x)) (icv IntKind.u8 (shr IntKind.u64 p3_0 (imul IntKind.i64 8 (Prod.snd x)))), iadd IntKind.i64 (Prod.snd x) 1))))) none) none) none)
 (some ((.inr (Prod.fst x))))) := by kernel_rfl
theorem f16_l3_s0 (d : Nat) {p3_0 : Int} {σ : St} {x : List Int × Int} {z : List Int} (h : f16_l3_m p3_0 x = some z) (hw : Wk Tryd.f16.ntmps noG [] σ (f16_l3_D p3_0 x)) : Lp P noG Tryd.f16.ntmps [] f16_hn (d + 1) (loopOf Tryd.f16 3) σ (Ex.exit 0) (f16_l3_E0 p3_0 z) :=
 lp_tree (D := f16_l3_D p3_0) (E := f16_l3_E p3_0) (f16_l3_v p3_0) (f16_l3_o d p3_0) h hw
def f16_R (a0 : Int) : ByteArray → SV × Hp
  | z => (SV.av (AV.one (Lf.v (Value.string z))), [])
noncomputable def f16_t (a0 : Int) : DT (SV × Hp) (ByteArray) :=
 (.loop (loopOf Tryd.f16 3) (St.mk [(0, SV.av (AV.one (Lf.v (Value.int IntKind.u64 a0)))), (3, SV.av (AV.one (Lf.ptr 3 0 0 0 0))), (4, SV.av (AV.one (Lf.v (Value.int IntKind.i64 0))))] [(3, Blk.cells 55 [Lf.dat (K.arr 8 (K.int IntKind.u8)) [0, 0, 0, 0, 0, 0, 0, 0]])]) (f16_l3_m a0 ([0, 0, 0, 0, 0, 0, 0, 0], 0)) (Ex.exit 0) (f16_l3_E0 a0) fun z7 =>
 (.sure (true) true
 (.sure (true) true
 (.pick true (.sure (true) true
 (.leaf (SV.av (AV.one (Lf.v (Value.string (strOfNums z7)))), [(60300, Blk.cells 55 [Lf.dat (K.arr 8 (K.int IntKind.u8)) z7])]) (strOfNums z7)))))))
theorem f16_v (a0 : Int) : vc (runR P noG Tryd.f16 f16_hn [AV.one (Lf.v (Value.int IntKind.u64 a0))] []) (f16_t a0) = vcT (f16_t a0) := by kernel_rfl
theorem f16_o (a0 : Int) : obl (Snd P noG) (Lp P noG Tryd.f16.ntmps [] f16_hn 1) (RelF [] (f16_R a0)) (f16_t a0) := by
 unfold f16_t
 exact (oLoop (fun _ e => f16_l3_s0 0 e (wk_tw [(3, 30300)] [0, 3, 4] [] (by kernel_rfl) (by kernel_rfl))) fun z7 _ =>
 (oSure rfl (oSure rfl (oPick (oSure rfl (oLeaf (wks_tw [] [] (by kernel_rfl) (by kernel_rfl))))))))
noncomputable def f16_m (a0 : Int) : Option (ByteArray) := mod (f16_t a0)
theorem f16_e (a0 : Int) : f16_m a0 =
 (Option.bind (f16_l3_m a0 ([0, 0, 0, 0, 0, 0, 0, 0], 0)) fun z7 =>
 (some ((strOfNums z7)))) := by kernel_rfl
theorem f16_s {a0 : Int} {z : ByteArray} (h : f16_m a0 = some z) : Snd P noG 16 [AV.one (Lf.v (Value.int IntKind.u64 a0))] [] (SV.av (AV.one (Lf.v (Value.string z)))) [] :=
 snd_tree (hn := f16_hn) 1 (f16_R a0) mixed (by kernel_rfl) (by kernel_rfl) (by kernel_rfl) (by kernel_rfl) (by kernel_rfl) (f16_v a0) (f16_o a0) h
def f18_hn : Hn := Hn.mk [] [] [] [] [(4, [1, 4, 5, 6])]
def f18_l3_D (p3_0 : Int) (x : List Int × Int) : St := St.mk [(1, SV.av (AV.one (Lf.v (Value.int IntKind.u64 p3_0)))), (4, SV.av (AV.one (Lf.ptr 30300 0 0 0 0))), (5, SV.av (AV.one (Lf.ptr 30301 0 0 0 0))), (6, SV.av (AV.one (Lf.v (Value.int IntKind.i64 (Prod.snd x)))))] [(30300, Blk.cells 40 [Lf.dat (K.arr 12 (K.int IntKind.u8)) [0, 0, 0, 0, 0, 0, 0, 0, 0, 0, 0, 0]]), (30301, Blk.cells 40 [Lf.dat (K.arr 12 (K.int IntKind.u8)) (Prod.fst x)])]
def f18_l3_E0 (p3_0 : Int) (y : List Int) : St := St.mk [(4, SV.av (AV.one (Lf.ptr 60300 0 0 0 0))), (5, SV.av (AV.one (Lf.ptr 60301 0 0 0 0)))] [(60300, Blk.cells 40 [Lf.dat (K.arr 12 (K.int IntKind.u8)) [0, 0, 0, 0, 0, 0, 0, 0, 0, 0, 0, 0]]), (60301, Blk.cells 40 [Lf.dat (K.arr 12 (K.int IntKind.u8)) y])]
def f18_l3_E (p3_0 : Int) : List Int → Ex × St
  | y => (Ex.exit 0, f18_l3_E0 p3_0 y)
noncomputable def f18_l3_t (p3_0 : Int) (x : List Int × Int) : DT (Ex × St) ((List Int × Int) ⊕ (List Int)) :=
 (.ask (ilt (Prod.snd x) 8)
 (.need (ile 0 (imul IntKind.i64 8 (Prod.snd x))) true
 (.need (ile 0 (iadd IntKind.i64 4 (Prod.snd x))) true
 (.need (ilt (iadd IntKind.i64 4 (Prod.snd x)) 12) true
 (.need (nlt (Int.toNat (iadd IntKind.i64 4 (Prod.snd x))) 12) true
 (.leaf (Vam.Ex.normal, St.mk [(1, SV.av (AV.one (Lf.v (Value.int IntKind.u64 p3_0)))), (4, SV.av (AV.one (Lf.ptr 30300 0 0 0 0))), (5, SV.av (AV.one (Lf.ptr 30301 0 0 0 0))), (6, SV.av (AV.one (Lf.v (Value.int IntKind.i64 (iadd IntKind.i64 (Prod.snd x) 1)))))] [(30300, Blk.cells 40 [Lf.dat (K.arr 12 (K.int IntKind.u8)) [0, 0, 0, 0, 0, 0, 0, 0, 0, 0, 0, 0]]), (30301, Blk.cells 40 [Lf.dat (K.arr 12 (K.int IntKind.u8)) (List.set (Prod.fst x) (Int.toNat (iadd IntKind.i64 4 (Prod.snd x))) (icv IntKind.u8 (shr IntKind.u64 p3_0 (imul IntKind.i64 8 (Prod.snd x)))))])]) (.inl ((List.set (Prod.fst x) (Int.toNat (iadd IntKind.i64 4 (Prod.snd x))) (icv IntKind.u8 (shr IntKind.u64 p3_0 (imul IntKind.i64 8 (Prod.snd x)))), iadd IntKind.i64 (Prod.snd x) 1))))))))
 (.leaf (Ex.exit 0, St.mk [(1, SV.av (AV.one (Lf.v (Value.int IntKind.u64 p3_0)))), (4, SV.av (AV.one (Lf.ptr 30300 0 0 0 0))), (5, SV.av (AV.one (Lf.ptr 30301 0 0 0 0))), (6, SV.av (AV.one (Lf.v (Value.int IntKind.i64 (Prod.snd x)))))] [(30300, Blk.cells 40 [Lf.dat (K.arr 12 (K.int IntKind.u8)) [0, 0, 0, 0, 0, 0, 0, 0, 0, 0, 0, 0]]), (30301, Blk.cells 40 [Lf.dat (K.arr 12 (K.int IntKind.u8)) (Prod.fst x)])]) (.inr (Prod.fst x))))
theorem f18_l3_v (p3_0 : Int) (x : List Int × Int) : vc (execK P noG Tryd.f18.ntmps f18_hn [1, 4, 5, 6] (loopOf Tryd.f18 3) (f18_l3_D p3_0 x)) (f18_l3_t p3_0 x) = vcT (f18_l3_t p3_0 x) := by kernel_rfl
theorem f18_l3_o (d : Nat) (p3_0 : Int) (x : List Int × Int) : obl (Snd P noG) (Lp P noG Tryd.f18.ntmps [] f18_hn d) (RelL Tryd.f18.ntmps noG [] (f18_l3_D p3_0) (f18_l3_E p3_0)) (f18_l3_t p3_0 x) := by
 unfold f18_l3_t
 exact (oAsk (fun h0 => (oNeed fun h1 => (oNeed fun h2 => (oNeed fun h3 => (oNeed fun h4 => (oLeaf (relN (wk_tw [(30301, 30301), (30300, 30300)] [1, 4, 5, 6] [] (by kernel_rfl) (by kernel_rfl)))))))))
 (fun h0 => (oLeaf (relE rfl (wk_tw [(30301, 60301), (30300, 60300)] [4, 5] [] (by kernel_rfl) (by kernel_rfl))))))
noncomputable def f18_l3_m (p3_0 : Int) (x : List Int × Int) : Option (List Int) := lrun (fun x => mod (f18_l3_t p3_0 x)) x
theorem f18_l3_e (p3_0 : Int) (x : List Int × Int) : mod (f18_l3_t p3_0 x) =
 (sel (ilt (Prod.snd x) 8)
 (sel (ile 0 (imul IntKind.i64 8 (Prod.snd x)))
 (sel (ile 0 (iadd IntKind.i64 4 (Prod.snd x)))
 (sel (ilt (iadd IntKind.i64 4 (Prod.snd x)) 12)
 (sel (nlt (Int.toNat (iadd IntKind.i64 4 (Prod.snd x))) 12)
 (some ((.inl ((List.set (Prod.fst x) (Int.toNat (iadd IntKind.i64 4 (Prod.snd x))) (icv IntKind.u8 (shr IntKind.u64 p3_0 (imul IntKind.i64 8 (Prod.snd x)))), iadd IntKind.i64 (Prod.snd x) 1))))) none) none) none) none)
 (some ((.inr (Prod.fst x))))) := by kernel_rfl
theorem f18_l3_s0 (d : Nat) {p3_0 : Int} {σ : St} {x : List Int × Int} {z : List Int} (h : f18_l3_m p3_0 x = some z) (hw : Wk Tryd.f18.ntmps noG [] σ (f18_l3_D p3_0 x)) : Lp P noG Tryd.f18.ntmps [] f18_hn (d + 1) (loopOf Tryd.f18 3) σ (Ex.exit 0) (f18_l3_E0 p3_0 z) :=
 lp_tree (D := f18_l3_D p3_0) (E := f18_l3_E p3_0) (f18_l3_v p3_0) (f18_l3_o d p3_0) h hw
def f18_R (a0 : Int) (a1 : Int) : List Int → SV × Hp
  | z => (SV.av (AV.one (Lf.dat (K.arr 12 (K.int IntKind.u8)) z)), [])
noncomputable def f18_t (a0 : Int) (a1 : Int) : DT (SV × Hp) (List Int) :=
 (.sure (true) true
 (.sure (true) true
 (.sure (true) true
 (.loop (loopOf Tryd.f18 3) (St.mk [(1, SV.av (AV.one (Lf.v (Value.int IntKind.u64 a1)))), (4, SV.av (AV.one (Lf.ptr 4 0 0 0 0))), (5, SV.av (AV.one (Lf.ptr 5 0 0 0 0))), (6, SV.av (AV.one (Lf.v (Value.int IntKind.i64 0))))] [(4, Blk.cells 40 [Lf.dat (K.arr 12 (K.int IntKind.u8)) [0, 0, 0, 0, 0, 0, 0, 0, 0, 0, 0, 0]]), (5, Blk.cells 40 [Lf.dat (K.arr 12 (K.int IntKind.u8)) [icv IntKind.u8 a0, icv IntKind.u8 (shr IntKind.u32 a0 8), icv IntKind.u8 (shr IntKind.u32 a0 16), icv IntKind.u8 (shr IntKind.u32 a0 24), 0, 0, 0, 0, 0, 0, 0, 0]])]) (f18_l3_m a1 ([icv IntKind.u8 a0, icv IntKind.u8 (shr IntKind.u32 a0 8), icv IntKind.u8 (shr IntKind.u32 a0 16), icv IntKind.u8 (shr IntKind.u32 a0 24), 0, 0, 0, 0, 0, 0, 0, 0], 0)) (Ex.exit 0) (f18_l3_E0 a1) fun z8 =>
 (.leaf (SV.av (AV.one (Lf.dat (K.arr 12 (K.int IntKind.u8)) z8)), [(60300, Blk.cells 40 [Lf.dat (K.arr 12 (K.int IntKind.u8)) z8]), (60301, Blk.cells 40 [Lf.dat (K.arr 12 (K.int IntKind.u8)) z8])]) (z8))))))
theorem f18_v (a0 : Int) (a1 : Int) : vc (runR P noG Tryd.f18 f18_hn [AV.one (Lf.v (Value.int IntKind.u32 a0)), AV.one (Lf.v (Value.int IntKind.u64 a1))] []) (f18_t a0 a1) = vcT (f18_t a0 a1) := by kernel_rfl
theorem f18_o (a0 : Int) (a1 : Int) : obl (Snd P noG) (Lp P noG Tryd.f18.ntmps [] f18_hn 1) (RelF [] (f18_R a0 a1)) (f18_t a0 a1) := by
 unfold f18_t
 exact (oSure rfl (oSure rfl (oSure rfl (oLoop (fun _ e => f18_l3_s0 0 e (wk_tw [(5, 30301), (4, 30300)] [1, 4, 5, 6] [] (by kernel_rfl) (by kernel_rfl))) fun z8 _ =>
 (oLeaf (wks_tw [] [] (by kernel_rfl) (by kernel_rfl)))))))
noncomputable def f18_m (a0 : Int) (a1 : Int) : Option (List Int) := mod (f18_t a0 a1)
theorem f18_e (a0 : Int) (a1 : Int) : f18_m a0 a1 =
 (Option.bind (f18_l3_m a1 ([icv IntKind.u8 a0, icv IntKind.u8 (shr IntKind.u32 a0 8), icv IntKind.u8 (shr IntKind.u32 a0 16), icv IntKind.u8 (shr IntKind.u32 a0 24), 0, 0, 0, 0, 0, 0, 0, 0], 0)) fun z8 =>
 (some ((z8)))) := by kernel_rfl
theorem f18_s {a0 : Int} {a1 : Int} {z : List Int} (h : f18_m a0 a1 = some z) : Snd P noG 18 [AV.one (Lf.v (Value.int IntKind.u32 a0)), AV.one (Lf.v (Value.int IntKind.u64 a1))] [] (SV.av (AV.one (Lf.dat (K.arr 12 (K.int IntKind.u8)) z))) [] :=
 snd_tree (hn := f18_hn) 1 (f18_R a0 a1) mixed (by kernel_rfl) (by kernel_rfl) (by kernel_rfl) (by kernel_rfl) (by kernel_rfl) (f18_v a0 a1) (f18_o a0 a1) h
def f19_hn : Hn := Hn.mk [] [] [] [] [(5, [0, 1, 5])]
def f19_l4_D (p4_0 : List ByteArray) (p4_1 : List ByteArray) (x : Int) : St := St.mk [(0, SV.av (AV.one (Lf.dat (K.sl K.str) p4_0))), (1, SV.av (AV.one (Lf.dat (K.sl K.str) p4_1))), (5, SV.av (AV.one (Lf.v (Value.int IntKind.i64 x))))] []
def f19_l4_E0 (p4_0 : List ByteArray) (p4_1 : List ByteArray) (y : Unit) : St := St.mk [(4, SV.av (AV.one (Lf.v (Value.bool false))))] []
def f19_l4_E1 (p4_0 : List ByteArray) (p4_1 : List ByteArray) (y : Unit) : St := St.mk [] []
def f19_l4_E (p4_0 : List ByteArray) (p4_1 : List ByteArray) : Unit ⊕ Unit → Ex × St
  | (.inl y) => (Ex.ret, f19_l4_E0 p4_0 p4_1 y)
  | (.inr y) => (Ex.exit 0, f19_l4_E1 p4_0 p4_1 y)
noncomputable def f19_l4_t (p4_0 : List ByteArray) (p4_1 : List ByteArray) (x : Int) : DT (Ex × St) ((Int) ⊕ (Unit ⊕ Unit)) :=
 (.ask (ilt x (llen p4_0))
 (.need (ile 0 x) true
 (.sure (ilt x (llen p4_0)) true
 (.sure (ile 0 x) true
 (.need (ilt x (llen p4_1)) true
 (.ask (bno (seq (gd K.str p4_0 (Int.toNat x)) (gd K.str p4_1 (Int.toNat x))))
 (.leaf (Ex.ret, St.mk [(0, SV.av (AV.one (Lf.dat (K.sl K.str) p4_0))), (1, SV.av (AV.one (Lf.dat (K.sl K.str) p4_1))), (4, SV.av (AV.one (Lf.v (Value.bool false)))), (5, SV.av (AV.one (Lf.v (Value.int IntKind.i64 x))))] []) (.inr (.inl (()))))
 (.leaf (Vam.Ex.normal, St.mk [(0, SV.av (AV.one (Lf.dat (K.sl K.str) p4_0))), (1, SV.av (AV.one (Lf.dat (K.sl K.str) p4_1))), (5, SV.av (AV.one (Lf.v (Value.int IntKind.i64 (iadd IntKind.i64 x 1)))))] []) (.inl (iadd IntKind.i64 x 1))))))))
 (.leaf (Ex.exit 0, St.mk [(0, SV.av (AV.one (Lf.dat (K.sl K.str) p4_0))), (1, SV.av (AV.one (Lf.dat (K.sl K.str) p4_1))), (5, SV.av (AV.one (Lf.v (Value.int IntKind.i64 x))))] []) (.inr (.inr (())))))
theorem f19_l4_v (p4_0 : List ByteArray) (p4_1 : List ByteArray) (x : Int) : vc (execK P noG Tryd.f19.ntmps f19_hn [0, 1, 4, 5] (loopOf Tryd.f19 4) (f19_l4_D p4_0 p4_1 x)) (f19_l4_t p4_0 p4_1 x) = vcT (f19_l4_t p4_0 p4_1 x) := by kernel_rfl
theorem f19_l4_o (d : Nat) (p4_0 : List ByteArray) (p4_1 : List ByteArray) (x : Int) : obl (Snd P noG) (Lp P noG Tryd.f19.ntmps [] f19_hn d) (RelL Tryd.f19.ntmps noG [] (f19_l4_D p4_0 p4_1) (f19_l4_E p4_0 p4_1)) (f19_l4_t p4_0 p4_1 x) := by
 unfold f19_l4_t
 exact (oAsk (fun h0 => (oNeed fun h1 => (oSure h0 (oSure h1 (oNeed fun h2 => (oAsk (fun h3 => (oLeaf (relR rfl (wk_tw [] [4] [] (by kernel_rfl) (by kernel_rfl)))))
 (fun h3 => (oLeaf (relN (wk_tw [] [0, 1, 5] [] (by kernel_rfl) (by kernel_rfl)))))))))))
 (fun h0 => (oLeaf (relE rfl (wk_tw [] [] [] (by kernel_rfl) (by kernel_rfl))))))
noncomputable def f19_l4_m (p4_0 : List ByteArray) (p4_1 : List ByteArray) (x : Int) : Option (Unit ⊕ Unit) := lrun (fun x => mod (f19_l4_t p4_0 p4_1 x)) x
theorem f19_l4_e (p4_0 : List ByteArray) (p4_1 : List ByteArray) (x : Int) : mod (f19_l4_t p4_0 p4_1 x) =
 (sel (ilt x (llen p4_0))
 (sel (ile 0 x)
 (sel (ilt x (llen p4_1))
 (sel (bno (seq (gd K.str p4_0 (Int.toNat x)) (gd K.str p4_1 (Int.toNat x))))
 (some ((.inr (.inl (())))))
 (some ((.inl (iadd IntKind.i64 x 1))))) none) none)
 (some ((.inr (.inr (())))))) := by kernel_rfl
theorem f19_l4_s0 (d : Nat) {p4_0 : List ByteArray} {p4_1 : List ByteArray} {σ : St} {x : Int} {z : Unit} (h : f19_l4_m p4_0 p4_1 x = some (.inl z)) (hw : Wk Tryd.f19.ntmps noG [] σ (f19_l4_D p4_0 p4_1 x)) : Lp P noG Tryd.f19.ntmps [] f19_hn (d + 1) (loopOf Tryd.f19 4) σ (Ex.ret) (f19_l4_E0 p4_0 p4_1 z) :=
 lp_tree (D := f19_l4_D p4_0 p4_1) (E := f19_l4_E p4_0 p4_1) (f19_l4_v p4_0 p4_1) (f19_l4_o d p4_0 p4_1) h hw
theorem f19_l4_s1 (d : Nat) {p4_0 : List ByteArray} {p4_1 : List ByteArray} {σ : St} {x : Int} {z : Unit} (h : f19_l4_m p4_0 p4_1 x = some (.inr z)) (hw : Wk Tryd.f19.ntmps noG [] σ (f19_l4_D p4_0 p4_1 x)) : Lp P noG Tryd.f19.ntmps [] f19_hn (d + 1) (loopOf Tryd.f19 4) σ (Ex.exit 0) (f19_l4_E1 p4_0 p4_1 z) :=
 lp_tree (D := f19_l4_D p4_0 p4_1) (E := f19_l4_E p4_0 p4_1) (f19_l4_v p4_0 p4_1) (f19_l4_o d p4_0 p4_1) h hw
def f19_R (a0 : List ByteArray) (a1 : List ByteArray) : Bool → SV × Hp
  | z => (SV.av (AV.one (Lf.v (Value.bool z))), [])
noncomputable def f19_t (a0 : List ByteArray) (a1 : List ByteArray) : DT (SV × Hp) (Bool) :=
 (.ask (bno (ieq (llen a0) (llen a1)))
 (.leaf (SV.av (AV.one (Lf.v (Value.bool false))), []) (false))
 (.loop2 (loopOf Tryd.f19 4) (St.mk [(0, SV.av (AV.one (Lf.dat (K.sl K.str) a0))), (1, SV.av (AV.one (Lf.dat (K.sl K.str) a1))), (5, SV.av (AV.one (Lf.v (Value.int IntKind.i64 0))))] []) (f19_l4_m a0 a1 0) (Ex.ret) (f19_l4_E0 a0 a1) (Ex.exit 0) (f19_l4_E1 a0 a1) (fun z8 =>
 (.leaf (SV.av (AV.one (Lf.v (Value.bool false))), []) (false))) fun z9 =>
 (.leaf (SV.av (AV.one (Lf.v (Value.bool true))), []) (true))))
theorem f19_v (a0 : List ByteArray) (a1 : List ByteArray) : vc (runR P noG Tryd.f19 f19_hn [AV.one (Lf.dat (K.sl K.str) a0), AV.one (Lf.dat (K.sl K.str) a1)] []) (f19_t a0 a1) = vcT (f19_t a0 a1) := by kernel_rfl
theorem f19_o (a0 : List ByteArray) (a1 : List ByteArray) : obl (Snd P noG) (Lp P noG Tryd.f19.ntmps [] f19_hn 1) (RelF [] (f19_R a0 a1)) (f19_t a0 a1) := by
 unfold f19_t
 exact (oAsk (fun h0 => (oLeaf (wks_tw [] [] (by kernel_rfl) (by kernel_rfl))))
 (fun h0 => (oLoop2 (fun _ e => f19_l4_s0 0 e (wk_tw [] [0, 1, 5] [] (by kernel_rfl) (by kernel_rfl))) (fun _ e => f19_l4_s1 0 e (wk_tw [] [0, 1, 5] [] (by kernel_rfl) (by kernel_rfl))) (fun z8 _ =>
 (oLeaf (wks_tw [] [] (by kernel_rfl) (by kernel_rfl)))) fun z9 _ =>
 (oLeaf (wks_tw [] [] (by kernel_rfl) (by kernel_rfl))))))
noncomputable def f19_m (a0 : List ByteArray) (a1 : List ByteArray) : Option (Bool) := mod (f19_t a0 a1)
theorem f19_e (a0 : List ByteArray) (a1 : List ByteArray) : f19_m a0 a1 =
 (sel (bno (ieq (llen a0) (llen a1)))
 (some ((false)))
 (Option.bind (f19_l4_m a0 a1 0) (Sum.elim (fun z8 =>
 (some ((false)))) fun z9 =>
 (some ((true)))))) := by kernel_rfl
theorem f19_s {a0 : List ByteArray} {a1 : List ByteArray} {z : Bool} (h : f19_m a0 a1 = some z) : Snd P noG 19 [AV.one (Lf.dat (K.sl K.str) a0), AV.one (Lf.dat (K.sl K.str) a1)] [] (SV.av (AV.one (Lf.v (Value.bool z)))) [] :=
 snd_tree (hn := f19_hn) 1 (f19_R a0 a1) mixed (by kernel_rfl) (by kernel_rfl) (by kernel_rfl) (by kernel_rfl) (by kernel_rfl) (f19_v a0 a1) (f19_o a0 a1) h
def f3_hn : Hn := Hn.mk [(5001, [(1000000, 31)]), (5008, [(1000000, 31)]), (5017, [(1000000, 31)]), (5042, [(1000000, 31)])] [] [] [] []
def f3_R (a0_0 : ByteArray) (a0_1 : List ByteArray) (a0_2 : Int) (a0_3 : Int) : Bool → SV × Hp
  | z => (SV.av (AV.one (Lf.v (Value.bool z))), [])
noncomputable def f3_t (a0_0 : ByteArray) (a0_1 : List ByteArray) (a0_2 : Int) (a0_3 : Int) : DT (SV × Hp) (Bool) :=
 (.ask (ilt 200 (ssz a0_0))
 (.sure (ilt 200 (ssz a0_0)) true
 (.sure (ilt 200 (ssz a0_0)) true
 (.sure (true) true
 (.sure (true) true
 (.sure (true) true
 (.sure (true) true
 (.sure (true) true
 (.call 8 [] [] (f8_m) (fun z196 => SV.av (AV.one (Lf.v (Value.bool z196)))) (fun z196 => []) fun z196 =>
 (.leaf (SV.av (AV.one (Lf.v (Value.bool z196))), [(1, Blk.cells 26 [Lf.v (Value.string a0_0), Lf.dat (K.sl K.str) a0_1, Lf.v (Value.int IntKind.u32 a0_2), Lf.v (Value.int IntKind.u64 a0_3)])]) (z196))))))))))
 (.sure (ilt 200 (ssz a0_0)) false
 (.call 7 [AV.one (Lf.dat (K.sl K.str) a0_1), AV.one (Lf.v (Value.int IntKind.i64 400))] [] (f7_m a0_1 400) (fun z204 => SV.av (AV.one (Lf.v (Value.bool z204)))) (fun z204 => []) fun z204 =>
 (.sure (ilt 200 (ssz a0_0)) false
 (.ask (z204)
 (.sure (z204) true
 (.sure (z204) true
 (.sure (z204) true
 (.sure (true) true
 (.call 8 [] [] (f8_m) (fun z206 => SV.av (AV.one (Lf.v (Value.bool z206)))) (fun z206 => []) fun z206 =>
 (.leaf (SV.av (AV.one (Lf.v (Value.bool z206))), [(1, Blk.cells 26 [Lf.v (Value.string a0_0), Lf.dat (K.sl K.str) a0_1, Lf.v (Value.int IntKind.u32 a0_2), Lf.v (Value.int IntKind.u64 a0_3)])]) (z206)))))))
 (.sure (z204) false
 (.sure (z204) false
 (.sure (z204) false
 (.ask (ilt 100 (llen a0_1))
 (.call 8 [] [] (f8_m) (fun z208 => SV.av (AV.one (Lf.v (Value.bool z208)))) (fun z208 => []) fun z208 =>
 (.leaf (SV.av (AV.one (Lf.v (Value.bool z208))), [(1, Blk.cells 26 [Lf.v (Value.string a0_0), Lf.dat (K.sl K.str) a0_1, Lf.v (Value.int IntKind.u32 a0_2), Lf.v (Value.int IntKind.u64 a0_3)])]) (z208)))
 (.pick true (.sure (true) true
 (.sure (true) true
 (.need (nle (List.length (List.append [] a0_1)) 9223372036854775807) true
 (.need (nle (List.length (List.append [] a0_1) * 16) 140737488355328) true
 (.pick true (.sure (nEq (List.length (List.append [] a0_1)) (List.length (List.append [] a0_1))) true
 (.call 9 [AV.one (Lf.dat (K.sl K.str) (List.append [] a0_1))] [] (f9_m (List.append [] a0_1)) (fun z213 => SV.av (AV.one (Lf.v (Value.string z213)))) (fun z213 => []) fun z213 =>
 (.call 10 [AV.one (Lf.dat (K.sl K.str) a0_1)] [] (f10_m a0_1) (fun z218 => SV.av (AV.one (Lf.v (Value.string z218)))) (fun z218 => []) fun z218 =>
 (.ask (seq z213 z218)
 (.sure (seq z213 z218) true
 (.sure (seq z213 z218) true
 (.pick true (.sure (nEq (List.length (List.append [] a0_1)) (List.length (List.append [] a0_1))) true
 (.call 11 [AV.one (Lf.v (Value.string a0_0)), AV.one (Lf.dat (K.sl K.str) (List.append [] a0_1))] [] (f11_m a0_0 (List.append [] a0_1)) (fun z226 => SV.av (AV.one (Lf.dat (K.arr 32 (K.int IntKind.u8)) z226))) (fun z226 => []) fun z226 =>
 (.sure (seq z213 z218) true
 (.sure (seq z213 z218) true
 (.sure (seq z213 z218) true
 (.call 12 [AV.one (Lf.v (Value.string a0_0)), AV.one (Lf.dat (K.sl K.str) a0_1)] [] (f12_m a0_0 a0_1) (fun z234 => SV.av (AV.one (Lf.dat (K.arr 32 (K.int IntKind.u8)) z234))) (fun z234 => []) fun z234 =>
 (.sure (seq z213 z218) true
 (.sure (seq z213 z218) true
 (.ask (lieq z226 z234)
 (.sure (lieq z226 z234) true
 (.sure (lieq z226 z234) true
 (.pick true (.sure (nEq (List.length (List.append [] a0_1)) (List.length (List.append [] a0_1))) true
 (.call 13 [AV.one (Lf.v (Value.string a0_0)), AV.one (Lf.dat (K.sl K.str) (List.append [] a0_1))] [] (f13_m a0_0 (List.append [] a0_1)) (fun z242 => SV.av (AV.one (Lf.dat (K.arr 16 (K.int IntKind.u8)) z242))) (fun z242 => []) fun z242 =>
 (.sure (lieq z226 z234) true
 (.sure (lieq z226 z234) true
 (.sure (lieq z226 z234) true
 (.call 14 [AV.one (Lf.v (Value.string a0_0)), AV.one (Lf.dat (K.sl K.str) a0_1)] [] (f14_m a0_0 a0_1) (fun z250 => SV.av (AV.one (Lf.dat (K.arr 16 (K.int IntKind.u8)) z250))) (fun z250 => []) fun z250 =>
 (.sure (lieq z226 z234) true
 (.sure (lieq z226 z234) true
 (.ask (lieq z242 z250)
 (.sure (lieq z242 z250) true
 (.call 15 [AV.one (Lf.v (Value.int IntKind.u64 a0_3))] [] (f15_m a0_3) (fun z255 => SV.av (AV.one (Lf.v (Value.string z255)))) (fun z255 => []) fun z255 =>
 (.sure (lieq z242 z250) true
 (.sure (lieq z242 z250) true
 (.call 16 [AV.one (Lf.v (Value.int IntKind.u64 a0_3))] [] (f16_m a0_3) (fun z260 => SV.av (AV.one (Lf.v (Value.string z260)))) (fun z260 => []) fun z260 =>
 (.sure (lieq z242 z250) true
 (.sure (lieq z242 z250) true
 (.ask (seq z255 z260)
 (.sure (seq z255 z260) true
 (.sure (seq z255 z260) true
 (.call 17 [AV.one (Lf.v (Value.int IntKind.u32 a0_2)), AV.one (Lf.v (Value.int IntKind.u64 a0_3))] [] (f17_m a0_2 a0_3) (fun z268 => SV.av (AV.one (Lf.dat (K.arr 12 (K.int IntKind.u8)) z268))) (fun z268 => []) fun z268 =>
 (.sure (seq z255 z260) true
 (.sure (seq z255 z260) true
 (.sure (seq z255 z260) true
 (.call 18 [AV.one (Lf.v (Value.int IntKind.u32 a0_2)), AV.one (Lf.v (Value.int IntKind.u64 a0_3))] [] (f18_m a0_2 a0_3) (fun z276 => SV.av (AV.one (Lf.dat (K.arr 12 (K.int IntKind.u8)) z276))) (fun z276 => []) fun z276 =>
 (.sure (seq z255 z260) true
 (.sure (seq z255 z260) true
 (.ask (lieq z268 z276)
 (.sure (lieq z268 z276) true
 (.sure (lieq z268 z276) true
 (.pick true (.sure (nEq (List.length (List.append [] a0_1)) (List.length (List.append [] a0_1))) true
 (.call 19 [AV.one (Lf.dat (K.sl K.str) (List.append [] a0_1)), AV.one (Lf.dat (K.sl K.str) a0_1)] [] (f19_m (List.append [] a0_1) a0_1) (fun z284 => SV.av (AV.one (Lf.v (Value.bool z284)))) (fun z284 => []) fun z284 =>
 (.sure (lieq z268 z276) true
 (.ask (z284)
 (.call 8 [] [] (f8_m) (fun z286 => SV.av (AV.one (Lf.v (Value.bool z286)))) (fun z286 => []) fun z286 =>
 (.sure (z284) true
 (.leaf (SV.av (AV.one (Lf.v (Value.bool z286))), [(1, Blk.cells 26 [Lf.v (Value.string a0_0), Lf.dat (K.sl K.str) a0_1, Lf.v (Value.int IntKind.u32 a0_2), Lf.v (Value.int IntKind.u64 a0_3)]), (29, Blk.dead), (31, Blk.row 9 K.str (List.append [] a0_1))]) (z286))))
 (.sure (z284) false
 (.leaf (SV.av (AV.one (Lf.v (Value.bool false))), [(1, Blk.cells 26 [Lf.v (Value.string a0_0), Lf.dat (K.sl K.str) a0_1, Lf.v (Value.int IntKind.u32 a0_2), Lf.v (Value.int IntKind.u64 a0_3)]), (29, Blk.dead), (31, Blk.row 9 K.str (List.append [] a0_1))]) (false))))))))))
 (.sure (lieq z268 z276) false
 (.sure (lieq z268 z276) false
 (.sure (lieq z268 z276) false
 (.sure (false) false
 (.sure (false) false
 (.leaf (SV.av (AV.one (Lf.v (Value.bool false))), [(1, Blk.cells 26 [Lf.v (Value.string a0_0), Lf.dat (K.sl K.str) a0_1, Lf.v (Value.int IntKind.u32 a0_2), Lf.v (Value.int IntKind.u64 a0_3)]), (29, Blk.dead), (31, Blk.row 9 K.str (List.append [] a0_1))]) (false)))))))))))))))))
 (.sure (seq z255 z260) false
 (.sure (seq z255 z260) false
 (.sure (seq z255 z260) false
 (.sure (seq z255 z260) false
 (.sure (seq z255 z260) false
 (.sure (seq z255 z260) false
 (.sure (seq z255 z260) false
 (.sure (false) false
 (.sure (false) false
 (.sure (false) false
 (.sure (false) false
 (.sure (false) false
 (.sure (false) false
 (.leaf (SV.av (AV.one (Lf.v (Value.bool false))), [(1, Blk.cells 26 [Lf.v (Value.string a0_0), Lf.dat (K.sl K.str) a0_1, Lf.v (Value.int IntKind.u32 a0_2), Lf.v (Value.int IntKind.u64 a0_3)]), (29, Blk.dead), (31, Blk.row 9 K.str (List.append [] a0_1))]) (false)))))))))))))))))))))))
 (.sure (lieq z242 z250) false
 (.sure (lieq z242 z250) false
 (.sure (lieq z242 z250) false
 (.sure (lieq z242 z250) false
 (.sure (lieq z242 z250) false
 (.sure (false) false
 (.sure (false) false
 (.sure (false) false
 (.sure (false) false
 (.sure (false) false
 (.sure (false) false
 (.sure (false) false
 (.sure (false) false
 (.sure (false) false
 (.sure (false) false
 (.sure (false) false
 (.sure (false) false
 (.sure (false) false
 (.sure (false) false
 (.leaf (SV.av (AV.one (Lf.v (Value.bool false))), [(1, Blk.cells 26 [Lf.v (Value.string a0_0), Lf.dat (K.sl K.str) a0_1, Lf.v (Value.int IntKind.u32 a0_2), Lf.v (Value.int IntKind.u64 a0_3)]), (29, Blk.dead), (31, Blk.row 9 K.str (List.append [] a0_1))]) (false)))))))))))))))))))))))))))))))))
 (.sure (lieq z226 z234) false
 (.sure (lieq z226 z234) false
 (.sure (lieq z226 z234) false
 (.sure (lieq z226 z234) false
 (.sure (lieq z226 z234) false
 (.sure (lieq z226 z234) false
 (.sure (lieq z226 z234) false
 (.sure (false) false
 (.sure (false) false
 (.sure (false) false
 (.sure (false) false
 (.sure (false) false
 (.sure (false) false
 (.sure (false) false
 (.sure (false) false
 (.sure (false) false
 (.sure (false) false
 (.sure (false) false
 (.sure (false) false
 (.sure (false) false
 (.sure (false) false
 (.sure (false) false
 (.sure (false) false
 (.sure (false) false
 (.sure (false) false
 (.sure (false) false
 (.sure (false) false
 (.leaf (SV.av (AV.one (Lf.v (Value.bool false))), [(1, Blk.cells 26 [Lf.v (Value.string a0_0), Lf.dat (K.sl K.str) a0_1, Lf.v (Value.int IntKind.u32 a0_2), Lf.v (Value.int IntKind.u64 a0_3)]), (29, Blk.dead), (31, Blk.row 9 K.str (List.append [] a0_1))]) (false)))))))))))))))))))))))))))))))))))))))))
 (.sure (seq z213 z218) false
 (.sure (seq z213 z218) false
 (.sure (seq z213 z218) false
 (.sure (seq z213 z218) false
 (.sure (seq z213 z218) false
 (.sure (seq z213 z218) false
 (.sure (seq z213 z218) false
 (.sure (false) false
 (.sure (false) false
 (.sure (false) false
 (.sure (false) false
 (.sure (false) false
 (.sure (false) false
 (.sure (false) false
 (.sure (false) false
 (.sure (false) false
 (.sure (false) false
 (.sure (false) false
 (.sure (false) false
 (.sure (false) false
 (.sure (false) false
 (.sure (false) false
 (.sure (false) false
 (.sure (false) false
 (.sure (false) false
 (.sure (false) false
 (.sure (false) false
 (.sure (false) false
 (.sure (false) false
 (.sure (false) false
 (.sure (false) false
 (.sure (false) false
 (.sure (false) false
 (.sure (false) false
 (.sure (false) false
 (.leaf (SV.av (AV.one (Lf.v (Value.bool false))), [(1, Blk.cells 26 [Lf.v (Value.string a0_0), Lf.dat (K.sl K.str) a0_1, Lf.v (Value.int IntKind.u32 a0_2), Lf.v (Value.int IntKind.u64 a0_3)]), (29, Blk.dead), (31, Blk.row 9 K.str (List.append [] a0_1))]) (false))))))))))))))))))))))))))))))))))))))))))))))))))))))))
theorem f3_v (a0_0 : ByteArray) (a0_1 : List ByteArray) (a0_2 : Int) (a0_3 : Int) : vc (runR P noG Tryd.f3 f3_hn [AV.agg [Lf.v (Value.string a0_0), Lf.dat (K.sl K.str) a0_1, Lf.v (Value.int IntKind.u32 a0_2), Lf.v (Value.int IntKind.u64 a0_3)]] []) (f3_t a0_0 a0_1 a0_2 a0_3) = vcT (f3_t a0_0 a0_1 a0_2 a0_3) := by kernel_rfl
theorem f3_o (a0_0 : ByteArray) (a0_1 : List ByteArray) (a0_2 : Int) (a0_3 : Int) : obl (Snd P noG) (Lp P noG Tryd.f3.ntmps [] f3_hn 1) (RelF [] (f3_R a0_0 a0_1 a0_2 a0_3)) (f3_t a0_0 a0_1 a0_2 a0_3) := by
 unfold f3_t
 exact (oAsk (fun h0 => (oSure h0 (oSure h0 (oSure rfl (oSure rfl (oSure rfl (oSure rfl (oSure rfl (oCall (fun _ e => f8_s e) fun z196 _ =>
 (oLeaf (wks_tw [] [] (by kernel_rfl) (by kernel_rfl))))))))))))
 (fun h0 => (oSure h0 (oCall (fun _ e => f7_s e) fun z204 _ =>
 (oSure h0 (oAsk (fun h1 => (oSure h1 (oSure h1 (oSure h1 (oSure rfl (oCall (fun _ e => f8_s e) fun z206 _ =>
 (oLeaf (wks_tw [] [] (by kernel_rfl) (by kernel_rfl)))))))))
 (fun h1 => (oSure h1 (oSure h1 (oSure h1 (oAsk (fun h2 => (oCall (fun _ e => f8_s e) fun z208 _ =>
 (oLeaf (wks_tw [] [] (by kernel_rfl) (by kernel_rfl)))))
 (fun h2 => (oPick (oSure rfl (oSure rfl (oNeed fun h3 => (oNeed fun h4 => (oPick (oSure (nEq_t.2 rfl) (oCall (fun _ e => f9_s e) fun z213 _ =>
 (oCall (fun _ e => f10_s e) fun z218 _ =>
 (oAsk (fun h5 => (oSure h5 (oSure h5 (oPick (oSure (nEq_t.2 rfl) (oCall (fun _ e => f11_s e) fun z226 _ =>
 (oSure h5 (oSure h5 (oSure h5 (oCall (fun _ e => f12_s e) fun z234 _ =>
 (oSure h5 (oSure h5 (oAsk (fun h6 => (oSure h6 (oSure h6 (oPick (oSure (nEq_t.2 rfl) (oCall (fun _ e => f13_s e) fun z242 _ =>
 (oSure h6 (oSure h6 (oSure h6 (oCall (fun _ e => f14_s e) fun z250 _ =>
 (oSure h6 (oSure h6 (oAsk (fun h7 => (oSure h7 (oCall (fun _ e => f15_s e) fun z255 _ =>
 (oSure h7 (oSure h7 (oCall (fun _ e => f16_s e) fun z260 _ =>
 (oSure h7 (oSure h7 (oAsk (fun h8 => (oSure h8 (oSure h8 (oCall (fun _ e => f17_s e) fun z268 _ =>
 (oSure h8 (oSure h8 (oSure h8 (oCall (fun _ e => f18_s e) fun z276 _ =>
 (oSure h8 (oSure h8 (oAsk (fun h9 => (oSure h9 (oSure h9 (oPick (oSure (nEq_t.2 rfl) (oCall (fun _ e => f19_s e) fun z284 _ =>
 (oSure h9 (oAsk (fun h10 => (oCall (fun _ e => f8_s e) fun z286 _ =>
 (oSure h10 (oLeaf (wks_tw [] [] (by kernel_rfl) (by kernel_rfl))))))
 (fun h10 => (oSure h10 (oLeaf (wks_tw [] [] (by kernel_rfl) (by kernel_rfl)))))))))))))
 (fun h9 => (oSure h9 (oSure h9 (oSure h9 (oSure rfl (oSure rfl (oLeaf (wks_tw [] [] (by kernel_rfl) (by kernel_rfl))))))))))))))))))))
 (fun h8 => (oSure h8 (oSure h8 (oSure h8 (oSure h8 (oSure h8 (oSure h8 (oSure h8 (oSure rfl (oSure rfl (oSure rfl (oSure rfl (oSure rfl (oSure rfl (oLeaf (wks_tw [] [] (by kernel_rfl) (by kernel_rfl))))))))))))))))))))))))))
 (fun h7 => (oSure h7 (oSure h7 (oSure h7 (oSure h7 (oSure h7 (oSure rfl (oSure rfl (oSure rfl (oSure rfl (oSure rfl (oSure rfl (oSure rfl (oSure rfl (oSure rfl (oSure rfl (oSure rfl (oSure rfl (oSure rfl (oSure rfl (oLeaf (wks_tw [] [] (by kernel_rfl) (by kernel_rfl))))))))))))))))))))))))))))))))))))
 (fun h6 => (oSure h6 (oSure h6 (oSure h6 (oSure h6 (oSure h6 (oSure h6 (oSure h6 (oSure rfl (oSure rfl (oSure rfl (oSure rfl (oSure rfl (oSure rfl (oSure rfl (oSure rfl (oSure rfl (oSure rfl (oSure rfl (oSure rfl (oSure rfl (oSure rfl (oSure rfl (oSure rfl (oSure rfl (oSure rfl (oSure rfl (oSure rfl (oLeaf (wks_tw [] [] (by kernel_rfl) (by kernel_rfl))))))))))))))))))))))))))))))))))))))))))))
 (fun h5 => (oSure h5 (oSure h5 (oSure h5 (oSure h5 (oSure h5 (oSure h5 (oSure h5 (oSure rfl (oSure rfl (oSure rfl (oSure rfl (oSure rfl (oSure rfl (oSure rfl (oSure rfl (oSure rfl (oSure rfl (oSure rfl (oSure rfl (oSure rfl (oSure rfl (oSure rfl (oSure rfl (oSure rfl (oSure rfl (oSure rfl (oSure rfl (oSure rfl (oSure rfl (oSure rfl (oSure rfl (oSure rfl (oSure rfl (oSure rfl (oSure rfl (oLeaf (wks_tw [] [] (by kernel_rfl) (by kernel_rfl)))))))))))))))))))))))))))))))))))))))))))))))))))))))))))))
noncomputable def f3_m (a0_0 : ByteArray) (a0_1 : List ByteArray) (a0_2 : Int) (a0_3 : Int) : Option (Bool) := mod (f3_t a0_0 a0_1 a0_2 a0_3)
theorem f3_e (a0_0 : ByteArray) (a0_1 : List ByteArray) (a0_2 : Int) (a0_3 : Int) : f3_m a0_0 a0_1 a0_2 a0_3 =
 (sel (ilt 200 (ssz a0_0))
 (Option.bind (f8_m) fun z196 =>
 (some ((z196))))
 (Option.bind (f7_m a0_1 400) fun z204 =>
 (sel (z204)
 (Option.bind (f8_m) fun z206 =>
 (some ((z206))))
 (sel (ilt 100 (llen a0_1))
 (Option.bind (f8_m) fun z208 =>
 (some ((z208))))
 (sel (nle (List.length (List.append [] a0_1)) 9223372036854775807)
 (sel (nle (List.length (List.append [] a0_1) * 16) 140737488355328)
 (Option.bind (f9_m (List.append [] a0_1)) fun z213 =>
 (Option.bind (f10_m a0_1) fun z218 =>
 (sel (seq z213 z218)
 (Option.bind (f11_m a0_0 (List.append [] a0_1)) fun z226 =>
 (Option.bind (f12_m a0_0 a0_1) fun z234 =>
 (sel (lieq z226 z234)
 (Option.bind (f13_m a0_0 (List.append [] a0_1)) fun z242 =>
 (Option.bind (f14_m a0_0 a0_1) fun z250 =>
 (sel (lieq z242 z250)
 (Option.bind (f15_m a0_3) fun z255 =>
 (Option.bind (f16_m a0_3) fun z260 =>
 (sel (seq z255 z260)
 (Option.bind (f17_m a0_2 a0_3) fun z268 =>
 (Option.bind (f18_m a0_2 a0_3) fun z276 =>
 (sel (lieq z268 z276)
 (Option.bind (f19_m (List.append [] a0_1) a0_1) fun z284 =>
 (sel (z284)
 (Option.bind (f8_m) fun z286 =>
 (some ((z286))))
 (some ((false)))))
 (some ((false))))))
 (some ((false))))))
 (some ((false))))))
 (some ((false))))))
 (some ((false)))))) none) none))))) := by kernel_rfl
theorem f3_s {a0_0 : ByteArray} {a0_1 : List ByteArray} {a0_2 : Int} {a0_3 : Int} {z : Bool} (h : f3_m a0_0 a0_1 a0_2 a0_3 = some z) : Snd P noG 3 [AV.agg [Lf.v (Value.string a0_0), Lf.dat (K.sl K.str) a0_1, Lf.v (Value.int IntKind.u32 a0_2), Lf.v (Value.int IntKind.u64 a0_3)]] [] (SV.av (AV.one (Lf.v (Value.bool z)))) [] :=
 snd_tree (hn := f3_hn) 1 (f3_R a0_0 a0_1 a0_2 a0_3) mixed (by kernel_rfl) (by kernel_rfl) (by kernel_rfl) (by kernel_rfl) (by kernel_rfl) (f3_v a0_0 a0_1 a0_2 a0_3) (f3_o a0_0 a0_1 a0_2 a0_3) h
def f4_hn : Hn := Hn.mk [] [] [] [] []
def f4_R (a0 : List ByteArray) (a1 : List ByteArray) : Bool → SV × Hp
  | z => (SV.av (AV.one (Lf.v (Value.bool z))), [])
noncomputable def f4_t (a0 : List ByteArray) (a1 : List ByteArray) : DT (SV × Hp) (Bool) :=
 (.call 7 [AV.one (Lf.dat (K.sl K.str) a0), AV.one (Lf.v (Value.int IntKind.i64 400))] [] (f7_m a0 400) (fun z96 => SV.av (AV.one (Lf.v (Value.bool z96)))) (fun z96 => []) fun z96 =>
 (.ask (z96)
 (.sure (z96) true
 (.sure (z96) true
 (.sure (true) true
 (.sure (true) true
 (.sure (true) true
 (.sure (true) true
 (.sure (true) true
 (.sure (true) true
 (.sure (true) true
 (.sure (true) true
 (.sure (true) true
 (.call 8 [] [] (f8_m) (fun z98 => SV.av (AV.one (Lf.v (Value.bool z98)))) (fun z98 => []) fun z98 =>
 (.leaf (SV.av (AV.one (Lf.v (Value.bool z98))), []) (z98))))))))))))))
 (.sure (z96) false
 (.call 7 [AV.one (Lf.dat (K.sl K.str) a1), AV.one (Lf.v (Value.int IntKind.i64 400))] [] (f7_m a1 400) (fun z106 => SV.av (AV.one (Lf.v (Value.bool z106)))) (fun z106 => []) fun z106 =>
 (.sure (z96) false
 (.ask (z106)
 (.sure (z106) true
 (.sure (z106) true
 (.sure (z106) true
 (.sure (true) true
 (.sure (true) true
 (.sure (true) true
 (.sure (true) true
 (.sure (true) true
 (.call 8 [] [] (f8_m) (fun z108 => SV.av (AV.one (Lf.v (Value.bool z108)))) (fun z108 => []) fun z108 =>
 (.leaf (SV.av (AV.one (Lf.v (Value.bool z108))), []) (z108)))))))))))
 (.sure (z106) false
 (.sure (z106) false
 (.sure (z106) false
 (.ask (ilt 100 (llen a0))
 (.sure (ilt 100 (llen a0)) true
 (.sure (ilt 100 (llen a0)) true
 (.sure (ilt 100 (llen a0)) true
 (.sure (true) true
 (.call 8 [] [] (f8_m) (fun z110 => SV.av (AV.one (Lf.v (Value.bool z110)))) (fun z110 => []) fun z110 =>
 (.leaf (SV.av (AV.one (Lf.v (Value.bool z110))), []) (z110)))))))
 (.sure (ilt 100 (llen a0)) false
 (.sure (ilt 100 (llen a0)) false
 (.sure (ilt 100 (llen a0)) false
 (.ask (ilt 100 (llen a1))
 (.call 8 [] [] (f8_m) (fun z112 => SV.av (AV.one (Lf.v (Value.bool z112)))) (fun z112 => []) fun z112 =>
 (.leaf (SV.av (AV.one (Lf.v (Value.bool z112))), []) (z112)))
 (.call 9 [AV.one (Lf.dat (K.sl K.str) a0)] [] (f9_m a0) (fun z117 => SV.av (AV.one (Lf.v (Value.string z117)))) (fun z117 => []) fun z117 =>
 (.call 9 [AV.one (Lf.dat (K.sl K.str) a1)] [] (f9_m a1) (fun z122 => SV.av (AV.one (Lf.v (Value.string z122)))) (fun z122 => []) fun z122 =>
 (.call 19 [AV.one (Lf.dat (K.sl K.str) a0), AV.one (Lf.dat (K.sl K.str) a1)] [] (f19_m a0 a1) (fun z130 => SV.av (AV.one (Lf.v (Value.bool z130)))) (fun z130 => []) fun z130 =>
 (.ask (bxn (seq z117 z122) z130)
 (.call 8 [] [] (f8_m) (fun z132 => SV.av (AV.one (Lf.v (Value.bool z132)))) (fun z132 => []) fun z132 =>
 (.sure (bxn (seq z117 z122) z130) true
 (.leaf (SV.av (AV.one (Lf.v (Value.bool z132))), []) (z132))))
 (.sure (bxn (seq z117 z122) z130) false
 (.leaf (SV.av (AV.one (Lf.v (Value.bool false))), []) (false)))))))))))))))))))))
theorem f4_v (a0 : List ByteArray) (a1 : List ByteArray) : vc (runR P noG Tryd.f4 f4_hn [AV.one (Lf.dat (K.sl K.str) a0), AV.one (Lf.dat (K.sl K.str) a1)] []) (f4_t a0 a1) = vcT (f4_t a0 a1) := by kernel_rfl
theorem f4_o (a0 : List ByteArray) (a1 : List ByteArray) : obl (Snd P noG) (Lp P noG Tryd.f4.ntmps [] f4_hn 1) (RelF [] (f4_R a0 a1)) (f4_t a0 a1) := by
 unfold f4_t
 exact (oCall (fun _ e => f7_s e) fun z96 _ =>
 (oAsk (fun h0 => (oSure h0 (oSure h0 (oSure rfl (oSure rfl (oSure rfl (oSure rfl (oSure rfl (oSure rfl (oSure rfl (oSure rfl (oSure rfl (oCall (fun _ e => f8_s e) fun z98 _ =>
 (oLeaf (wks_tw [] [] (by kernel_rfl) (by kernel_rfl))))))))))))))))
 (fun h0 => (oSure h0 (oCall (fun _ e => f7_s e) fun z106 _ =>
 (oSure h0 (oAsk (fun h1 => (oSure h1 (oSure h1 (oSure h1 (oSure rfl (oSure rfl (oSure rfl (oSure rfl (oSure rfl (oCall (fun _ e => f8_s e) fun z108 _ =>
 (oLeaf (wks_tw [] [] (by kernel_rfl) (by kernel_rfl)))))))))))))
 (fun h1 => (oSure h1 (oSure h1 (oSure h1 (oAsk (fun h2 => (oSure h2 (oSure h2 (oSure h2 (oSure rfl (oCall (fun _ e => f8_s e) fun z110 _ =>
 (oLeaf (wks_tw [] [] (by kernel_rfl) (by kernel_rfl)))))))))
 (fun h2 => (oSure h2 (oSure h2 (oSure h2 (oAsk (fun h3 => (oCall (fun _ e => f8_s e) fun z112 _ =>
 (oLeaf (wks_tw [] [] (by kernel_rfl) (by kernel_rfl)))))
 (fun h3 => (oCall (fun _ e => f9_s e) fun z117 _ =>
 (oCall (fun _ e => f9_s e) fun z122 _ =>
 (oCall (fun _ e => f19_s e) fun z130 _ =>
 (oAsk (fun h4 => (oCall (fun _ e => f8_s e) fun z132 _ =>
 (oSure h4 (oLeaf (wks_tw [] [] (by kernel_rfl) (by kernel_rfl))))))
 (fun h4 => (oSure h4 (oLeaf (wks_tw [] [] (by kernel_rfl) (by kernel_rfl)))))))))))))))))))))))))))
noncomputable def f4_m (a0 : List ByteArray) (a1 : List ByteArray) : Option (Bool) := mod (f4_t a0 a1)
theorem f4_e (a0 : List ByteArray) (a1 : List ByteArray) : f4_m a0 a1 =
 (Option.bind (f7_m a0 400) fun z96 =>
 (sel (z96)
 (Option.bind (f8_m) fun z98 =>
 (some ((z98))))
 (Option.bind (f7_m a1 400) fun z106 =>
 (sel (z106)
 (Option.bind (f8_m) fun z108 =>
 (some ((z108))))
 (sel (ilt 100 (llen a0))
 (Option.bind (f8_m) fun z110 =>
 (some ((z110))))
 (sel (ilt 100 (llen a1))
 (Option.bind (f8_m) fun z112 =>
 (some ((z112))))
 (Option.bind (f9_m a0) fun z117 =>
 (Option.bind (f9_m a1) fun z122 =>
 (Option.bind (f19_m a0 a1) fun z130 =>
 (sel (bxn (seq z117 z122) z130)
 (Option.bind (f8_m) fun z132 =>
 (some ((z132))))
 (some ((false))))))))))))) := by kernel_rfl
theorem f4_s {a0 : List ByteArray} {a1 : List ByteArray} {z : Bool} (h : f4_m a0 a1 = some z) : Snd P noG 4 [AV.one (Lf.dat (K.sl K.str) a0), AV.one (Lf.dat (K.sl K.str) a1)] [] (SV.av (AV.one (Lf.v (Value.bool z)))) [] :=
 snd_tree (hn := f4_hn) 1 (f4_R a0 a1) mixed (by kernel_rfl) (by kernel_rfl) (by kernel_rfl) (by kernel_rfl) (by kernel_rfl) (f4_v a0 a1) (f4_o a0 a1) h
def f5_hn : Hn := Hn.mk [] [] [] [] []
def f5_R (a0_0 : Int) (a0_1 : Int) (a0_2 : Int) (a0_3 : Int) : Bool → SV × Hp
  | z => (SV.av (AV.one (Lf.v (Value.bool z))), [])
noncomputable def f5_t (a0_0 : Int) (a0_1 : Int) (a0_2 : Int) (a0_3 : Int) : DT (SV × Hp) (Bool) :=
 (.call 17 [AV.one (Lf.v (Value.int IntKind.u32 a0_0)), AV.one (Lf.v (Value.int IntKind.u64 a0_2))] [] (f17_m a0_0 a0_2) (fun z116 => SV.av (AV.one (Lf.dat (K.arr 12 (K.int IntKind.u8)) z116))) (fun z116 => []) fun z116 =>
 (.call 17 [AV.one (Lf.v (Value.int IntKind.u32 a0_1)), AV.one (Lf.v (Value.int IntKind.u64 a0_3))] [] (f17_m a0_1 a0_3) (fun z124 => SV.av (AV.one (Lf.dat (K.arr 12 (K.int IntKind.u8)) z124))) (fun z124 => []) fun z124 =>
 (.ask (ieq a0_0 a0_1)
 (.sure (ieq a0_0 a0_1) true
 (.sure (ieq a0_0 a0_1) true
 (.sure (ieq a0_0 a0_1) true
 (.ask (bxn (lieq z116 z124) (ieq a0_2 a0_3))
 (.sure (bxn (lieq z116 z124) (ieq a0_2 a0_3)) true
 (.call 15 [AV.one (Lf.v (Value.int IntKind.u64 a0_2))] [] (f15_m a0_2) (fun z129 => SV.av (AV.one (Lf.v (Value.string z129)))) (fun z129 => []) fun z129 =>
 (.sure (bxn (lieq z116 z124) (ieq a0_2 a0_3)) true
 (.sure (bxn (lieq z116 z124) (ieq a0_2 a0_3)) true
 (.call 15 [AV.one (Lf.v (Value.int IntKind.u64 a0_3))] [] (f15_m a0_3) (fun z134 => SV.av (AV.one (Lf.v (Value.string z134)))) (fun z134 => []) fun z134 =>
 (.sure (bxn (lieq z116 z124) (ieq a0_2 a0_3)) true
 (.sure (bxn (lieq z116 z124) (ieq a0_2 a0_3)) true
 (.sure (bxn (lieq z116 z124) (ieq a0_2 a0_3)) true
 (.sure (bxn (lieq z116 z124) (ieq a0_2 a0_3)) true
 (.sure (bxn (lieq z116 z124) (ieq a0_2 a0_3)) true
 (.sure (bxn (lieq z116 z124) (ieq a0_2 a0_3)) true
 (.ask (bxn (seq z129 z134) (ieq a0_2 a0_3))
 (.sure (bxn (seq z129 z134) (ieq a0_2 a0_3)) true
 (.call 15 [AV.one (Lf.v (Value.int IntKind.u64 a0_2))] [] (f15_m a0_2) (fun z139 => SV.av (AV.one (Lf.v (Value.string z139)))) (fun z139 => []) fun z139 =>
 (.sure (bxn (seq z129 z134) (ieq a0_2 a0_3)) true
 (.sure (bxn (seq z129 z134) (ieq a0_2 a0_3)) true
 (.sure (bxn (seq z129 z134) (ieq a0_2 a0_3)) true
 (.ask (ieq (ssz z139) 8)
 (.call 8 [] [] (f8_m) (fun z141 => SV.av (AV.one (Lf.v (Value.bool z141)))) (fun z141 => []) fun z141 =>
 (.sure (ieq (ssz z139) 8) true
 (.leaf (SV.av (AV.one (Lf.v (Value.bool z141))), [(1, Blk.cells 47 [Lf.v (Value.int IntKind.u32 a0_0), Lf.v (Value.int IntKind.u32 a0_1), Lf.v (Value.int IntKind.u64 a0_2), Lf.v (Value.int IntKind.u64 a0_3)])]) (z141))))
 (.sure (ieq (ssz z139) 8) false
 (.leaf (SV.av (AV.one (Lf.v (Value.bool false))), [(1, Blk.cells 47 [Lf.v (Value.int IntKind.u32 a0_0), Lf.v (Value.int IntKind.u32 a0_1), Lf.v (Value.int IntKind.u64 a0_2), Lf.v (Value.int IntKind.u64 a0_3)])]) (false)))))))))
 (.sure (bxn (seq z129 z134) (ieq a0_2 a0_3)) false
 (.sure (bxn (seq z129 z134) (ieq a0_2 a0_3)) false
 (.sure (bxn (seq z129 z134) (ieq a0_2 a0_3)) false
 (.sure (bxn (seq z129 z134) (ieq a0_2 a0_3)) false
 (.sure (false) false
 (.sure (false) false
 (.leaf (SV.av (AV.one (Lf.v (Value.bool false))), [(1, Blk.cells 47 [Lf.v (Value.int IntKind.u32 a0_0), Lf.v (Value.int IntKind.u32 a0_1), Lf.v (Value.int IntKind.u64 a0_2), Lf.v (Value.int IntKind.u64 a0_3)])]) (false))))))))))))))))))))
 (.sure (bxn (lieq z116 z124) (ieq a0_2 a0_3)) false
 (.sure (bxn (lieq z116 z124) (ieq a0_2 a0_3)) false
 (.sure (bxn (lieq z116 z124) (ieq a0_2 a0_3)) false
 (.sure (bxn (lieq z116 z124) (ieq a0_2 a0_3)) false
 (.sure (bxn (lieq z116 z124) (ieq a0_2 a0_3)) false
 (.sure (bxn (lieq z116 z124) (ieq a0_2 a0_3)) false
 (.sure (bxn (lieq z116 z124) (ieq a0_2 a0_3)) false
 (.sure (bxn (lieq z116 z124) (ieq a0_2 a0_3)) false
 (.sure (bxn (lieq z116 z124) (ieq a0_2 a0_3)) false
 (.sure (false) false
 (.sure (false) false
 (.sure (false) false
 (.sure (false) false
 (.sure (false) false
 (.sure (false) false
 (.sure (false) false
 (.leaf (SV.av (AV.one (Lf.v (Value.bool false))), [(1, Blk.cells 47 [Lf.v (Value.int IntKind.u32 a0_0), Lf.v (Value.int IntKind.u32 a0_1), Lf.v (Value.int IntKind.u64 a0_2), Lf.v (Value.int IntKind.u64 a0_3)])]) (false))))))))))))))))))))))
 (.sure (ieq a0_0 a0_1) false
 (.sure (ieq a0_0 a0_1) false
 (.sure (ieq a0_0 a0_1) false
 (.ask (bxn (lieq z116 z124) false)
 (.sure (bxn (lieq z116 z124) false) true
 (.call 15 [AV.one (Lf.v (Value.int IntKind.u64 a0_2))] [] (f15_m a0_2) (fun z148 => SV.av (AV.one (Lf.v (Value.string z148)))) (fun z148 => []) fun z148 =>
 (.sure (bxn (lieq z116 z124) false) true
 (.sure (bxn (lieq z116 z124) false) true
 (.call 15 [AV.one (Lf.v (Value.int IntKind.u64 a0_3))] [] (f15_m a0_3) (fun z153 => SV.av (AV.one (Lf.v (Value.string z153)))) (fun z153 => []) fun z153 =>
 (.sure (bxn (lieq z116 z124) false) true
 (.sure (bxn (lieq z116 z124) false) true
 (.sure (bxn (lieq z116 z124) false) true
 (.sure (bxn (lieq z116 z124) false) true
 (.sure (bxn (lieq z116 z124) false) true
 (.sure (bxn (lieq z116 z124) false) true
 (.ask (bxn (seq z148 z153) (ieq a0_2 a0_3))
 (.sure (bxn (seq z148 z153) (ieq a0_2 a0_3)) true
 (.call 15 [AV.one (Lf.v (Value.int IntKind.u64 a0_2))] [] (f15_m a0_2) (fun z158 => SV.av (AV.one (Lf.v (Value.string z158)))) (fun z158 => []) fun z158 =>
 (.sure (bxn (seq z148 z153) (ieq a0_2 a0_3)) true
 (.sure (bxn (seq z148 z153) (ieq a0_2 a0_3)) true
 (.sure (bxn (seq z148 z153) (ieq a0_2 a0_3)) true
 (.ask (ieq (ssz z158) 8)
 (.call 8 [] [] (f8_m) (fun z160 => SV.av (AV.one (Lf.v (Value.bool z160)))) (fun z160 => []) fun z160 =>
 (.sure (ieq (ssz z158) 8) true
 (.leaf (SV.av (AV.one (Lf.v (Value.bool z160))), [(1, Blk.cells 47 [Lf.v (Value.int IntKind.u32 a0_0), Lf.v (Value.int IntKind.u32 a0_1), Lf.v (Value.int IntKind.u64 a0_2), Lf.v (Value.int IntKind.u64 a0_3)])]) (z160))))
 (.sure (ieq (ssz z158) 8) false
 (.leaf (SV.av (AV.one (Lf.v (Value.bool false))), [(1, Blk.cells 47 [Lf.v (Value.int IntKind.u32 a0_0), Lf.v (Value.int IntKind.u32 a0_1), Lf.v (Value.int IntKind.u64 a0_2), Lf.v (Value.int IntKind.u64 a0_3)])]) (false)))))))))
 (.sure (bxn (seq z148 z153) (ieq a0_2 a0_3)) false
 (.sure (bxn (seq z148 z153) (ieq a0_2 a0_3)) false
 (.sure (bxn (seq z148 z153) (ieq a0_2 a0_3)) false
 (.sure (bxn (seq z148 z153) (ieq a0_2 a0_3)) false
 (.sure (false) false
 (.sure (false) false
 (.leaf (SV.av (AV.one (Lf.v (Value.bool false))), [(1, Blk.cells 47 [Lf.v (Value.int IntKind.u32 a0_0), Lf.v (Value.int IntKind.u32 a0_1), Lf.v (Value.int IntKind.u64 a0_2), Lf.v (Value.int IntKind.u64 a0_3)])]) (false))))))))))))))))))))
 (.sure (bxn (lieq z116 z124) false) false
 (.sure (bxn (lieq z116 z124) false) false
 (.sure (bxn (lieq z116 z124) false) false
 (.sure (bxn (lieq z116 z124) false) false
 (.sure (bxn (lieq z116 z124) false) false
 (.sure (bxn (lieq z116 z124) false) false
 (.sure (bxn (lieq z116 z124) false) false
 (.sure (bxn (lieq z116 z124) false) false
 (.sure (bxn (lieq z116 z124) false) false
 (.sure (false) false
 (.sure (false) false
 (.sure (false) false
 (.sure (false) false
 (.sure (false) false
 (.sure (false) false
 (.sure (false) false
 (.leaf (SV.av (AV.one (Lf.v (Value.bool false))), [(1, Blk.cells 47 [Lf.v (Value.int IntKind.u32 a0_0), Lf.v (Value.int IntKind.u32 a0_1), Lf.v (Value.int IntKind.u64 a0_2), Lf.v (Value.int IntKind.u64 a0_3)])]) (false)))))))))))))))))))))))))
theorem f5_v (a0_0 : Int) (a0_1 : Int) (a0_2 : Int) (a0_3 : Int) : vc (runR P noG Tryd.f5 f5_hn [AV.agg [Lf.v (Value.int IntKind.u32 a0_0), Lf.v (Value.int IntKind.u32 a0_1), Lf.v (Value.int IntKind.u64 a0_2), Lf.v (Value.int IntKind.u64 a0_3)]] []) (f5_t a0_0 a0_1 a0_2 a0_3) = vcT (f5_t a0_0 a0_1 a0_2 a0_3) := by kernel_rfl
theorem f5_o (a0_0 : Int) (a0_1 : Int) (a0_2 : Int) (a0_3 : Int) : obl (Snd P noG) (Lp P noG Tryd.f5.ntmps [] f5_hn 1) (RelF [] (f5_R a0_0 a0_1 a0_2 a0_3)) (f5_t a0_0 a0_1 a0_2 a0_3) := by
 unfold f5_t
 exact (oCall (fun _ e => f17_s e) fun z116 _ =>
 (oCall (fun _ e => f17_s e) fun z124 _ =>
 (oAsk (fun h0 => (oSure h0 (oSure h0 (oSure h0 (oAsk (fun h1 => (oSure h1 (oCall (fun _ e => f15_s e) fun z129 _ =>
 (oSure h1 (oSure h1 (oCall (fun _ e => f15_s e) fun z134 _ =>
 (oSure h1 (oSure h1 (oSure h1 (oSure h1 (oSure h1 (oSure h1 (oAsk (fun h2 => (oSure h2 (oCall (fun _ e => f15_s e) fun z139 _ =>
 (oSure h2 (oSure h2 (oSure h2 (oAsk (fun h3 => (oCall (fun _ e => f8_s e) fun z141 _ =>
 (oSure h3 (oLeaf (wks_tw [] [] (by kernel_rfl) (by kernel_rfl))))))
 (fun h3 => (oSure h3 (oLeaf (wks_tw [] [] (by kernel_rfl) (by kernel_rfl))))))))))))
 (fun h2 => (oSure h2 (oSure h2 (oSure h2 (oSure h2 (oSure rfl (oSure rfl (oLeaf (wks_tw [] [] (by kernel_rfl) (by kernel_rfl)))))))))))))))))))))))
 (fun h1 => (oSure h1 (oSure h1 (oSure h1 (oSure h1 (oSure h1 (oSure h1 (oSure h1 (oSure h1 (oSure h1 (oSure rfl (oSure rfl (oSure rfl (oSure rfl (oSure rfl (oSure rfl (oSure rfl (oLeaf (wks_tw [] [] (by kernel_rfl) (by kernel_rfl)))))))))))))))))))))))))
 (fun h0 => (oSure h0 (oSure h0 (oSure h0 (oAsk (fun h1 => (oSure h1 (oCall (fun _ e => f15_s e) fun z148 _ =>
 (oSure h1 (oSure h1 (oCall (fun _ e => f15_s e) fun z153 _ =>
 (oSure h1 (oSure h1 (oSure h1 (oSure h1 (oSure h1 (oSure h1 (oAsk (fun h2 => (oSure h2 (oCall (fun _ e => f15_s e) fun z158 _ =>
 (oSure h2 (oSure h2 (oSure h2 (oAsk (fun h3 => (oCall (fun _ e => f8_s e) fun z160 _ =>
 (oSure h3 (oLeaf (wks_tw [] [] (by kernel_rfl) (by kernel_rfl))))))
 (fun h3 => (oSure h3 (oLeaf (wks_tw [] [] (by kernel_rfl) (by kernel_rfl))))))))))))
 (fun h2 => (oSure h2 (oSure h2 (oSure h2 (oSure h2 (oSure rfl (oSure rfl (oLeaf (wks_tw [] [] (by kernel_rfl) (by kernel_rfl)))))))))))))))))))))))
 (fun h1 => (oSure h1 (oSure h1 (oSure h1 (oSure h1 (oSure h1 (oSure h1 (oSure h1 (oSure h1 (oSure h1 (oSure rfl (oSure rfl (oSure rfl (oSure rfl (oSure rfl (oSure rfl (oSure rfl (oLeaf (wks_tw [] [] (by kernel_rfl) (by kernel_rfl))))))))))))))))))))))))))))
noncomputable def f5_m (a0_0 : Int) (a0_1 : Int) (a0_2 : Int) (a0_3 : Int) : Option (Bool) := mod (f5_t a0_0 a0_1 a0_2 a0_3)
theorem f5_e (a0_0 : Int) (a0_1 : Int) (a0_2 : Int) (a0_3 : Int) : f5_m a0_0 a0_1 a0_2 a0_3 =
 (Option.bind (f17_m a0_0 a0_2) fun z116 =>
 (Option.bind (f17_m a0_1 a0_3) fun z124 =>
 (sel (ieq a0_0 a0_1)
 (sel (bxn (lieq z116 z124) (ieq a0_2 a0_3))
 (Option.bind (f15_m a0_2) fun z129 =>
 (Option.bind (f15_m a0_3) fun z134 =>
 (sel (bxn (seq z129 z134) (ieq a0_2 a0_3))
 (Option.bind (f15_m a0_2) fun z139 =>
 (sel (ieq (ssz z139) 8)
 (Option.bind (f8_m) fun z141 =>
 (some ((z141))))
 (some ((false)))))
 (some ((false))))))
 (some ((false))))
 (sel (bxn (lieq z116 z124) false)
 (Option.bind (f15_m a0_2) fun z148 =>
 (Option.bind (f15_m a0_3) fun z153 =>
 (sel (bxn (seq z148 z153) (ieq a0_2 a0_3))
 (Option.bind (f15_m a0_2) fun z158 =>
 (sel (ieq (ssz z158) 8)
 (Option.bind (f8_m) fun z160 =>
 (some ((z160))))
 (some ((false)))))
 (some ((false))))))
 (some ((false))))))) := by kernel_rfl
theorem f5_s {a0_0 : Int} {a0_1 : Int} {a0_2 : Int} {a0_3 : Int} {z : Bool} (h : f5_m a0_0 a0_1 a0_2 a0_3 = some z) : Snd P noG 5 [AV.agg [Lf.v (Value.int IntKind.u32 a0_0), Lf.v (Value.int IntKind.u32 a0_1), Lf.v (Value.int IntKind.u64 a0_2), Lf.v (Value.int IntKind.u64 a0_3)]] [] (SV.av (AV.one (Lf.v (Value.bool z)))) [] :=
 snd_tree (hn := f5_hn) 1 (f5_R a0_0 a0_1 a0_2 a0_3) mixed (by kernel_rfl) (by kernel_rfl) (by kernel_rfl) (by kernel_rfl) (by kernel_rfl) (f5_v a0_0 a0_1 a0_2 a0_3) (f5_o a0_0 a0_1 a0_2 a0_3) h
def f6_hn : Hn := Hn.mk [(4002, [(1000000, 36)]), (4005, [(1000000, 36)]), (5001, [(1000000, 36)]), (5019, [(1000000, 61)]), (5021, [(1000000, 36)])] [] [] [] []
def f6_R (a0 : ByteArray) (a1 : List ByteArray) (a2 : List ByteArray) : Bool → SV × Hp
  | z => (SV.av (AV.one (Lf.v (Value.bool z))), [])
noncomputable def f6_t (a0 : ByteArray) (a1 : List ByteArray) (a2 : List ByteArray) : DT (SV × Hp) (Bool) :=
 (.ask (ilt 200 (ssz a0))
 (.sure (ilt 200 (ssz a0)) true
 (.sure (ilt 200 (ssz a0)) true
 (.sure (true) true
 (.sure (true) true
 (.sure (true) true
 (.sure (true) true
 (.sure (true) true
 (.sure (true) true
 (.sure (true) true
 (.sure (true) true
 (.sure (true) true
 (.sure (true) true
 (.sure (true) true
 (.sure (true) true
 (.call 8 [] [] (f8_m) (fun z154 => SV.av (AV.one (Lf.v (Value.bool z154)))) (fun z154 => []) fun z154 =>
 (.leaf (SV.av (AV.one (Lf.v (Value.bool z154))), []) (z154)))))))))))))))))
 (.sure (ilt 200 (ssz a0)) false
 (.call 7 [AV.one (Lf.dat (K.sl K.str) a1), AV.one (Lf.v (Value.int IntKind.i64 400))] [] (f7_m a1 400) (fun z162 => SV.av (AV.one (Lf.v (Value.bool z162)))) (fun z162 => []) fun z162 =>
 (.sure (ilt 200 (ssz a0)) false
 (.ask (z162)
 (.sure (z162) true
 (.sure (z162) true
 (.sure (true) true
 (.sure (true) true
 (.sure (true) true
 (.sure (true) true
 (.sure (true) true
 (.sure (true) true
 (.sure (true) true
 (.sure (true) true
 (.sure (true) true
 (.call 8 [] [] (f8_m) (fun z164 => SV.av (AV.one (Lf.v (Value.bool z164)))) (fun z164 => []) fun z164 =>
 (.leaf (SV.av (AV.one (Lf.v (Value.bool z164))), []) (z164))))))))))))))
 (.sure (z162) false
 (.call 7 [AV.one (Lf.dat (K.sl K.str) a2), AV.one (Lf.v (Value.int IntKind.i64 400))] [] (f7_m a2 400) (fun z172 => SV.av (AV.one (Lf.v (Value.bool z172)))) (fun z172 => []) fun z172 =>
 (.sure (z162) false
 (.ask (z172)
 (.sure (z172) true
 (.sure (z172) true
 (.sure (z172) true
 (.sure (true) true
 (.sure (true) true
 (.sure (true) true
 (.sure (true) true
 (.sure (true) true
 (.call 8 [] [] (f8_m) (fun z174 => SV.av (AV.one (Lf.v (Value.bool z174)))) (fun z174 => []) fun z174 =>
 (.leaf (SV.av (AV.one (Lf.v (Value.bool z174))), []) (z174)))))))))))
 (.sure (z172) false
 (.sure (z172) false
 (.sure (z172) false
 (.ask (ilt 100 (llen a1))
 (.sure (ilt 100 (llen a1)) true
 (.sure (ilt 100 (llen a1)) true
 (.sure (ilt 100 (llen a1)) true
 (.sure (true) true
 (.call 8 [] [] (f8_m) (fun z176 => SV.av (AV.one (Lf.v (Value.bool z176)))) (fun z176 => []) fun z176 =>
 (.leaf (SV.av (AV.one (Lf.v (Value.bool z176))), []) (z176)))))))
 (.sure (ilt 100 (llen a1)) false
 (.sure (ilt 100 (llen a1)) false
 (.sure (ilt 100 (llen a1)) false
 (.ask (ilt 100 (llen a2))
 (.call 8 [] [] (f8_m) (fun z178 => SV.av (AV.one (Lf.v (Value.bool z178)))) (fun z178 => []) fun z178 =>
 (.leaf (SV.av (AV.one (Lf.v (Value.bool z178))), []) (z178)))
 (.pick true (.sure (true) true
 (.sure (true) true
 (.need (nle (List.length (List.append [] a1)) 9223372036854775807) true
 (.need (nle (List.length (List.append [] a1) * 16) 140737488355328) true
 (.pick true (.sure (true) true
 (.sure (nEq (List.length (List.append [] a1)) (List.length (List.append [] a1))) true
 (.need (nle (List.length (List.append (List.append [] a1) a2)) 9223372036854775807) true
 (.need (nle (List.length (List.append (List.append [] a1) a2) * 16) 140737488355328) true
 (.pick true (.sure (nEq (List.length (List.append (List.append [] a1) a2)) (List.length (List.append (List.append [] a1) a2))) true
 (.call 11 [AV.one (Lf.v (Value.string a0)), AV.one (Lf.dat (K.sl K.str) (List.append (List.append [] a1) a2))] [] (f11_m a0 (List.append (List.append [] a1) a2)) (fun z186 => SV.av (AV.one (Lf.dat (K.arr 32 (K.int IntKind.u8)) z186))) (fun z186 => []) fun z186 =>
 (.pick true (.sure (nEq (List.length (List.append (List.append [] a1) a2)) (List.length (List.append (List.append [] a1) a2))) true
 (.call 13 [AV.one (Lf.v (Value.string a0)), AV.one (Lf.dat (K.sl K.str) (List.append (List.append [] a1) a2))] [] (f13_m a0 (List.append (List.append [] a1) a2)) (fun z194 => SV.av (AV.one (Lf.dat (K.arr 16 (K.int IntKind.u8)) z194))) (fun z194 => []) fun z194 =>
 (.pick true (.sure (nEq (List.length (List.append (List.append [] a1) a2)) (List.length (List.append (List.append [] a1) a2))) true
 (.call 9 [AV.one (Lf.dat (K.sl K.str) (List.append (List.append [] a1) a2))] [] (f9_m (List.append (List.append [] a1) a2)) (fun z199 => SV.av (AV.one (Lf.v (Value.string z199)))) (fun z199 => []) fun z199 =>
 (.call 9 [AV.one (Lf.dat (K.sl K.str) a1)] [] (f9_m a1) (fun z204 => SV.av (AV.one (Lf.v (Value.string z204)))) (fun z204 => []) fun z204 =>
 (.call 9 [AV.one (Lf.dat (K.sl K.str) a2)] [] (f9_m a2) (fun z209 => SV.av (AV.one (Lf.v (Value.string z209)))) (fun z209 => []) fun z209 =>
 (.need (nle (ByteArray.size z204 + ByteArray.size z209) 9223372036854775807) true
 (.ask (seq z199 (sapp z204 z209))
 (.sure (true) true
 (.sure (true) true
 (.sure (true) true
 (.sure (seq z199 (sapp z204 z209)) true
 (.pick false (.sure (true) true
 (.sure (seq z199 (sapp z204 z209)) true
 (.sure (true) true
 (.sure (true) true
 (.sure (seq z199 (sapp z204 z209)) true
 (.pick true (.sure (true) true
 (.sure (seq z199 (sapp z204 z209)) true
 (.sure (seq z199 (sapp z204 z209)) true
 (.ask (seq (strOfNums (List.take 16 (List.drop 0 z186))) (strOfNums z194))
 (.sure (seq (strOfNums (List.take 16 (List.drop 0 z186))) (strOfNums z194)) true
 (.sure (seq (strOfNums (List.take 16 (List.drop 0 z186))) (strOfNums z194)) true
 (.sure (seq (strOfNums (List.take 16 (List.drop 0 z186))) (strOfNums z194)) true
 (.pick true (.sure (true) true
 (.call 9 [AV.one (Lf.dat (K.sl K.str) [a0])] [] (f9_m [a0]) (fun z214 => SV.av (AV.one (Lf.v (Value.string z214)))) (fun z214 => []) fun z214 =>
 (.sure (seq (strOfNums (List.take 16 (List.drop 0 z186))) (strOfNums z194)) true
 (.sure (seq (strOfNums (List.take 16 (List.drop 0 z186))) (strOfNums z194)) true
 (.pick true (.sure (nEq (List.length (List.append (List.append [] a1) a2)) (List.length (List.append (List.append [] a1) a2))) true
 (.call 9 [AV.one (Lf.dat (K.sl K.str) (List.append (List.append [] a1) a2))] [] (f9_m (List.append (List.append [] a1) a2)) (fun z219 => SV.av (AV.one (Lf.v (Value.string z219)))) (fun z219 => []) fun z219 =>
 (.sure (seq (strOfNums (List.take 16 (List.drop 0 z186))) (strOfNums z194)) true
 (.need (nle (ByteArray.size z214 + ByteArray.size z219) 9223372036854775807) true
 (.sure (seq (strOfNums (List.take 16 (List.drop 0 z186))) (strOfNums z194)) true
 (.call 20 [AV.one (Lf.v (Value.string (sapp z214 z219)))] [] (f20_m (sapp z214 z219)) (fun z224 => SV.av (AV.one (Lf.dat (K.arr 32 (K.int IntKind.u8)) z224))) (fun z224 => []) fun z224 =>
 (.sure (seq (strOfNums (List.take 16 (List.drop 0 z186))) (strOfNums z194)) true
 (.sure (seq (strOfNums (List.take 16 (List.drop 0 z186))) (strOfNums z194)) true
 (.ask (lieq z186 z224)
 (.call 8 [] [] (f8_m) (fun z226 => SV.av (AV.one (Lf.v (Value.bool z226)))) (fun z226 => []) fun z226 =>
 (.sure (lieq z186 z224) true
 (.leaf (SV.av (AV.one (Lf.v (Value.bool z226))), [(8, Blk.cells 32 [Lf.dat (K.arr 32 (K.int IntKind.u8)) z186]), (9, Blk.cells 36 [Lf.dat (K.arr 16 (K.int IntKind.u8)) z194]), (32, Blk.dead), (34, Blk.dead), (36, Blk.row 9 K.str (List.append (List.append [] a1) a2)), (61, Blk.row 9 K.str [a0])]) (z226))))
 (.sure (lieq z186 z224) false
 (.leaf (SV.av (AV.one (Lf.v (Value.bool false))), [(8, Blk.cells 32 [Lf.dat (K.arr 32 (K.int IntKind.u8)) z186]), (9, Blk.cells 36 [Lf.dat (K.arr 16 (K.int IntKind.u8)) z194]), (32, Blk.dead), (34, Blk.dead), (36, Blk.row 9 K.str (List.append (List.append [] a1) a2)), (61, Blk.row 9 K.str [a0])]) (false)))))))))))))))))))))
 (.sure (seq (strOfNums (List.take 16 (List.drop 0 z186))) (strOfNums z194)) false
 (.sure (seq (strOfNums (List.take 16 (List.drop 0 z186))) (strOfNums z194)) false
 (.sure (seq (strOfNums (List.take 16 (List.drop 0 z186))) (strOfNums z194)) false
 (.sure (seq (strOfNums (List.take 16 (List.drop 0 z186))) (strOfNums z194)) false
 (.sure (seq (strOfNums (List.take 16 (List.drop 0 z186))) (strOfNums z194)) false
 (.sure (seq (strOfNums (List.take 16 (List.drop 0 z186))) (strOfNums z194)) false
 (.sure (seq (strOfNums (List.take 16 (List.drop 0 z186))) (strOfNums z194)) false
 (.sure (seq (strOfNums (List.take 16 (List.drop 0 z186))) (strOfNums z194)) false
 (.sure (seq (strOfNums (List.take 16 (List.drop 0 z186))) (strOfNums z194)) false
 (.sure (false) false
 (.sure (false) false
 (.leaf (SV.av (AV.one (Lf.v (Value.bool false))), [(8, Blk.cells 32 [Lf.dat (K.arr 32 (K.int IntKind.u8)) z186]), (9, Blk.cells 36 [Lf.dat (K.arr 16 (K.int IntKind.u8)) z194]), (32, Blk.dead), (34, Blk.dead), (36, Blk.row 9 K.str (List.append (List.append [] a1) a2))]) (false))))))))))))))))))))))))))))
 (.sure (seq z199 (sapp z204 z209)) false
 (.sure (seq z199 (sapp z204 z209)) false
 (.sure (seq z199 (sapp z204 z209)) false
 (.sure (seq z199 (sapp z204 z209)) false
 (.sure (seq z199 (sapp z204 z209)) false
 (.sure (false) false
 (.sure (false) false
 (.sure (false) false
 (.sure (false) false
 (.sure (false) false
 (.sure (false) false
 (.sure (false) false
 (.sure (false) false
 (.sure (false) false
 (.sure (false) false
 (.sure (false) false
 (.sure (false) false
 (.leaf (SV.av (AV.one (Lf.v (Value.bool false))), [(8, Blk.cells 32 [Lf.dat (K.arr 32 (K.int IntKind.u8)) z186]), (9, Blk.cells 36 [Lf.dat (K.arr 16 (K.int IntKind.u8)) z194]), (32, Blk.dead), (34, Blk.dead), (36, Blk.row 9 K.str (List.append (List.append [] a1) a2))]) (false)))))))))))))))))))))))))))))))))))))))))))))))))))))))))))
theorem f6_v (a0 : ByteArray) (a1 : List ByteArray) (a2 : List ByteArray) : vc (runR P noG Tryd.f6 f6_hn [AV.one (Lf.v (Value.string a0)), AV.one (Lf.dat (K.sl K.str) a1), AV.one (Lf.dat (K.sl K.str) a2)] []) (f6_t a0 a1 a2) = vcT (f6_t a0 a1 a2) := by kernel_rfl
theorem f6_o (a0 : ByteArray) (a1 : List ByteArray) (a2 : List ByteArray) : obl (Snd P noG) (Lp P noG Tryd.f6.ntmps [] f6_hn 1) (RelF [] (f6_R a0 a1 a2)) (f6_t a0 a1 a2) := by
 unfold f6_t
 exact (oAsk (fun h0 => (oSure h0 (oSure h0 (oSure rfl (oSure rfl (oSure rfl (oSure rfl (oSure rfl (oSure rfl (oSure rfl (oSure rfl (oSure rfl (oSure rfl (oSure rfl (oSure rfl (oCall (fun _ e => f8_s e) fun z154 _ =>
 (oLeaf (wks_tw [] [] (by kernel_rfl) (by kernel_rfl)))))))))))))))))))
 (fun h0 => (oSure h0 (oCall (fun _ e => f7_s e) fun z162 _ =>
 (oSure h0 (oAsk (fun h1 => (oSure h1 (oSure h1 (oSure rfl (oSure rfl (oSure rfl (oSure rfl (oSure rfl (oSure rfl (oSure rfl (oSure rfl (oSure rfl (oCall (fun _ e => f8_s e) fun z164 _ =>
 (oLeaf (wks_tw [] [] (by kernel_rfl) (by kernel_rfl))))))))))))))))
 (fun h1 => (oSure h1 (oCall (fun _ e => f7_s e) fun z172 _ =>
 (oSure h1 (oAsk (fun h2 => (oSure h2 (oSure h2 (oSure h2 (oSure rfl (oSure rfl (oSure rfl (oSure rfl (oSure rfl (oCall (fun _ e => f8_s e) fun z174 _ =>
 (oLeaf (wks_tw [] [] (by kernel_rfl) (by kernel_rfl)))))))))))))
 (fun h2 => (oSure h2 (oSure h2 (oSure h2 (oAsk (fun h3 => (oSure h3 (oSure h3 (oSure h3 (oSure rfl (oCall (fun _ e => f8_s e) fun z176 _ =>
 (oLeaf (wks_tw [] [] (by kernel_rfl) (by kernel_rfl)))))))))
 (fun h3 => (oSure h3 (oSure h3 (oSure h3 (oAsk (fun h4 => (oCall (fun _ e => f8_s e) fun z178 _ =>
 (oLeaf (wks_tw [] [] (by kernel_rfl) (by kernel_rfl)))))
 (fun h4 => (oPick (oSure rfl (oSure rfl (oNeed fun h5 => (oNeed fun h6 => (oPick (oSure rfl (oSure (nEq_t.2 rfl) (oNeed fun h7 => (oNeed fun h8 => (oPick (oSure (nEq_t.2 rfl) (oCall (fun _ e => f11_s e) fun z186 _ =>
 (oPick (oSure (nEq_t.2 rfl) (oCall (fun _ e => f13_s e) fun z194 _ =>
 (oPick (oSure (nEq_t.2 rfl) (oCall (fun _ e => f9_s e) fun z199 _ =>
 (oCall (fun _ e => f9_s e) fun z204 _ =>
 (oCall (fun _ e => f9_s e) fun z209 _ =>
 (oNeed fun h9 => (oAsk (fun h10 => (oSure rfl (oSure rfl (oSure rfl (oSure h10 (oPick (oSure rfl (oSure h10 (oSure rfl (oSure rfl (oSure h10 (oPick (oSure rfl (oSure h10 (oSure h10 (oAsk (fun h11 => (oSure h11 (oSure h11 (oSure h11 (oPick (oSure rfl (oCall (fun _ e => f9_s e) fun z214 _ =>
 (oSure h11 (oSure h11 (oPick (oSure (nEq_t.2 rfl) (oCall (fun _ e => f9_s e) fun z219 _ =>
 (oSure h11 (oNeed fun h12 => (oSure h11 (oCall (fun _ e => f20_s e) fun z224 _ =>
 (oSure h11 (oSure h11 (oAsk (fun h13 => (oCall (fun _ e => f8_s e) fun z226 _ =>
 (oSure h13 (oLeaf (wks_tw [] [] (by kernel_rfl) (by kernel_rfl))))))
 (fun h13 => (oSure h13 (oLeaf (wks_tw [] [] (by kernel_rfl) (by kernel_rfl))))))))))))))))))))))))
 (fun h11 => (oSure h11 (oSure h11 (oSure h11 (oSure h11 (oSure h11 (oSure h11 (oSure h11 (oSure h11 (oSure h11 (oSure rfl (oSure rfl (oLeaf (wks_tw [] [] (by kernel_rfl) (by kernel_rfl)))))))))))))))))))))))))))))))
 (fun h10 => (oSure h10 (oSure h10 (oSure h10 (oSure h10 (oSure h10 (oSure rfl (oSure rfl (oSure rfl (oSure rfl (oSure rfl (oSure rfl (oSure rfl (oSure rfl (oSure rfl (oSure rfl (oSure rfl (oSure rfl (oLeaf (wks_tw [] [] (by kernel_rfl) (by kernel_rfl))))))))))))))))))))))))))))))))))))))))))))))))))))))))))))))))))
noncomputable def f6_m (a0 : ByteArray) (a1 : List ByteArray) (a2 : List ByteArray) : Option (Bool) := mod (f6_t a0 a1 a2)
theorem f6_e (a0 : ByteArray) (a1 : List ByteArray) (a2 : List ByteArray) : f6_m a0 a1 a2 =
 (sel (ilt 200 (ssz a0))
 (Option.bind (f8_m) fun z154 =>
 (some ((z154))))
 (Option.bind (f7_m a1 400) fun z162 =>
 (sel (z162)
 (Option.bind (f8_m) fun z164 =>
 (some ((z164))))
 (Option.bind (f7_m a2 400) fun z172 =>
 (sel (z172)
 (Option.bind (f8_m) fun z174 =>
 (some ((z174))))
 (sel (ilt 100 (llen a1))
 (Option.bind (f8_m) fun z176 =>
 (some ((z176))))
 (sel (ilt 100 (llen a2))
 (Option.bind (f8_m) fun z178 =>
 (some ((z178))))
 (sel (nle (List.length (List.append [] a1)) 9223372036854775807)
 (sel (nle (List.length (List.append [] a1) * 16) 140737488355328)
 (sel (nle (List.length (List.append (List.append [] a1) a2)) 9223372036854775807)
 (sel (nle (List.length (List.append (List.append [] a1) a2) * 16) 140737488355328)
 (Option.bind (f11_m a0 (List.append (List.append [] a1) a2)) fun z186 =>
 (Option.bind (f13_m a0 (List.append (List.append [] a1) a2)) fun z194 =>
 (Option.bind (f9_m (List.append (List.append [] a1) a2)) fun z199 =>
 (Option.bind (f9_m a1) fun z204 =>
 (Option.bind (f9_m a2) fun z209 =>
 (sel (nle (ByteArray.size z204 + ByteArray.size z209) 9223372036854775807)
 (sel (seq z199 (sapp z204 z209))
 (sel (seq (strOfNums (List.take 16 (List.drop 0 z186))) (strOfNums z194))
 (Option.bind (f9_m [a0]) fun z214 =>
 (Option.bind (f9_m (List.append (List.append [] a1) a2)) fun z219 =>
 (sel (nle (ByteArray.size z214 + ByteArray.size z219) 9223372036854775807)
 (Option.bind (f20_m (sapp z214 z219)) fun z224 =>
 (sel (lieq z186 z224)
 (Option.bind (f8_m) fun z226 =>
 (some ((z226))))
 (some ((false))))) none)))
 (some ((false))))
 (some ((false)))) none)))))) none) none) none) none)))))))) := by kernel_rfl
theorem f6_s {a0 : ByteArray} {a1 : List ByteArray} {a2 : List ByteArray} {z : Bool} (h : f6_m a0 a1 a2 = some z) : Snd P noG 6 [AV.one (Lf.v (Value.string a0)), AV.one (Lf.dat (K.sl K.str) a1), AV.one (Lf.dat (K.sl K.str) a2)] [] (SV.av (AV.one (Lf.v (Value.bool z)))) [] :=
 snd_tree (hn := f6_hn) 1 (f6_R a0 a1 a2) mixed (by kernel_rfl) (by kernel_rfl) (by kernel_rfl) (by kernel_rfl) (by kernel_rfl) (f6_v a0 a1 a2) (f6_o a0 a1 a2) h

end Go.Proofs.YtnngdpaeiafnlaaDoor
