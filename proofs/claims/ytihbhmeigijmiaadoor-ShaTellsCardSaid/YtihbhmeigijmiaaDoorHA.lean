/- A part of the proof that the laws of this seat hold for every input; no conditions of its own. -/
import Derived.Test.YtihbhmeigijmiaaDoorHS
open Go Vam Vam.Pg Go.Proofs
set_option linter.unusedVariables false
set_option maxRecDepth 100000
namespace Go.Proofs.YtihbhmeigijmiaaDoor
def f6_hn : Hn := Hn.mk [] [] [] [] [(3, [0, 1, 5])]
def f6_l2_D (p2_0 : List ByteArray) (x : Int × Int) : St := St.mk [(0, SV.av (AV.one (Lf.dat (K.sl K.str) p2_0))), (1, SV.av (AV.one (Lf.v (Value.int IntKind.i64 (Prod.fst x))))), (5, SV.av (AV.one (Lf.v (Value.int IntKind.i64 (Prod.snd x)))))] []
def f6_l2_E0 (p2_0 : List ByteArray) (y : Unit) : St := St.mk [(4, SV.av (AV.one (Lf.v (Value.bool true))))] []
def f6_l2_E1 (p2_0 : List ByteArray) (y : Unit) : St := St.mk [] []
def f6_l2_E (p2_0 : List ByteArray) : Unit ⊕ Unit → Ex × St
  | (.inl y) => (Ex.ret, f6_l2_E0 p2_0 y)
  | (.inr y) => (Ex.exit 0, f6_l2_E1 p2_0 y)
noncomputable def f6_l2_t (p2_0 : List ByteArray) (x : Int × Int) : DT (Ex × St) ((Int × Int) ⊕ (Unit ⊕ Unit)) :=
 (.ask (ilt (Prod.snd x) (llen p2_0))
 (.need (ile 0 (Prod.snd x)) true
 (.sure (ilt (Prod.snd x) (llen p2_0)) true
 (.ask (ilt (Prod.fst x) (ssz (gd K.str p2_0 (Int.toNat (Prod.snd x)))))
 (.leaf (Ex.ret, St.mk [(0, SV.av (AV.one (Lf.dat (K.sl K.str) p2_0))), (1, SV.av (AV.one (Lf.v (Value.int IntKind.i64 (Prod.fst x))))), (4, SV.av (AV.one (Lf.v (Value.bool true)))), (5, SV.av (AV.one (Lf.v (Value.int IntKind.i64 (Prod.snd x)))))] []) (.inr (.inl (()))))
 (.sure (ile 0 (Prod.snd x)) true
 (.sure (ilt (Prod.snd x) (llen p2_0)) true
 (.leaf (Vam.Ex.normal, St.mk [(0, SV.av (AV.one (Lf.dat (K.sl K.str) p2_0))), (1, SV.av (AV.one (Lf.v (Value.int IntKind.i64 (isub IntKind.i64 (Prod.fst x) (ssz (gd K.str p2_0 (Int.toNat (Prod.snd x))))))))), (5, SV.av (AV.one (Lf.v (Value.int IntKind.i64 (iadd IntKind.i64 (Prod.snd x) 1)))))] []) (.inl ((isub IntKind.i64 (Prod.fst x) (ssz (gd K.str p2_0 (Int.toNat (Prod.snd x)))), iadd IntKind.i64 (Prod.snd x) 1)))))))))
 (.leaf (Ex.exit 0, St.mk [(0, SV.av (AV.one (Lf.dat (K.sl K.str) p2_0))), (1, SV.av (AV.one (Lf.v (Value.int IntKind.i64 (Prod.fst x))))), (5, SV.av (AV.one (Lf.v (Value.int IntKind.i64 (Prod.snd x)))))] []) (.inr (.inr (())))))
theorem f6_l2_v (p2_0 : List ByteArray) (x : Int × Int) : vc (execK P noG Tryd.f6.ntmps f6_hn [0, 1, 4, 5] (loopOf Tryd.f6 2) (f6_l2_D p2_0 x)) (f6_l2_t p2_0 x) = vcT (f6_l2_t p2_0 x) := by kernel_rfl
theorem f6_l2_o (d : Nat) (p2_0 : List ByteArray) (x : Int × Int) : obl (Snd P noG) (Lp P noG Tryd.f6.ntmps [] f6_hn d) (RelL Tryd.f6.ntmps noG [] (f6_l2_D p2_0) (f6_l2_E p2_0)) (f6_l2_t p2_0 x) := by
 unfold f6_l2_t
 exact (oAsk (fun h0 => (oNeed fun h1 => (oSure h0 (oAsk (fun h2 => (oLeaf (relR rfl (wk_tw [] [4] [] (by kernel_rfl) (by kernel_rfl)))))
 (fun h2 => (oSure h1 (oSure h0 (oLeaf (relN (wk_tw [] [0, 1, 5] [] (by kernel_rfl) (by kernel_rfl)))))))))))
 (fun h0 => (oLeaf (relE rfl (wk_tw [] [] [] (by kernel_rfl) (by kernel_rfl))))))
noncomputable def f6_l2_m (p2_0 : List ByteArray) (x : Int × Int) : Option (Unit ⊕ Unit) := lrun (fun x => mod (f6_l2_t p2_0 x)) x
theorem f6_l2_e (p2_0 : List ByteArray) (x : Int × Int) : mod (f6_l2_t p2_0 x) =
 (sel (ilt (Prod.snd x) (llen p2_0))
 (sel (ile 0 (Prod.snd x))
 (sel (ilt (Prod.fst x) (ssz (gd K.str p2_0 (Int.toNat (Prod.snd x)))))
 (some ((.inr (.inl (())))))
 (some ((.inl ((isub IntKind.i64 (Prod.fst x) (ssz (gd K.str p2_0 (Int.toNat (Prod.snd x)))), iadd IntKind.i64 (Prod.snd x) 1)))))) none)
 (some ((.inr (.inr (())))))) := by kernel_rfl
theorem f6_l2_s0 (d : Nat) {p2_0 : List ByteArray} {σ : St} {x : Int × Int} {z : Unit} (h : f6_l2_m p2_0 x = some (.inl z)) (hw : Wk Tryd.f6.ntmps noG [] σ (f6_l2_D p2_0 x)) : Lp P noG Tryd.f6.ntmps [] f6_hn (d + 1) (loopOf Tryd.f6 2) σ (Ex.ret) (f6_l2_E0 p2_0 z) :=
 lp_tree (D := f6_l2_D p2_0) (E := f6_l2_E p2_0) (f6_l2_v p2_0) (f6_l2_o d p2_0) h hw
theorem f6_l2_s1 (d : Nat) {p2_0 : List ByteArray} {σ : St} {x : Int × Int} {z : Unit} (h : f6_l2_m p2_0 x = some (.inr z)) (hw : Wk Tryd.f6.ntmps noG [] σ (f6_l2_D p2_0 x)) : Lp P noG Tryd.f6.ntmps [] f6_hn (d + 1) (loopOf Tryd.f6 2) σ (Ex.exit 0) (f6_l2_E1 p2_0 z) :=
 lp_tree (D := f6_l2_D p2_0) (E := f6_l2_E p2_0) (f6_l2_v p2_0) (f6_l2_o d p2_0) h hw
def f6_R (a0 : List ByteArray) (a1 : Int) : Bool → SV × Hp
  | z => (SV.av (AV.one (Lf.v (Value.bool z))), [])
noncomputable def f6_t (a0 : List ByteArray) (a1 : Int) : DT (SV × Hp) (Bool) :=
 (.loop2 (loopOf Tryd.f6 2) (St.mk [(0, SV.av (AV.one (Lf.dat (K.sl K.str) a0))), (1, SV.av (AV.one (Lf.v (Value.int IntKind.i64 a1)))), (5, SV.av (AV.one (Lf.v (Value.int IntKind.i64 0))))] []) (f6_l2_m a0 (a1, 0)) (Ex.ret) (f6_l2_E0 a0) (Ex.exit 0) (f6_l2_E1 a0) (fun z9 =>
 (.leaf (SV.av (AV.one (Lf.v (Value.bool true))), []) (true))) fun z10 =>
 (.leaf (SV.av (AV.one (Lf.v (Value.bool false))), []) (false)))
theorem f6_v (a0 : List ByteArray) (a1 : Int) : vc (runR P noG Tryd.f6 f6_hn [AV.one (Lf.dat (K.sl K.str) a0), AV.one (Lf.v (Value.int IntKind.i64 a1))] []) (f6_t a0 a1) = vcT (f6_t a0 a1) := by kernel_rfl
theorem f6_o (a0 : List ByteArray) (a1 : Int) : obl (Snd P noG) (Lp P noG Tryd.f6.ntmps [] f6_hn 1) (RelF [] (f6_R a0 a1)) (f6_t a0 a1) := by
 unfold f6_t
 exact (oLoop2 (fun _ e => f6_l2_s0 0 e (wk_tw [] [0, 1, 5] [] (by kernel_rfl) (by kernel_rfl))) (fun _ e => f6_l2_s1 0 e (wk_tw [] [0, 1, 5] [] (by kernel_rfl) (by kernel_rfl))) (fun z9 _ =>
 (oLeaf (wks_tw [] [] (by kernel_rfl) (by kernel_rfl)))) fun z10 _ =>
 (oLeaf (wks_tw [] [] (by kernel_rfl) (by kernel_rfl))))
noncomputable def f6_m (a0 : List ByteArray) (a1 : Int) : Option (Bool) := mod (f6_t a0 a1)
theorem f6_e (a0 : List ByteArray) (a1 : Int) : f6_m a0 a1 =
 (Option.bind (f6_l2_m a0 (a1, 0)) (Sum.elim (fun z9 =>
 (some ((true)))) fun z10 =>
 (some ((false))))) := by kernel_rfl
theorem f6_s {a0 : List ByteArray} {a1 : Int} {z : Bool} (h : f6_m a0 a1 = some z) : Snd P noG 6 [AV.one (Lf.dat (K.sl K.str) a0), AV.one (Lf.v (Value.int IntKind.i64 a1))] [] (SV.av (AV.one (Lf.v (Value.bool z)))) [] :=
 snd_tree (hn := f6_hn) 1 (f6_R a0 a1) mixed (by kernel_rfl) (by kernel_rfl) (by kernel_rfl) (by kernel_rfl) (by kernel_rfl) (f6_v a0 a1) (f6_o a0 a1) h
def f14_hn : Hn := Hn.mk [] [] [] [] []
def f14_R (a0 : Int) (a1 : Int) : Int → SV × Hp
  | z => (SV.av (AV.one (Lf.v (Value.int IntKind.u32 z))), [])
noncomputable def f14_t (a0 : Int) (a1 : Int) : DT (SV × Hp) (Int) :=
 (.need (ile 0 (iand IntKind.u64 (icv IntKind.u64 a1) 31)) true
 (.need (ile 0 (isub IntKind.u64 32 (iand IntKind.u64 (icv IntKind.u64 a1) 31))) true
 (.leaf (SV.av (AV.one (Lf.v (Value.int IntKind.u32 (ior IntKind.u32 (shl IntKind.u32 a0 (iand IntKind.u64 (icv IntKind.u64 a1) 31)) (shr IntKind.u32 a0 (isub IntKind.u64 32 (iand IntKind.u64 (icv IntKind.u64 a1) 31))))))), []) (ior IntKind.u32 (shl IntKind.u32 a0 (iand IntKind.u64 (icv IntKind.u64 a1) 31)) (shr IntKind.u32 a0 (isub IntKind.u64 32 (iand IntKind.u64 (icv IntKind.u64 a1) 31)))))))
theorem f14_v (a0 : Int) (a1 : Int) : vc (runR P noG Tryd.f14 f14_hn [AV.one (Lf.v (Value.int IntKind.u32 a0)), AV.one (Lf.v (Value.int IntKind.i64 a1))] []) (f14_t a0 a1) = vcT (f14_t a0 a1) := by kernel_rfl
theorem f14_o (a0 : Int) (a1 : Int) : obl (Snd P noG) (Lp P noG Tryd.f14.ntmps [] f14_hn 1) (RelF [] (f14_R a0 a1)) (f14_t a0 a1) := by
 unfold f14_t
 exact (oNeed fun h0 => (oNeed fun h1 => (oLeaf (wks_tw [] [] (by kernel_rfl) (by kernel_rfl)))))
noncomputable def f14_m (a0 : Int) (a1 : Int) : Option (Int) := mod (f14_t a0 a1)
theorem f14_e (a0 : Int) (a1 : Int) : f14_m a0 a1 =
 (sel (ile 0 (iand IntKind.u64 (icv IntKind.u64 a1) 31))
 (sel (ile 0 (isub IntKind.u64 32 (iand IntKind.u64 (icv IntKind.u64 a1) 31)))
 (some ((ior IntKind.u32 (shl IntKind.u32 a0 (iand IntKind.u64 (icv IntKind.u64 a1) 31)) (shr IntKind.u32 a0 (isub IntKind.u64 32 (iand IntKind.u64 (icv IntKind.u64 a1) 31)))))) none) none) := by kernel_rfl
theorem f14_s {a0 : Int} {a1 : Int} {z : Int} (h : f14_m a0 a1 = some z) : Snd P noG 14 [AV.one (Lf.v (Value.int IntKind.u32 a0)), AV.one (Lf.v (Value.int IntKind.i64 a1))] [] (SV.av (AV.one (Lf.v (Value.int IntKind.u32 z)))) [] :=
 snd_tree (hn := f14_hn) 1 (f14_R a0 a1) mixed (by kernel_rfl) (by kernel_rfl) (by kernel_rfl) (by kernel_rfl) (by kernel_rfl) (f14_v a0 a1) (f14_o a0 a1) h
def f13_hn : Hn := Hn.mk [] [] [] [] [(4, [0, 2, 3, 10]), (9, [2, 3, 5])]
def f13_l3_D (p3_0 : List Int) (x : List Int × Int) : St := St.mk [(0, SV.av (AV.one (Lf.dat (K.sl (K.int IntKind.u8)) p3_0))), (2, SV.av (AV.one (Lf.ptr 30300 0 0 0 0))), (3, SV.av (AV.one (Lf.ptr 30301 0 0 0 0))), (10, SV.av (AV.one (Lf.v (Value.int IntKind.i64 (Prod.snd x)))))] [(30300, Blk.cells 39 [Lf.dat (K.arr 64 (K.int IntKind.u32)) (List.replicate 64 (0 : Int))]), (30301, Blk.cells 39 [Lf.dat (K.arr 64 (K.int IntKind.u32)) (Prod.fst x)])]
def f13_l3_E0 (p3_0 : List Int) (y : List Int) : St := St.mk [(2, SV.av (AV.one (Lf.ptr 60300 0 0 0 0))), (3, SV.av (AV.one (Lf.ptr 60301 0 0 0 0)))] [(60300, Blk.cells 39 [Lf.dat (K.arr 64 (K.int IntKind.u32)) (List.replicate 64 (0 : Int))]), (60301, Blk.cells 39 [Lf.dat (K.arr 64 (K.int IntKind.u32)) y])]
def f13_l3_E (p3_0 : List Int) : List Int → Ex × St
  | y => (Ex.exit 0, f13_l3_E0 p3_0 y)
def f13_s0 (p3_0 : List Int) (x : List Int × Int) : Int := ior IntKind.u32 (ior IntKind.u32 (shl IntKind.u32 (icv IntKind.u32 (gd (K.int IntKind.u8) p3_0 (Int.toNat (imul IntKind.i64 4 (Prod.snd x))))) 24) (shl IntKind.u32 (icv IntKind.u32 (gd (K.int IntKind.u8) p3_0 (Int.toNat (iadd IntKind.i64 (imul IntKind.i64 4 (Prod.snd x)) 1)))) 16)) (shl IntKind.u32 (icv IntKind.u32 (gd (K.int IntKind.u8) p3_0 (Int.toNat (iadd IntKind.i64 (imul IntKind.i64 4 (Prod.snd x)) 2)))) 8)
noncomputable def f13_l3_t (p3_0 : List Int) (x : List Int × Int) : DT (Ex × St) ((List Int × Int) ⊕ (List Int)) :=
 (.ask (ilt (Prod.snd x) 16)
 (.need (ile 0 (imul IntKind.i64 4 (Prod.snd x))) true
 (.need (ilt (imul IntKind.i64 4 (Prod.snd x)) (llen p3_0)) true
 (.sure (true) true
 (.need (ile 0 (iadd IntKind.i64 (imul IntKind.i64 4 (Prod.snd x)) 1)) true
 (.need (ilt (iadd IntKind.i64 (imul IntKind.i64 4 (Prod.snd x)) 1) (llen p3_0)) true
 (.sure (true) true
 (.need (ile 0 (iadd IntKind.i64 (imul IntKind.i64 4 (Prod.snd x)) 2)) true
 (.need (ilt (iadd IntKind.i64 (imul IntKind.i64 4 (Prod.snd x)) 2) (llen p3_0)) true
 (.sure (true) true
 (.need (ile 0 (iadd IntKind.i64 (imul IntKind.i64 4 (Prod.snd x)) 3)) true
 (.need (ilt (iadd IntKind.i64 (imul IntKind.i64 4 (Prod.snd x)) 3) (llen p3_0)) true
 (.need (ile 0 (Prod.snd x)) true
 (.need (ilt (Prod.snd x) 64) true
 (.need (nlt (Int.toNat (Prod.snd x)) 64) true
 (.leaf (Vam.Ex.normal, St.mk [(0, SV.av (AV.one (Lf.dat (K.sl (K.int IntKind.u8)) p3_0))), (2, SV.av (AV.one (Lf.ptr 30300 0 0 0 0))), (3, SV.av (AV.one (Lf.ptr 30301 0 0 0 0))), (10, SV.av (AV.one (Lf.v (Value.int IntKind.i64 (iadd IntKind.i64 (Prod.snd x) 1)))))] [(30300, Blk.cells 39 [Lf.dat (K.arr 64 (K.int IntKind.u32)) (List.replicate 64 (0 : Int))]), (30301, Blk.cells 39 [Lf.dat (K.arr 64 (K.int IntKind.u32)) (List.set (Prod.fst x) (Int.toNat (Prod.snd x)) (ior IntKind.u32 (f13_s0 p3_0 x) (icv IntKind.u32 (gd (K.int IntKind.u8) p3_0 (Int.toNat (iadd IntKind.i64 (imul IntKind.i64 4 (Prod.snd x)) 3))))))])]) (.inl ((List.set (Prod.fst x) (Int.toNat (Prod.snd x)) (ior IntKind.u32 (f13_s0 p3_0 x) (icv IntKind.u32 (gd (K.int IntKind.u8) p3_0 (Int.toNat (iadd IntKind.i64 (imul IntKind.i64 4 (Prod.snd x)) 3))))), iadd IntKind.i64 (Prod.snd x) 1))))))))))))))))))
 (.leaf (Ex.exit 0, St.mk [(0, SV.av (AV.one (Lf.dat (K.sl (K.int IntKind.u8)) p3_0))), (2, SV.av (AV.one (Lf.ptr 30300 0 0 0 0))), (3, SV.av (AV.one (Lf.ptr 30301 0 0 0 0))), (10, SV.av (AV.one (Lf.v (Value.int IntKind.i64 (Prod.snd x)))))] [(30300, Blk.cells 39 [Lf.dat (K.arr 64 (K.int IntKind.u32)) (List.replicate 64 (0 : Int))]), (30301, Blk.cells 39 [Lf.dat (K.arr 64 (K.int IntKind.u32)) (Prod.fst x)])]) (.inr (Prod.fst x))))
theorem f13_l3_v (p3_0 : List Int) (x : List Int × Int) : vc (execK P noG Tryd.f13.ntmps f13_hn [0, 2, 3, 10] (loopOf Tryd.f13 3) (f13_l3_D p3_0 x)) (f13_l3_t p3_0 x) = vcT (f13_l3_t p3_0 x) := by kernel_rfl
theorem f13_l3_o (d : Nat) (p3_0 : List Int) (x : List Int × Int) : obl (Snd P noG) (Lp P noG Tryd.f13.ntmps [] f13_hn d) (RelL Tryd.f13.ntmps noG [] (f13_l3_D p3_0) (f13_l3_E p3_0)) (f13_l3_t p3_0 x) := by
 unfold f13_l3_t
 exact (oAsk (fun h0 => (oNeed fun h1 => (oNeed fun h2 => (oSure rfl (oNeed fun h3 => (oNeed fun h4 => (oSure rfl (oNeed fun h5 => (oNeed fun h6 => (oSure rfl (oNeed fun h7 => (oNeed fun h8 => (oNeed fun h9 => (oNeed fun h10 => (oNeed fun h11 => (oLeaf (relN (wk_tw [(30301, 30301), (30300, 30300)] [0, 2, 3, 10] [] (by kernel_rfl) (by kernel_rfl)))))))))))))))))))
 (fun h0 => (oLeaf (relE rfl (wk_tw [(30301, 60301), (30300, 60300)] [2, 3] [] (by kernel_rfl) (by kernel_rfl))))))
noncomputable def f13_l3_m (p3_0 : List Int) (x : List Int × Int) : Option (List Int) := lrun (fun x => mod (f13_l3_t p3_0 x)) x
theorem f13_l3_e (p3_0 : List Int) (x : List Int × Int) : mod (f13_l3_t p3_0 x) =
 (sel (ilt (Prod.snd x) 16)
 (sel (ile 0 (imul IntKind.i64 4 (Prod.snd x)))
 (sel (ilt (imul IntKind.i64 4 (Prod.snd x)) (llen p3_0))
 (sel (ile 0 (iadd IntKind.i64 (imul IntKind.i64 4 (Prod.snd x)) 1))
 (sel (ilt (iadd IntKind.i64 (imul IntKind.i64 4 (Prod.snd x)) 1) (llen p3_0))
 (sel (ile 0 (iadd IntKind.i64 (imul IntKind.i64 4 (Prod.snd x)) 2))
 (sel (ilt (iadd IntKind.i64 (imul IntKind.i64 4 (Prod.snd x)) 2) (llen p3_0))
 (sel (ile 0 (iadd IntKind.i64 (imul IntKind.i64 4 (Prod.snd x)) 3))
 (sel (ilt (iadd IntKind.i64 (imul IntKind.i64 4 (Prod.snd x)) 3) (llen p3_0))
 (sel (ile 0 (Prod.snd x))
 (sel (ilt (Prod.snd x) 64)
 (sel (nlt (Int.toNat (Prod.snd x)) 64)
 (some ((.inl ((List.set (Prod.fst x) (Int.toNat (Prod.snd x)) (ior IntKind.u32 (f13_s0 p3_0 x) (icv IntKind.u32 (gd (K.int IntKind.u8) p3_0 (Int.toNat (iadd IntKind.i64 (imul IntKind.i64 4 (Prod.snd x)) 3))))), iadd IntKind.i64 (Prod.snd x) 1))))) none) none) none) none) none) none) none) none) none) none) none)
 (some ((.inr (Prod.fst x))))) := by kernel_rfl
theorem f13_l3_s0 (d : Nat) {p3_0 : List Int} {σ : St} {x : List Int × Int} {z : List Int} (h : f13_l3_m p3_0 x = some z) (hw : Wk Tryd.f13.ntmps noG [] σ (f13_l3_D p3_0 x)) : Lp P noG Tryd.f13.ntmps [] f13_hn (d + 1) (loopOf Tryd.f13 3) σ (Ex.exit 0) (f13_l3_E0 p3_0 z) :=
 lp_tree (D := f13_l3_D p3_0) (E := f13_l3_E p3_0) (f13_l3_v p3_0) (f13_l3_o d p3_0) h hw
def f13_l8_D  (x : List Int × Int) : St := St.mk [(2, SV.av (AV.one (Lf.ptr 30800 0 0 0 0))), (3, SV.av (AV.one (Lf.ptr 30801 0 0 0 0))), (5, SV.av (AV.one (Lf.v (Value.int IntKind.i64 (Prod.snd x)))))] [(30800, Blk.cells 39 [Lf.dat (K.arr 64 (K.int IntKind.u32)) (List.replicate 64 (0 : Int))]), (30801, Blk.cells 39 [Lf.dat (K.arr 64 (K.int IntKind.u32)) (Prod.fst x)])]
def f13_l8_E0  (y : List Int) : St := St.mk [(2, SV.av (AV.one (Lf.ptr 60800 0 0 0 0))), (3, SV.av (AV.one (Lf.ptr 60801 0 0 0 0)))] [(60800, Blk.cells 39 [Lf.dat (K.arr 64 (K.int IntKind.u32)) (List.replicate 64 (0 : Int))]), (60801, Blk.cells 39 [Lf.dat (K.arr 64 (K.int IntKind.u32)) y])]
def f13_l8_E  : List Int → Ex × St
  | y => (Ex.exit 2, f13_l8_E0  y)
def f13_s1 (x : List Int × Int) (z150 : Int) (z158 : Int) : Int := iadd IntKind.u32 (iadd IntKind.u32 (gd (K.int IntKind.u32) (Prod.fst x) (Int.toNat (isub IntKind.i64 (Prod.snd x) 16))) (ixor IntKind.u32 (ixor IntKind.u32 z150 z158) (shr IntKind.u32 (gd (K.int IntKind.u32) (Prod.fst x) (Int.toNat (isub IntKind.i64 (Prod.snd x) 15))) 3))) (gd (K.int IntKind.u32) (Prod.fst x) (Int.toNat (isub IntKind.i64 (Prod.snd x) 7)))
noncomputable def f13_l8_t  (x : List Int × Int) : DT (Ex × St) ((List Int × Int) ⊕ (List Int)) :=
 (.ask (ilt (Prod.snd x) 64)
 (.need (ile 0 (isub IntKind.i64 (Prod.snd x) 15)) true
 (.need (ilt (isub IntKind.i64 (Prod.snd x) 15) 64) true
 (.need (nlt (Int.toNat (isub IntKind.i64 (Prod.snd x) 15)) 64) true
 (.need (ile 0 (isub IntKind.i64 (Prod.snd x) 2)) true
 (.need (ilt (isub IntKind.i64 (Prod.snd x) 2) 64) true
 (.need (nlt (Int.toNat (isub IntKind.i64 (Prod.snd x) 2)) 64) true
 (.call 14 [AV.one (Lf.v (Value.int IntKind.u32 (gd (K.int IntKind.u32) (Prod.fst x) (Int.toNat (isub IntKind.i64 (Prod.snd x) 15))))), AV.one (Lf.v (Value.int IntKind.i64 (-7)))] [] (f14_m (gd (K.int IntKind.u32) (Prod.fst x) (Int.toNat (isub IntKind.i64 (Prod.snd x) 15))) (-7)) (fun z150 => SV.av (AV.one (Lf.v (Value.int IntKind.u32 z150)))) (fun z150 => []) fun z150 =>
 (.call 14 [AV.one (Lf.v (Value.int IntKind.u32 (gd (K.int IntKind.u32) (Prod.fst x) (Int.toNat (isub IntKind.i64 (Prod.snd x) 15))))), AV.one (Lf.v (Value.int IntKind.i64 (-18)))] [] (f14_m (gd (K.int IntKind.u32) (Prod.fst x) (Int.toNat (isub IntKind.i64 (Prod.snd x) 15))) (-18)) (fun z158 => SV.av (AV.one (Lf.v (Value.int IntKind.u32 z158)))) (fun z158 => []) fun z158 =>
 (.sure (true) true
 (.call 14 [AV.one (Lf.v (Value.int IntKind.u32 (gd (K.int IntKind.u32) (Prod.fst x) (Int.toNat (isub IntKind.i64 (Prod.snd x) 2))))), AV.one (Lf.v (Value.int IntKind.i64 (-17)))] [] (f14_m (gd (K.int IntKind.u32) (Prod.fst x) (Int.toNat (isub IntKind.i64 (Prod.snd x) 2))) (-17)) (fun z166 => SV.av (AV.one (Lf.v (Value.int IntKind.u32 z166)))) (fun z166 => []) fun z166 =>
 (.call 14 [AV.one (Lf.v (Value.int IntKind.u32 (gd (K.int IntKind.u32) (Prod.fst x) (Int.toNat (isub IntKind.i64 (Prod.snd x) 2))))), AV.one (Lf.v (Value.int IntKind.i64 (-19)))] [] (f14_m (gd (K.int IntKind.u32) (Prod.fst x) (Int.toNat (isub IntKind.i64 (Prod.snd x) 2))) (-19)) (fun z174 => SV.av (AV.one (Lf.v (Value.int IntKind.u32 z174)))) (fun z174 => []) fun z174 =>
 (.sure (true) true
 (.need (ile 0 (isub IntKind.i64 (Prod.snd x) 16)) true
 (.need (ilt (isub IntKind.i64 (Prod.snd x) 16) 64) true
 (.need (nlt (Int.toNat (isub IntKind.i64 (Prod.snd x) 16)) 64) true
 (.need (ile 0 (isub IntKind.i64 (Prod.snd x) 7)) true
 (.need (ilt (isub IntKind.i64 (Prod.snd x) 7) 64) true
 (.need (nlt (Int.toNat (isub IntKind.i64 (Prod.snd x) 7)) 64) true
 (.need (ile 0 (Prod.snd x)) true
 (.sure (ilt (Prod.snd x) 64) true
 (.need (nlt (Int.toNat (Prod.snd x)) 64) true
 (.leaf (Vam.Ex.normal, St.mk [(2, SV.av (AV.one (Lf.ptr 30800 0 0 0 0))), (3, SV.av (AV.one (Lf.ptr 30801 0 0 0 0))), (5, SV.av (AV.one (Lf.v (Value.int IntKind.i64 (iadd IntKind.i64 (Prod.snd x) 1)))))] [(30800, Blk.cells 39 [Lf.dat (K.arr 64 (K.int IntKind.u32)) (List.replicate 64 (0 : Int))]), (30801, Blk.cells 39 [Lf.dat (K.arr 64 (K.int IntKind.u32)) (List.set (Prod.fst x) (Int.toNat (Prod.snd x)) (iadd IntKind.u32 (f13_s1 x z150 z158) (ixor IntKind.u32 (ixor IntKind.u32 z166 z174) (shr IntKind.u32 (gd (K.int IntKind.u32) (Prod.fst x) (Int.toNat (isub IntKind.i64 (Prod.snd x) 2))) 10))))])]) (.inl ((List.set (Prod.fst x) (Int.toNat (Prod.snd x)) (iadd IntKind.u32 (f13_s1 x z150 z158) (ixor IntKind.u32 (ixor IntKind.u32 z166 z174) (shr IntKind.u32 (gd (K.int IntKind.u32) (Prod.fst x) (Int.toNat (isub IntKind.i64 (Prod.snd x) 2))) 10))), iadd IntKind.i64 (Prod.snd x) 1)))))))))))))))))))))))))
 (.leaf (Ex.exit 2, St.mk [(2, SV.av (AV.one (Lf.ptr 30800 0 0 0 0))), (3, SV.av (AV.one (Lf.ptr 30801 0 0 0 0))), (5, SV.av (AV.one (Lf.v (Value.int IntKind.i64 (Prod.snd x)))))] [(30800, Blk.cells 39 [Lf.dat (K.arr 64 (K.int IntKind.u32)) (List.replicate 64 (0 : Int))]), (30801, Blk.cells 39 [Lf.dat (K.arr 64 (K.int IntKind.u32)) (Prod.fst x)])]) (.inr (Prod.fst x))))
theorem f13_l8_v  (x : List Int × Int) : vc (execK P noG Tryd.f13.ntmps f13_hn [2, 3, 5] (loopOf Tryd.f13 8) (f13_l8_D  x)) (f13_l8_t  x) = vcT (f13_l8_t  x) := by kernel_rfl
theorem f13_l8_o (d : Nat)  (x : List Int × Int) : obl (Snd P noG) (Lp P noG Tryd.f13.ntmps [] f13_hn d) (RelL Tryd.f13.ntmps noG [] (f13_l8_D ) (f13_l8_E )) (f13_l8_t  x) := by
 unfold f13_l8_t
 exact (oAsk (fun h0 => (oNeed fun h1 => (oNeed fun h2 => (oNeed fun h3 => (oNeed fun h4 => (oNeed fun h5 => (oNeed fun h6 => (oCall (fun _ e => f14_s e) fun z150 _ =>
 (oCall (fun _ e => f14_s e) fun z158 _ =>
 (oSure rfl (oCall (fun _ e => f14_s e) fun z166 _ =>
 (oCall (fun _ e => f14_s e) fun z174 _ =>
 (oSure rfl (oNeed fun h7 => (oNeed fun h8 => (oNeed fun h9 => (oNeed fun h10 => (oNeed fun h11 => (oNeed fun h12 => (oNeed fun h13 => (oSure h0 (oNeed fun h14 => (oLeaf (relN (wk_tw [(30801, 30801), (30800, 30800)] [2, 3, 5] [] (by kernel_rfl) (by kernel_rfl))))))))))))))))))))))))))
 (fun h0 => (oLeaf (relE rfl (wk_tw [(30801, 60801), (30800, 60800)] [2, 3] [] (by kernel_rfl) (by kernel_rfl))))))
noncomputable def f13_l8_m  (x : List Int × Int) : Option (List Int) := lrun (fun x => mod (f13_l8_t  x)) x
theorem f13_l8_e  (x : List Int × Int) : mod (f13_l8_t  x) =
 (sel (ilt (Prod.snd x) 64)
 (sel (ile 0 (isub IntKind.i64 (Prod.snd x) 15))
 (sel (ilt (isub IntKind.i64 (Prod.snd x) 15) 64)
 (sel (nlt (Int.toNat (isub IntKind.i64 (Prod.snd x) 15)) 64)
 (sel (ile 0 (isub IntKind.i64 (Prod.snd x) 2))
 (sel (ilt (isub IntKind.i64 (Prod.snd x) 2) 64)
 (sel (nlt (Int.toNat (isub IntKind.i64 (Prod.snd x) 2)) 64)
 (Option.bind (f14_m (gd (K.int IntKind.u32) (Prod.fst x) (Int.toNat (isub IntKind.i64 (Prod.snd x) 15))) (-7)) fun z150 =>
 (Option.bind (f14_m (gd (K.int IntKind.u32) (Prod.fst x) (Int.toNat (isub IntKind.i64 (Prod.snd x) 15))) (-18)) fun z158 =>
 (Option.bind (f14_m (gd (K.int IntKind.u32) (Prod.fst x) (Int.toNat (isub IntKind.i64 (Prod.snd x) 2))) (-17)) fun z166 =>
 (Option.bind (f14_m (gd (K.int IntKind.u32) (Prod.fst x) (Int.toNat (isub IntKind.i64 (Prod.snd x) 2))) (-19)) fun z174 =>
 (sel (ile 0 (isub IntKind.i64 (Prod.snd x) 16))
 (sel (ilt (isub IntKind.i64 (Prod.snd x) 16) 64)
 (sel (nlt (Int.toNat (isub IntKind.i64 (Prod.snd x) 16)) 64)
 (sel (ile 0 (isub IntKind.i64 (Prod.snd x) 7))
 (sel (ilt (isub IntKind.i64 (Prod.snd x) 7) 64)
 (sel (nlt (Int.toNat (isub IntKind.i64 (Prod.snd x) 7)) 64)
 (sel (ile 0 (Prod.snd x))
 (sel (nlt (Int.toNat (Prod.snd x)) 64)
 (some ((.inl ((List.set (Prod.fst x) (Int.toNat (Prod.snd x)) (iadd IntKind.u32 (f13_s1 x z150 z158) (ixor IntKind.u32 (ixor IntKind.u32 z166 z174) (shr IntKind.u32 (gd (K.int IntKind.u32) (Prod.fst x) (Int.toNat (isub IntKind.i64 (Prod.snd x) 2))) 10))), iadd IntKind.i64 (Prod.snd x) 1))))) none) none) none) none) none) none) none) none))))) none) none) none) none) none) none)
 (some ((.inr (Prod.fst x))))) := by kernel_rfl
theorem f13_l8_s0 (d : Nat)  {σ : St} {x : List Int × Int} {z : List Int} (h : f13_l8_m  x = some z) (hw : Wk Tryd.f13.ntmps noG [] σ (f13_l8_D  x)) : Lp P noG Tryd.f13.ntmps [] f13_hn (d + 1) (loopOf Tryd.f13 8) σ (Ex.exit 2) (f13_l8_E0  z) :=
 lp_tree (D := f13_l8_D ) (E := f13_l8_E ) (f13_l8_v ) (f13_l8_o d ) h hw
def f13_R (a0 : List Int) : List Int → SV × Hp
  | z => (SV.av (AV.one (Lf.dat (K.arr 64 (K.int IntKind.u32)) z)), [])
noncomputable def f13_t (a0 : List Int) : DT (SV × Hp) (List Int) :=
 (.loop (loopOf Tryd.f13 3) (St.mk [(0, SV.av (AV.one (Lf.dat (K.sl (K.int IntKind.u8)) a0))), (2, SV.av (AV.one (Lf.ptr 2 0 0 0 0))), (3, SV.av (AV.one (Lf.ptr 3 0 0 0 0))), (10, SV.av (AV.one (Lf.v (Value.int IntKind.i64 0))))] [(2, Blk.cells 39 [Lf.dat (K.arr 64 (K.int IntKind.u32)) (List.replicate 64 (0 : Int))]), (3, Blk.cells 39 [Lf.dat (K.arr 64 (K.int IntKind.u32)) (List.replicate 64 (0 : Int))])]) (f13_l3_m a0 (List.replicate 64 0, 0)) (Ex.exit 0) (f13_l3_E0 a0) fun z175 =>
 (.loop (loopOf Tryd.f13 8) (St.mk [(2, SV.av (AV.one (Lf.ptr 60300 0 0 0 0))), (3, SV.av (AV.one (Lf.ptr 60301 0 0 0 0))), (5, SV.av (AV.one (Lf.v (Value.int IntKind.i64 16))))] [(60300, Blk.cells 39 [Lf.dat (K.arr 64 (K.int IntKind.u32)) (List.replicate 64 (0 : Int))]), (60301, Blk.cells 39 [Lf.dat (K.arr 64 (K.int IntKind.u32)) z175])]) (f13_l8_m (z175, 16)) (Ex.exit 2) (f13_l8_E0) fun z176 =>
 (.leaf (SV.av (AV.one (Lf.dat (K.arr 64 (K.int IntKind.u32)) z176)), [(60800, Blk.cells 39 [Lf.dat (K.arr 64 (K.int IntKind.u32)) z176]), (60801, Blk.cells 39 [Lf.dat (K.arr 64 (K.int IntKind.u32)) z176])]) (z176))))
theorem f13_v (a0 : List Int) : vc (runR P noG Tryd.f13 f13_hn [AV.one (Lf.dat (K.sl (K.int IntKind.u8)) a0)] []) (f13_t a0) = vcT (f13_t a0) := by kernel_rfl
theorem f13_o (a0 : List Int) : obl (Snd P noG) (Lp P noG Tryd.f13.ntmps [] f13_hn 1) (RelF [] (f13_R a0)) (f13_t a0) := by
 unfold f13_t
 exact (oLoop (fun _ e => f13_l3_s0 0 e (wk_tw [(3, 30301), (2, 30300)] [0, 2, 3, 10] [] (by kernel_rfl) (by kernel_rfl))) fun z175 _ =>
 (oLoop (fun _ e => f13_l8_s0 0 e (wk_tw [(60301, 30801), (60300, 30800)] [2, 3, 5] [] (by kernel_rfl) (by kernel_rfl))) fun z176 _ =>
 (oLeaf (wks_tw [] [] (by kernel_rfl) (by kernel_rfl)))))
noncomputable def f13_m (a0 : List Int) : Option (List Int) := mod (f13_t a0)
theorem f13_e (a0 : List Int) : f13_m a0 =
 (Option.bind (f13_l3_m a0 (List.replicate 64 0, 0)) fun z175 =>
 (Option.bind (f13_l8_m (z175, 16)) fun z176 =>
 (some ((z176))))) := by kernel_rfl
theorem f13_s {a0 : List Int} {z : List Int} (h : f13_m a0 = some z) : Snd P noG 13 [AV.one (Lf.dat (K.sl (K.int IntKind.u8)) a0)] [] (SV.av (AV.one (Lf.dat (K.arr 64 (K.int IntKind.u32)) z))) [] :=
 snd_tree (hn := f13_hn) 1 (f13_R a0) mixed (by kernel_rfl) (by kernel_rfl) (by kernel_rfl) (by kernel_rfl) (by kernel_rfl) (f13_v a0) (f13_o a0) h
def f11_hn : Hn := Hn.mk [] [] [] [] [(5, [2, 4, 5, 6, 16]), (13, [2, 4, 6, 98])]
def f11_l4_D (p4_5 : List Int) (p4_6 : List Int) (x : List Int × Int) : St := St.mk [(2, SV.av (AV.one (Lf.ptr 30400 0 0 0 0))), (4, SV.av (AV.one (Lf.ptr 30401 0 0 0 0))), (5, SV.av (AV.one (Lf.ptr 30402 0 0 0 0))), (6, SV.av (AV.one (Lf.ptr 30403 0 0 0 0))), (16, SV.av (AV.one (Lf.v (Value.int IntKind.i64 (Prod.snd x)))))] [(30400, Blk.cells 35 [Lf.dat (K.arr 8 (K.int IntKind.u32)) p4_5]), (30401, Blk.cells 35 [Lf.dat (K.arr 8 (K.int IntKind.u32)) [0, 0, 0, 0, 0, 0, 0, 0]]), (30402, Blk.cells 39 [Lf.dat (K.arr 64 (K.int IntKind.u32)) p4_6]), (30403, Blk.cells 35 [Lf.dat (K.arr 8 (K.int IntKind.u32)) (Prod.fst x)])]
def f11_l4_E0 (p4_5 : List Int) (p4_6 : List Int) (y : List Int) : St := St.mk [(2, SV.av (AV.one (Lf.ptr 60400 0 0 0 0))), (4, SV.av (AV.one (Lf.ptr 60401 0 0 0 0))), (6, SV.av (AV.one (Lf.ptr 60402 0 0 0 0)))] [(60400, Blk.cells 35 [Lf.dat (K.arr 8 (K.int IntKind.u32)) p4_5]), (60401, Blk.cells 35 [Lf.dat (K.arr 8 (K.int IntKind.u32)) [0, 0, 0, 0, 0, 0, 0, 0]]), (60402, Blk.cells 35 [Lf.dat (K.arr 8 (K.int IntKind.u32)) y])]
def f11_l4_E (p4_5 : List Int) (p4_6 : List Int) : List Int → Ex × St
  | y => (Ex.exit 0, f11_l4_E0 p4_5 p4_6 y)
def f11_s0 (x : List Int × Int) (z342 : Int) (z350 : Int) (z358 : Int) : Int := iadd IntKind.u32 (iadd IntKind.u32 (gd (K.int IntKind.u32) (Prod.fst x) 7) (ixor IntKind.u32 (ixor IntKind.u32 z342 z350) z358)) (ixor IntKind.u32 (iand IntKind.u32 (gd (K.int IntKind.u32) (Prod.fst x) 4) (gd (K.int IntKind.u32) (Prod.fst x) 5)) (iand IntKind.u32 (icom IntKind.u32 (gd (K.int IntKind.u32) (Prod.fst x) 4)) (gd (K.int IntKind.u32) (Prod.fst x) 6)))
def f11_s1 (x : List Int × Int) : Int := ixor IntKind.u32 (ixor IntKind.u32 (iand IntKind.u32 (gd (K.int IntKind.u32) (Prod.fst x) 0) (gd (K.int IntKind.u32) (Prod.fst x) 1)) (iand IntKind.u32 (gd (K.int IntKind.u32) (Prod.fst x) 0) (gd (K.int IntKind.u32) (Prod.fst x) 2))) (iand IntKind.u32 (gd (K.int IntKind.u32) (Prod.fst x) 1) (gd (K.int IntKind.u32) (Prod.fst x) 2))
noncomputable def f11_l4_t (p4_5 : List Int) (p4_6 : List Int) (x : List Int × Int) : DT (Ex × St) ((List Int × Int) ⊕ (List Int)) :=
 (.ask (ilt (Prod.snd x) 64)
 (.sure (true) true
 (.sure (true) true
 (.sure (true) true
 (.sure (true) true
 (.sure (true) true
 (.sure (true) true
 (.sure (true) true
 (.sure (true) true
 (.sure (true) true
 (.call 14 [AV.one (Lf.v (Value.int IntKind.u32 (gd (K.int IntKind.u32) (Prod.fst x) 4))), AV.one (Lf.v (Value.int IntKind.i64 (-6)))] [] (f14_m (gd (K.int IntKind.u32) (Prod.fst x) 4) (-6)) (fun z342 => SV.av (AV.one (Lf.v (Value.int IntKind.u32 z342)))) (fun z342 => []) fun z342 =>
 (.call 14 [AV.one (Lf.v (Value.int IntKind.u32 (gd (K.int IntKind.u32) (Prod.fst x) 4))), AV.one (Lf.v (Value.int IntKind.i64 (-11)))] [] (f14_m (gd (K.int IntKind.u32) (Prod.fst x) 4) (-11)) (fun z350 => SV.av (AV.one (Lf.v (Value.int IntKind.u32 z350)))) (fun z350 => []) fun z350 =>
 (.call 14 [AV.one (Lf.v (Value.int IntKind.u32 (gd (K.int IntKind.u32) (Prod.fst x) 4))), AV.one (Lf.v (Value.int IntKind.i64 (-25)))] [] (f14_m (gd (K.int IntKind.u32) (Prod.fst x) 4) (-25)) (fun z358 => SV.av (AV.one (Lf.v (Value.int IntKind.u32 z358)))) (fun z358 => []) fun z358 =>
 (.sure (true) true
 (.sure (true) true
 (.sure (true) true
 (.sure (true) true
 (.sure (true) true
 (.sure (true) true
 (.need (ile 0 (Prod.snd x)) true
 (.sure (ilt (Prod.snd x) 64) true
 (.sure (ile 0 (Prod.snd x)) true
 (.sure (ilt (Prod.snd x) 64) true
 (.need (nlt (Int.toNat (Prod.snd x)) 64) true
 (.call 14 [AV.one (Lf.v (Value.int IntKind.u32 (gd (K.int IntKind.u32) (Prod.fst x) 0))), AV.one (Lf.v (Value.int IntKind.i64 (-2)))] [] (f14_m (gd (K.int IntKind.u32) (Prod.fst x) 0) (-2)) (fun z366 => SV.av (AV.one (Lf.v (Value.int IntKind.u32 z366)))) (fun z366 => []) fun z366 =>
 (.call 14 [AV.one (Lf.v (Value.int IntKind.u32 (gd (K.int IntKind.u32) (Prod.fst x) 0))), AV.one (Lf.v (Value.int IntKind.i64 (-13)))] [] (f14_m (gd (K.int IntKind.u32) (Prod.fst x) 0) (-13)) (fun z374 => SV.av (AV.one (Lf.v (Value.int IntKind.u32 z374)))) (fun z374 => []) fun z374 =>
 (.call 14 [AV.one (Lf.v (Value.int IntKind.u32 (gd (K.int IntKind.u32) (Prod.fst x) 0))), AV.one (Lf.v (Value.int IntKind.i64 (-22)))] [] (f14_m (gd (K.int IntKind.u32) (Prod.fst x) 0) (-22)) (fun z382 => SV.av (AV.one (Lf.v (Value.int IntKind.u32 z382)))) (fun z382 => []) fun z382 =>
 (.sure (true) true
 (.sure (true) true
 (.sure (true) true
 (.sure (true) true
 (.sure (true) true
 (.sure (true) true
 (.sure (true) true
 (.sure (true) true
 (.sure (true) true
 (.sure (true) true
 (.sure (true) true
 (.sure (true) true
 (.sure (true) true
 (.sure (true) true
 (.sure (true) true
 (.sure (true) true
 (.sure (true) true
 (.sure (true) true
 (.sure (true) true
 (.sure (true) true
 (.sure (true) true
 (.sure (true) true
 (.sure (true) true
 (.sure (true) true
 (.sure (true) true
 (.sure (true) true
 (.sure (true) true
 (.sure (true) true
 (.sure (true) true
 (.sure (true) true
 (.sure (true) true
 (.sure (true) true
 (.sure (true) true
 (.leaf (Vam.Ex.normal, St.mk [(2, SV.av (AV.one (Lf.ptr 30400 0 0 0 0))), (4, SV.av (AV.one (Lf.ptr 30401 0 0 0 0))), (5, SV.av (AV.one (Lf.ptr 30402 0 0 0 0))), (6, SV.av (AV.one (Lf.ptr 30403 0 0 0 0))), (16, SV.av (AV.one (Lf.v (Value.int IntKind.i64 (iadd IntKind.i64 (Prod.snd x) 1)))))] [(30400, Blk.cells 35 [Lf.dat (K.arr 8 (K.int IntKind.u32)) p4_5]), (30401, Blk.cells 35 [Lf.dat (K.arr 8 (K.int IntKind.u32)) [0, 0, 0, 0, 0, 0, 0, 0]]), (30402, Blk.cells 39 [Lf.dat (K.arr 64 (K.int IntKind.u32)) p4_6]), (30403, Blk.cells 35 [Lf.dat (K.arr 8 (K.int IntKind.u32)) [iadd IntKind.u32 (iadd IntKind.u32 (iadd IntKind.u32 (f11_s0 x z342 z350 z358) (gd (K.int IntKind.u32) constL (Int.toNat (Prod.snd x)))) (gd (K.int IntKind.u32) p4_6 (Int.toNat (Prod.snd x)))) (iadd IntKind.u32 (ixor IntKind.u32 (ixor IntKind.u32 z366 z374) z382) (f11_s1 x)), gd (K.int IntKind.u32) (Prod.fst x) 0, gd (K.int IntKind.u32) (Prod.fst x) 1, gd (K.int IntKind.u32) (Prod.fst x) 2, iadd IntKind.u32 (gd (K.int IntKind.u32) (Prod.fst x) 3) (iadd IntKind.u32 (iadd IntKind.u32 (f11_s0 x z342 z350 z358) (gd (K.int IntKind.u32) constL (Int.toNat (Prod.snd x)))) (gd (K.int IntKind.u32) p4_6 (Int.toNat (Prod.snd x)))), gd (K.int IntKind.u32) (Prod.fst x) 4, gd (K.int IntKind.u32) (Prod.fst x) 5, gd (K.int IntKind.u32) (Prod.fst x) 6]])]) (.inl (([iadd IntKind.u32 (iadd IntKind.u32 (iadd IntKind.u32 (f11_s0 x z342 z350 z358) (gd (K.int IntKind.u32) constL (Int.toNat (Prod.snd x)))) (gd (K.int IntKind.u32) p4_6 (Int.toNat (Prod.snd x)))) (iadd IntKind.u32 (ixor IntKind.u32 (ixor IntKind.u32 z366 z374) z382) (f11_s1 x)), gd (K.int IntKind.u32) (Prod.fst x) 0, gd (K.int IntKind.u32) (Prod.fst x) 1, gd (K.int IntKind.u32) (Prod.fst x) 2, iadd IntKind.u32 (gd (K.int IntKind.u32) (Prod.fst x) 3) (iadd IntKind.u32 (iadd IntKind.u32 (f11_s0 x z342 z350 z358) (gd (K.int IntKind.u32) constL (Int.toNat (Prod.snd x)))) (gd (K.int IntKind.u32) p4_6 (Int.toNat (Prod.snd x)))), gd (K.int IntKind.u32) (Prod.fst x) 4, gd (K.int IntKind.u32) (Prod.fst x) 5, gd (K.int IntKind.u32) (Prod.fst x) 6], iadd IntKind.i64 (Prod.snd x) 1)))))))))))))))))))))))))))))))))))))))))))))))))))))))))))))))
 (.leaf (Ex.exit 0, St.mk [(2, SV.av (AV.one (Lf.ptr 30400 0 0 0 0))), (4, SV.av (AV.one (Lf.ptr 30401 0 0 0 0))), (5, SV.av (AV.one (Lf.ptr 30402 0 0 0 0))), (6, SV.av (AV.one (Lf.ptr 30403 0 0 0 0))), (16, SV.av (AV.one (Lf.v (Value.int IntKind.i64 (Prod.snd x)))))] [(30400, Blk.cells 35 [Lf.dat (K.arr 8 (K.int IntKind.u32)) p4_5]), (30401, Blk.cells 35 [Lf.dat (K.arr 8 (K.int IntKind.u32)) [0, 0, 0, 0, 0, 0, 0, 0]]), (30402, Blk.cells 39 [Lf.dat (K.arr 64 (K.int IntKind.u32)) p4_6]), (30403, Blk.cells 35 [Lf.dat (K.arr 8 (K.int IntKind.u32)) (Prod.fst x)])]) (.inr (Prod.fst x))))
theorem f11_l4_v (p4_5 : List Int) (p4_6 : List Int) (x : List Int × Int) : vc (execK P noG Tryd.f11.ntmps f11_hn [2, 4, 5, 6, 16] (loopOf Tryd.f11 4) (f11_l4_D p4_5 p4_6 x)) (f11_l4_t p4_5 p4_6 x) = vcT (f11_l4_t p4_5 p4_6 x) := by kernel_rfl
theorem f11_l4_o (d : Nat) (p4_5 : List Int) (p4_6 : List Int) (x : List Int × Int) : obl (Snd P noG) (Lp P noG Tryd.f11.ntmps [] f11_hn d) (RelL Tryd.f11.ntmps noG [] (f11_l4_D p4_5 p4_6) (f11_l4_E p4_5 p4_6)) (f11_l4_t p4_5 p4_6 x) := by
 unfold f11_l4_t
 exact (oAsk (fun h0 => (oSure rfl (oSure rfl (oSure rfl (oSure rfl (oSure rfl (oSure rfl (oSure rfl (oSure rfl (oSure rfl (oCall (fun _ e => f14_s e) fun z342 _ =>
 (oCall (fun _ e => f14_s e) fun z350 _ =>
 (oCall (fun _ e => f14_s e) fun z358 _ =>
 (oSure rfl (oSure rfl (oSure rfl (oSure rfl (oSure rfl (oSure rfl (oNeed fun h1 => (oSure h0 (oSure h1 (oSure h0 (oNeed fun h2 => (oCall (fun _ e => f14_s e) fun z366 _ =>
 (oCall (fun _ e => f14_s e) fun z374 _ =>
 (oCall (fun _ e => f14_s e) fun z382 _ =>
 (oSure rfl (oSure rfl (oSure rfl (oSure rfl (oSure rfl (oSure rfl (oSure rfl (oSure rfl (oSure rfl (oSure rfl (oSure rfl (oSure rfl (oSure rfl (oSure rfl (oSure rfl (oSure rfl (oSure rfl (oSure rfl (oSure rfl (oSure rfl (oSure rfl (oSure rfl (oSure rfl (oSure rfl (oSure rfl (oSure rfl (oSure rfl (oSure rfl (oSure rfl (oSure rfl (oSure rfl (oSure rfl (oSure rfl (oLeaf (relN (wk_tw [(30403, 30403), (30402, 30402), (30401, 30401), (30400, 30400)] [2, 4, 5, 6, 16] [] (by kernel_rfl) (by kernel_rfl))))))))))))))))))))))))))))))))))))))))))))))))))))))))))))))))
 (fun h0 => (oLeaf (relE rfl (wk_tw [(30403, 60402), (30401, 60401), (30400, 60400)] [2, 4, 6] [] (by kernel_rfl) (by kernel_rfl))))))
noncomputable def f11_l4_m (p4_5 : List Int) (p4_6 : List Int) (x : List Int × Int) : Option (List Int) := lrun (fun x => mod (f11_l4_t p4_5 p4_6 x)) x
theorem f11_l4_e (p4_5 : List Int) (p4_6 : List Int) (x : List Int × Int) : mod (f11_l4_t p4_5 p4_6 x) =
 (sel (ilt (Prod.snd x) 64)
 (Option.bind (f14_m (gd (K.int IntKind.u32) (Prod.fst x) 4) (-6)) fun z342 =>
 (Option.bind (f14_m (gd (K.int IntKind.u32) (Prod.fst x) 4) (-11)) fun z350 =>
 (Option.bind (f14_m (gd (K.int IntKind.u32) (Prod.fst x) 4) (-25)) fun z358 =>
 (sel (ile 0 (Prod.snd x))
 (sel (nlt (Int.toNat (Prod.snd x)) 64)
 (Option.bind (f14_m (gd (K.int IntKind.u32) (Prod.fst x) 0) (-2)) fun z366 =>
 (Option.bind (f14_m (gd (K.int IntKind.u32) (Prod.fst x) 0) (-13)) fun z374 =>
 (Option.bind (f14_m (gd (K.int IntKind.u32) (Prod.fst x) 0) (-22)) fun z382 =>
 (some ((.inl (([iadd IntKind.u32 (iadd IntKind.u32 (iadd IntKind.u32 (f11_s0 x z342 z350 z358) (gd (K.int IntKind.u32) constL (Int.toNat (Prod.snd x)))) (gd (K.int IntKind.u32) p4_6 (Int.toNat (Prod.snd x)))) (iadd IntKind.u32 (ixor IntKind.u32 (ixor IntKind.u32 z366 z374) z382) (f11_s1 x)), gd (K.int IntKind.u32) (Prod.fst x) 0, gd (K.int IntKind.u32) (Prod.fst x) 1, gd (K.int IntKind.u32) (Prod.fst x) 2, iadd IntKind.u32 (gd (K.int IntKind.u32) (Prod.fst x) 3) (iadd IntKind.u32 (iadd IntKind.u32 (f11_s0 x z342 z350 z358) (gd (K.int IntKind.u32) constL (Int.toNat (Prod.snd x)))) (gd (K.int IntKind.u32) p4_6 (Int.toNat (Prod.snd x)))), gd (K.int IntKind.u32) (Prod.fst x) 4, gd (K.int IntKind.u32) (Prod.fst x) 5, gd (K.int IntKind.u32) (Prod.fst x) 6], iadd IntKind.i64 (Prod.snd x) 1)))))))) none) none))))
 (some ((.inr (Prod.fst x))))) := by kernel_rfl
theorem f11_l4_s0 (d : Nat) {p4_5 : List Int} {p4_6 : List Int} {σ : St} {x : List Int × Int} {z : List Int} (h : f11_l4_m p4_5 p4_6 x = some z) (hw : Wk Tryd.f11.ntmps noG [] σ (f11_l4_D p4_5 p4_6 x)) : Lp P noG Tryd.f11.ntmps [] f11_hn (d + 1) (loopOf Tryd.f11 4) σ (Ex.exit 0) (f11_l4_E0 p4_5 p4_6 z) :=
 lp_tree (D := f11_l4_D p4_5 p4_6) (E := f11_l4_E p4_5 p4_6) (f11_l4_v p4_5 p4_6) (f11_l4_o d p4_5 p4_6) h hw
def f11_l12_D (p12_118 : List Int) (x : List Int × Int) : St := St.mk [(2, SV.av (AV.one (Lf.ptr 31200 0 0 0 0))), (4, SV.av (AV.one (Lf.ptr 31201 0 0 0 0))), (6, SV.av (AV.one (Lf.ptr 31202 0 0 0 0))), (98, SV.av (AV.one (Lf.v (Value.int IntKind.i64 (Prod.snd x)))))] [(31200, Blk.cells 35 [Lf.dat (K.arr 8 (K.int IntKind.u32)) (Prod.fst x)]), (31201, Blk.cells 35 [Lf.dat (K.arr 8 (K.int IntKind.u32)) [0, 0, 0, 0, 0, 0, 0, 0]]), (31202, Blk.cells 35 [Lf.dat (K.arr 8 (K.int IntKind.u32)) p12_118])]
def f11_l12_E0 (p12_118 : List Int) (y : List Int) : St := St.mk [(2, SV.av (AV.one (Lf.ptr 61200 0 0 0 0))), (4, SV.av (AV.one (Lf.ptr 61201 0 0 0 0)))] [(61200, Blk.cells 35 [Lf.dat (K.arr 8 (K.int IntKind.u32)) y]), (61201, Blk.cells 35 [Lf.dat (K.arr 8 (K.int IntKind.u32)) [0, 0, 0, 0, 0, 0, 0, 0]])]
def f11_l12_E (p12_118 : List Int) : List Int → Ex × St
  | y => (Ex.exit 2, f11_l12_E0 p12_118 y)
noncomputable def f11_l12_t (p12_118 : List Int) (x : List Int × Int) : DT (Ex × St) ((List Int × Int) ⊕ (List Int)) :=
 (.ask (ilt (Prod.snd x) 8)
 (.need (ile 0 (Prod.snd x)) true
 (.sure (ilt (Prod.snd x) 8) true
 (.need (nlt (Int.toNat (Prod.snd x)) 8) true
 (.sure (ile 0 (Prod.snd x)) true
 (.sure (ilt (Prod.snd x) 8) true
 (.sure (nlt (Int.toNat (Prod.snd x)) 8) true
 (.sure (ile 0 (Prod.snd x)) true
 (.sure (ilt (Prod.snd x) 8) true
 (.sure (nlt (Int.toNat (Prod.snd x)) 8) true
 (.leaf (Vam.Ex.normal, St.mk [(2, SV.av (AV.one (Lf.ptr 31200 0 0 0 0))), (4, SV.av (AV.one (Lf.ptr 31201 0 0 0 0))), (6, SV.av (AV.one (Lf.ptr 31202 0 0 0 0))), (98, SV.av (AV.one (Lf.v (Value.int IntKind.i64 (iadd IntKind.i64 (Prod.snd x) 1)))))] [(31200, Blk.cells 35 [Lf.dat (K.arr 8 (K.int IntKind.u32)) (List.set (Prod.fst x) (Int.toNat (Prod.snd x)) (iadd IntKind.u32 (gd (K.int IntKind.u32) (Prod.fst x) (Int.toNat (Prod.snd x))) (gd (K.int IntKind.u32) p12_118 (Int.toNat (Prod.snd x)))))]), (31201, Blk.cells 35 [Lf.dat (K.arr 8 (K.int IntKind.u32)) [0, 0, 0, 0, 0, 0, 0, 0]]), (31202, Blk.cells 35 [Lf.dat (K.arr 8 (K.int IntKind.u32)) p12_118])]) (.inl ((List.set (Prod.fst x) (Int.toNat (Prod.snd x)) (iadd IntKind.u32 (gd (K.int IntKind.u32) (Prod.fst x) (Int.toNat (Prod.snd x))) (gd (K.int IntKind.u32) p12_118 (Int.toNat (Prod.snd x)))), iadd IntKind.i64 (Prod.snd x) 1)))))))))))))
 (.leaf (Ex.exit 2, St.mk [(2, SV.av (AV.one (Lf.ptr 31200 0 0 0 0))), (4, SV.av (AV.one (Lf.ptr 31201 0 0 0 0))), (6, SV.av (AV.one (Lf.ptr 31202 0 0 0 0))), (98, SV.av (AV.one (Lf.v (Value.int IntKind.i64 (Prod.snd x)))))] [(31200, Blk.cells 35 [Lf.dat (K.arr 8 (K.int IntKind.u32)) (Prod.fst x)]), (31201, Blk.cells 35 [Lf.dat (K.arr 8 (K.int IntKind.u32)) [0, 0, 0, 0, 0, 0, 0, 0]]), (31202, Blk.cells 35 [Lf.dat (K.arr 8 (K.int IntKind.u32)) p12_118])]) (.inr (Prod.fst x))))
theorem f11_l12_v (p12_118 : List Int) (x : List Int × Int) : vc (execK P noG Tryd.f11.ntmps f11_hn [2, 4, 6, 98] (loopOf Tryd.f11 12) (f11_l12_D p12_118 x)) (f11_l12_t p12_118 x) = vcT (f11_l12_t p12_118 x) := by kernel_rfl
theorem f11_l12_o (d : Nat) (p12_118 : List Int) (x : List Int × Int) : obl (Snd P noG) (Lp P noG Tryd.f11.ntmps [] f11_hn d) (RelL Tryd.f11.ntmps noG [] (f11_l12_D p12_118) (f11_l12_E p12_118)) (f11_l12_t p12_118 x) := by
 unfold f11_l12_t
 exact (oAsk (fun h0 => (oNeed fun h1 => (oSure h0 (oNeed fun h2 => (oSure h1 (oSure h0 (oSure h2 (oSure h1 (oSure h0 (oSure h2 (oLeaf (relN (wk_tw [(31202, 31202), (31201, 31201), (31200, 31200)] [2, 4, 6, 98] [] (by kernel_rfl) (by kernel_rfl))))))))))))))
 (fun h0 => (oLeaf (relE rfl (wk_tw [(31201, 61201), (31200, 61200)] [2, 4] [] (by kernel_rfl) (by kernel_rfl))))))
noncomputable def f11_l12_m (p12_118 : List Int) (x : List Int × Int) : Option (List Int) := lrun (fun x => mod (f11_l12_t p12_118 x)) x
theorem f11_l12_e (p12_118 : List Int) (x : List Int × Int) : mod (f11_l12_t p12_118 x) =
 (sel (ilt (Prod.snd x) 8)
 (sel (ile 0 (Prod.snd x))
 (sel (nlt (Int.toNat (Prod.snd x)) 8)
 (some ((.inl ((List.set (Prod.fst x) (Int.toNat (Prod.snd x)) (iadd IntKind.u32 (gd (K.int IntKind.u32) (Prod.fst x) (Int.toNat (Prod.snd x))) (gd (K.int IntKind.u32) p12_118 (Int.toNat (Prod.snd x)))), iadd IntKind.i64 (Prod.snd x) 1))))) none) none)
 (some ((.inr (Prod.fst x))))) := by kernel_rfl
theorem f11_l12_s0 (d : Nat) {p12_118 : List Int} {σ : St} {x : List Int × Int} {z : List Int} (h : f11_l12_m p12_118 x = some z) (hw : Wk Tryd.f11.ntmps noG [] σ (f11_l12_D p12_118 x)) : Lp P noG Tryd.f11.ntmps [] f11_hn (d + 1) (loopOf Tryd.f11 12) σ (Ex.exit 2) (f11_l12_E0 p12_118 z) :=
 lp_tree (D := f11_l12_D p12_118) (E := f11_l12_E p12_118) (f11_l12_v p12_118) (f11_l12_o d p12_118) h hw
def f11_R (a0 : List Int) (a1 : List Int) : List Int → SV × Hp
  | z => (SV.av (AV.one (Lf.dat (K.arr 8 (K.int IntKind.u32)) z)), [])
noncomputable def f11_t (a0 : List Int) (a1 : List Int) : DT (SV × Hp) (List Int) :=
 (.call 13 [AV.one (Lf.dat (K.sl (K.int IntKind.u8)) a1)] [] (f13_m a1) (fun z387 => SV.av (AV.one (Lf.dat (K.arr 64 (K.int IntKind.u32)) z387))) (fun z387 => []) fun z387 =>
 (.loop (loopOf Tryd.f11 4) (St.mk [(2, SV.av (AV.one (Lf.ptr 2 0 0 0 0))), (4, SV.av (AV.one (Lf.ptr 4 0 0 0 0))), (5, SV.av (AV.one (Lf.ptr 5 0 0 0 0))), (6, SV.av (AV.one (Lf.ptr 6 0 0 0 0))), (16, SV.av (AV.one (Lf.v (Value.int IntKind.i64 0))))] [(2, Blk.cells 35 [Lf.dat (K.arr 8 (K.int IntKind.u32)) a0]), (4, Blk.cells 35 [Lf.dat (K.arr 8 (K.int IntKind.u32)) [0, 0, 0, 0, 0, 0, 0, 0]]), (5, Blk.cells 39 [Lf.dat (K.arr 64 (K.int IntKind.u32)) z387]), (6, Blk.cells 35 [Lf.dat (K.arr 8 (K.int IntKind.u32)) a0])]) (f11_l4_m a0 z387 (a0, 0)) (Ex.exit 0) (f11_l4_E0 a0 z387) fun z388 =>
 (.loop (loopOf Tryd.f11 12) (St.mk [(2, SV.av (AV.one (Lf.ptr 60400 0 0 0 0))), (4, SV.av (AV.one (Lf.ptr 60401 0 0 0 0))), (6, SV.av (AV.one (Lf.ptr 60402 0 0 0 0))), (98, SV.av (AV.one (Lf.v (Value.int IntKind.i64 0))))] [(60400, Blk.cells 35 [Lf.dat (K.arr 8 (K.int IntKind.u32)) a0]), (60401, Blk.cells 35 [Lf.dat (K.arr 8 (K.int IntKind.u32)) [0, 0, 0, 0, 0, 0, 0, 0]]), (60402, Blk.cells 35 [Lf.dat (K.arr 8 (K.int IntKind.u32)) z388])]) (f11_l12_m z388 (a0, 0)) (Ex.exit 2) (f11_l12_E0 z388) fun z389 =>
 (.leaf (SV.av (AV.one (Lf.dat (K.arr 8 (K.int IntKind.u32)) z389)), [(61200, Blk.cells 35 [Lf.dat (K.arr 8 (K.int IntKind.u32)) z389]), (61201, Blk.cells 35 [Lf.dat (K.arr 8 (K.int IntKind.u32)) z389])]) (z389)))))
theorem f11_v (a0 : List Int) (a1 : List Int) : vc (runR P noG Tryd.f11 f11_hn [AV.one (Lf.dat (K.arr 8 (K.int IntKind.u32)) a0), AV.one (Lf.dat (K.sl (K.int IntKind.u8)) a1)] []) (f11_t a0 a1) = vcT (f11_t a0 a1) := by kernel_rfl
theorem f11_o (a0 : List Int) (a1 : List Int) : obl (Snd P noG) (Lp P noG Tryd.f11.ntmps [] f11_hn 1) (RelF [] (f11_R a0 a1)) (f11_t a0 a1) := by
 unfold f11_t
 exact (oCall (fun _ e => f13_s e) fun z387 _ =>
 (oLoop (fun _ e => f11_l4_s0 0 e (wk_tw [(6, 30403), (5, 30402), (4, 30401), (2, 30400)] [2, 4, 5, 6, 16] [] (by kernel_rfl) (by kernel_rfl))) fun z388 _ =>
 (oLoop (fun _ e => f11_l12_s0 0 e (wk_tw [(60402, 31202), (60401, 31201), (60400, 31200)] [2, 4, 6, 98] [] (by kernel_rfl) (by kernel_rfl))) fun z389 _ =>
 (oLeaf (wks_tw [] [] (by kernel_rfl) (by kernel_rfl))))))
noncomputable def f11_m (a0 : List Int) (a1 : List Int) : Option (List Int) := mod (f11_t a0 a1)
theorem f11_e (a0 : List Int) (a1 : List Int) : f11_m a0 a1 =
 (Option.bind (f13_m a1) fun z387 =>
 (Option.bind (f11_l4_m a0 z387 (a0, 0)) fun z388 =>
 (Option.bind (f11_l12_m z388 (a0, 0)) fun z389 =>
 (some ((z389)))))) := by kernel_rfl
theorem f11_s {a0 : List Int} {a1 : List Int} {z : List Int} (h : f11_m a0 a1 = some z) : Snd P noG 11 [AV.one (Lf.dat (K.arr 8 (K.int IntKind.u32)) a0), AV.one (Lf.dat (K.sl (K.int IntKind.u8)) a1)] [] (SV.av (AV.one (Lf.dat (K.arr 8 (K.int IntKind.u32)) z))) [] :=
 snd_tree (hn := f11_hn) 1 (f11_R a0 a1) mixed (by kernel_rfl) (by kernel_rfl) (by kernel_rfl) (by kernel_rfl) (by kernel_rfl) (f11_v a0 a1) (f11_o a0 a1) h
def f8_hn : Hn := Hn.mk [(10002, [(1000000, 30902)]), (24004, [(1000000, 32202)])] [] [] [] [(6, [2, 3, 4, 5, 13, 14, 15]), (10, [2, 3, 4, 5, 13, 14, 15]), (15, [2, 3, 4, 5]), (18, [2, 3, 4, 5, 46]), (23, [2, 3, 4, 9]), (28, [2, 3, 10, 71])]
def f8_l9_D (p9_2 : Int) (p9_3 : List ByteArray) (p9_4 : Int) (p9_5 : List Int) (p9_39 : Int) (x : List Int × Nat × Nat) : St := St.mk [(2, SV.av (AV.one (Lf.ptr 30900 0 0 0 0))), (3, SV.av (AV.one (Lf.ptr 30901 0 0 0 0))), (4, SV.av (AV.one (Lf.own 30902 0 (Prod.fst (Prod.snd x)) (Prod.snd (Prod.snd x)) 1))), (5, SV.av (AV.one (Lf.v (Value.int IntKind.u64 p9_2)))), (13, SV.av (AV.one (Lf.dat (K.sl K.str) p9_3))), (14, SV.av (AV.one (Lf.v (Value.int IntKind.i64 p9_4)))), (15, SV.av (AV.one (Lf.v (Value.int IntKind.i64 p9_39))))] [(30900, Blk.cells 26 [Lf.dat (K.arr 32 (K.int IntKind.u8)) [0, 0, 0, 0, 0, 0, 0, 0, 0, 0, 0, 0, 0, 0, 0, 0, 0, 0, 0, 0, 0, 0, 0, 0, 0, 0, 0, 0, 0, 0, 0, 0]]), (30901, Blk.cells 35 [Lf.dat (K.arr 8 (K.int IntKind.u32)) (Prod.fst x)]), (30902, Blk.row 5 (K.int IntKind.u8) p9_5)]
def f8_l9_E0 (p9_2 : Int) (p9_3 : List ByteArray) (p9_4 : Int) (p9_5 : List Int) (p9_39 : Int) (y : List Int × Nat × Nat) : St := St.mk [(2, SV.av (AV.one (Lf.ptr 60900 0 0 0 0))), (3, SV.av (AV.one (Lf.ptr 60901 0 0 0 0))), (4, SV.av (AV.one (Lf.own 60902 0 (Prod.fst (Prod.snd y)) (Prod.snd (Prod.snd y)) 1))), (5, SV.av (AV.one (Lf.v (Value.int IntKind.u64 p9_2)))), (13, SV.av (AV.one (Lf.dat (K.sl K.str) p9_3))), (14, SV.av (AV.one (Lf.v (Value.int IntKind.i64 p9_4)))), (15, SV.av (AV.one (Lf.v (Value.int IntKind.i64 p9_39))))] [(60900, Blk.cells 26 [Lf.dat (K.arr 32 (K.int IntKind.u8)) [0, 0, 0, 0, 0, 0, 0, 0, 0, 0, 0, 0, 0, 0, 0, 0, 0, 0, 0, 0, 0, 0, 0, 0, 0, 0, 0, 0, 0, 0, 0, 0]]), (60901, Blk.cells 35 [Lf.dat (K.arr 8 (K.int IntKind.u32)) (Prod.fst y)]), (60902, Blk.row 5 (K.int IntKind.u8) p9_5)]
def f8_l9_E (p9_2 : Int) (p9_3 : List ByteArray) (p9_4 : Int) (p9_5 : List Int) (p9_39 : Int) : List Int × Nat × Nat → Ex × St
  | y => (Ex.exit 2, f8_l9_E0 p9_2 p9_3 p9_4 p9_5 p9_39 y)
noncomputable def f8_l9_t (p9_2 : Int) (p9_3 : List ByteArray) (p9_4 : Int) (p9_5 : List Int) (p9_39 : Int) (x : List Int × Nat × Nat) : DT (Ex × St) ((List Int × Nat × Nat) ⊕ (List Int × Nat × Nat)) :=
 (.ask (ile 64 ↑(Prod.snd (Prod.snd x)))
 (.pick false (.need (nle (Prod.fst (Prod.snd x) + Prod.snd (Prod.snd x)) (List.length p9_5)) true
 (.call 11 [AV.one (Lf.dat (K.arr 8 (K.int IntKind.u32)) (Prod.fst x)), AV.one (Lf.dat (K.sl (K.int IntKind.u8)) (List.take (Prod.snd (Prod.snd x)) (List.drop (Prod.fst (Prod.snd x)) p9_5)))] [] (f11_m (Prod.fst x) (List.take (Prod.snd (Prod.snd x)) (List.drop (Prod.fst (Prod.snd x)) p9_5))) (fun z197 => SV.av (AV.one (Lf.dat (K.arr 8 (K.int IntKind.u32)) z197))) (fun z197 => []) fun z197 =>
 (.sure (true) true
 (.sure (ile 64 ↑(Prod.snd (Prod.snd x))) true
 (.leaf (Vam.Ex.normal, St.mk [(2, SV.av (AV.one (Lf.ptr 30900 0 0 0 0))), (3, SV.av (AV.one (Lf.ptr 30901 0 0 0 0))), (4, SV.av (AV.one (Lf.own 30902 0 (Prod.fst (Prod.snd x) + 64) (Prod.snd (Prod.snd x) - 64) 1))), (5, SV.av (AV.one (Lf.v (Value.int IntKind.u64 p9_2)))), (13, SV.av (AV.one (Lf.dat (K.sl K.str) p9_3))), (14, SV.av (AV.one (Lf.v (Value.int IntKind.i64 p9_4)))), (15, SV.av (AV.one (Lf.v (Value.int IntKind.i64 p9_39))))] [(30900, Blk.cells 26 [Lf.dat (K.arr 32 (K.int IntKind.u8)) [0, 0, 0, 0, 0, 0, 0, 0, 0, 0, 0, 0, 0, 0, 0, 0, 0, 0, 0, 0, 0, 0, 0, 0, 0, 0, 0, 0, 0, 0, 0, 0]]), (30901, Blk.cells 35 [Lf.dat (K.arr 8 (K.int IntKind.u32)) z197]), (30902, Blk.row 5 (K.int IntKind.u8) p9_5)]) (.inl ((z197, Prod.fst (Prod.snd x) + 64, Prod.snd (Prod.snd x) - 64)))))))))
 (.leaf (Ex.exit 2, St.mk [(2, SV.av (AV.one (Lf.ptr 30900 0 0 0 0))), (3, SV.av (AV.one (Lf.ptr 30901 0 0 0 0))), (4, SV.av (AV.one (Lf.own 30902 0 (Prod.fst (Prod.snd x)) (Prod.snd (Prod.snd x)) 1))), (5, SV.av (AV.one (Lf.v (Value.int IntKind.u64 p9_2)))), (13, SV.av (AV.one (Lf.dat (K.sl K.str) p9_3))), (14, SV.av (AV.one (Lf.v (Value.int IntKind.i64 p9_4)))), (15, SV.av (AV.one (Lf.v (Value.int IntKind.i64 p9_39))))] [(30900, Blk.cells 26 [Lf.dat (K.arr 32 (K.int IntKind.u8)) [0, 0, 0, 0, 0, 0, 0, 0, 0, 0, 0, 0, 0, 0, 0, 0, 0, 0, 0, 0, 0, 0, 0, 0, 0, 0, 0, 0, 0, 0, 0, 0]]), (30901, Blk.cells 35 [Lf.dat (K.arr 8 (K.int IntKind.u32)) (Prod.fst x)]), (30902, Blk.row 5 (K.int IntKind.u8) p9_5)]) (.inr ((Prod.fst x, Prod.fst (Prod.snd x), Prod.snd (Prod.snd x))))))
theorem f8_l9_v (p9_2 : Int) (p9_3 : List ByteArray) (p9_4 : Int) (p9_5 : List Int) (p9_39 : Int) (x : List Int × Nat × Nat) : vc (execK P noG Tryd.f8.ntmps f8_hn [2, 3, 4, 5, 13, 14, 15] (loopOf Tryd.f8 9) (f8_l9_D p9_2 p9_3 p9_4 p9_5 p9_39 x)) (f8_l9_t p9_2 p9_3 p9_4 p9_5 p9_39 x) = vcT (f8_l9_t p9_2 p9_3 p9_4 p9_5 p9_39 x) := by kernel_rfl
theorem f8_l9_o (d : Nat) (p9_2 : Int) (p9_3 : List ByteArray) (p9_4 : Int) (p9_5 : List Int) (p9_39 : Int) (x : List Int × Nat × Nat) : obl (Snd P noG) (Lp P noG Tryd.f8.ntmps [] f8_hn d) (RelL Tryd.f8.ntmps noG [] (f8_l9_D p9_2 p9_3 p9_4 p9_5 p9_39) (f8_l9_E p9_2 p9_3 p9_4 p9_5 p9_39)) (f8_l9_t p9_2 p9_3 p9_4 p9_5 p9_39 x) := by
 unfold f8_l9_t
 exact (oAsk (fun h0 => (oPick (oNeed fun h1 => (oCall (fun _ e => f11_s e) fun z197 _ =>
 (oSure rfl (oSure h0 (oLeaf (relN (wk_tw [(30902, 30902), (30901, 30901), (30900, 30900)] [2, 3, 4, 5, 13, 14, 15] [] (by kernel_rfl) (by kernel_rfl))))))))))
 (fun h0 => (oLeaf (relE rfl (wk_tw [(30902, 60902), (30901, 60901), (30900, 60900)] [2, 3, 4, 5, 13, 14, 15] [] (by kernel_rfl) (by kernel_rfl))))))
noncomputable def f8_l9_m (p9_2 : Int) (p9_3 : List ByteArray) (p9_4 : Int) (p9_5 : List Int) (p9_39 : Int) (x : List Int × Nat × Nat) : Option (List Int × Nat × Nat) := lrun (fun x => mod (f8_l9_t p9_2 p9_3 p9_4 p9_5 p9_39 x)) x
theorem f8_l9_e (p9_2 : Int) (p9_3 : List ByteArray) (p9_4 : Int) (p9_5 : List Int) (p9_39 : Int) (x : List Int × Nat × Nat) : mod (f8_l9_t p9_2 p9_3 p9_4 p9_5 p9_39 x) =
 (sel (ile 64 ↑(Prod.snd (Prod.snd x)))
 (sel (nle (Prod.fst (Prod.snd x) + Prod.snd (Prod.snd x)) (List.length p9_5))
 (Option.bind (f11_m (Prod.fst x) (List.take (Prod.snd (Prod.snd x)) (List.drop (Prod.fst (Prod.snd x)) p9_5))) fun z197 =>
 (some ((.inl ((z197, Prod.fst (Prod.snd x) + 64, Prod.snd (Prod.snd x) - 64)))))) none)
 (some ((.inr ((Prod.fst x, Prod.fst (Prod.snd x), Prod.snd (Prod.snd x))))))) := by kernel_rfl
theorem f8_l9_s0 (d : Nat) {p9_2 : Int} {p9_3 : List ByteArray} {p9_4 : Int} {p9_5 : List Int} {p9_39 : Int} {σ : St} {x : List Int × Nat × Nat} {z : List Int × Nat × Nat} (h : f8_l9_m p9_2 p9_3 p9_4 p9_5 p9_39 x = some z) (hw : Wk Tryd.f8.ntmps noG [] σ (f8_l9_D p9_2 p9_3 p9_4 p9_5 p9_39 x)) : Lp P noG Tryd.f8.ntmps [] f8_hn (d + 1) (loopOf Tryd.f8 9) σ (Ex.exit 2) (f8_l9_E0 p9_2 p9_3 p9_4 p9_5 p9_39 z) :=
 lp_tree (D := f8_l9_D p9_2 p9_3 p9_4 p9_5 p9_39) (E := f8_l9_E p9_2 p9_3 p9_4 p9_5 p9_39) (f8_l9_v p9_2 p9_3 p9_4 p9_5 p9_39) (f8_l9_o d p9_2 p9_3 p9_4 p9_5 p9_39) h hw
def f8_l14_D (p14_57 : Int) (p14_73 : List Int) (x : List Int) : St := St.mk [(2, SV.av (AV.one (Lf.ptr 31400 0 0 0 0))), (3, SV.av (AV.one (Lf.ptr 31401 0 0 0 0))), (4, SV.av (AV.one (Lf.own 31402 0 0 (List.length x) 1))), (5, SV.av (AV.one (Lf.v (Value.int IntKind.u64 p14_57))))] [(31400, Blk.cells 26 [Lf.dat (K.arr 32 (K.int IntKind.u8)) [0, 0, 0, 0, 0, 0, 0, 0, 0, 0, 0, 0, 0, 0, 0, 0, 0, 0, 0, 0, 0, 0, 0, 0, 0, 0, 0, 0, 0, 0, 0, 0]]), (31401, Blk.cells 35 [Lf.dat (K.arr 8 (K.int IntKind.u32)) p14_73]), (31402, Blk.row 5 (K.int IntKind.u8) x)]
def f8_l14_E0 (p14_57 : Int) (p14_73 : List Int) (y : List Int) : St := St.mk [(2, SV.av (AV.one (Lf.ptr 61400 0 0 0 0))), (3, SV.av (AV.one (Lf.ptr 61401 0 0 0 0))), (4, SV.av (AV.one (Lf.own 61402 0 0 (List.length y) 1))), (5, SV.av (AV.one (Lf.v (Value.int IntKind.u64 p14_57))))] [(61400, Blk.cells 26 [Lf.dat (K.arr 32 (K.int IntKind.u8)) [0, 0, 0, 0, 0, 0, 0, 0, 0, 0, 0, 0, 0, 0, 0, 0, 0, 0, 0, 0, 0, 0, 0, 0, 0, 0, 0, 0, 0, 0, 0, 0]]), (61401, Blk.cells 35 [Lf.dat (K.arr 8 (K.int IntKind.u32)) p14_73]), (61402, Blk.row 5 (K.int IntKind.u8) y)]
def f8_l14_E (p14_57 : Int) (p14_73 : List Int) : List Int → Ex × St
  | y => (Ex.exit 4, f8_l14_E0 p14_57 p14_73 y)
noncomputable def f8_l14_t (p14_57 : Int) (p14_73 : List Int) (x : List Int) : DT (Ex × St) ((List Int) ⊕ (List Int)) :=
 (.sure (true) true
 (.ask (bno (ieq (irem (↑(List.length x)) 64) 56))
 (.pick true (.sure (true) true
 (.pick true (.sure (true) true
 (.sure (nEq (List.length x) (List.length x)) true
 (.need (nle (List.length (List.append x [0])) 9223372036854775807) true
 (.need (nle (List.length (List.append x [0]) * 1) 140737488355328) true
 (.leaf (Vam.Ex.normal, St.mk [(2, SV.av (AV.one (Lf.ptr 31400 0 0 0 0))), (3, SV.av (AV.one (Lf.ptr 31401 0 0 0 0))), (4, SV.av (AV.one (Lf.own 45 0 0 (List.length (List.append x [0])) 1))), (5, SV.av (AV.one (Lf.v (Value.int IntKind.u64 p14_57))))] [(44, Blk.row 5 (K.int IntKind.u8) [0]), (45, Blk.row 5 (K.int IntKind.u8) (List.append x [0])), (31400, Blk.cells 26 [Lf.dat (K.arr 32 (K.int IntKind.u8)) [0, 0, 0, 0, 0, 0, 0, 0, 0, 0, 0, 0, 0, 0, 0, 0, 0, 0, 0, 0, 0, 0, 0, 0, 0, 0, 0, 0, 0, 0, 0, 0]]), (31401, Blk.cells 35 [Lf.dat (K.arr 8 (K.int IntKind.u32)) p14_73]), (31402, Blk.dead)]) (.inl (List.append x [0]))))))))))
 (.leaf (Ex.exit 4, St.mk [(2, SV.av (AV.one (Lf.ptr 31400 0 0 0 0))), (3, SV.av (AV.one (Lf.ptr 31401 0 0 0 0))), (4, SV.av (AV.one (Lf.own 31402 0 0 (List.length x) 1))), (5, SV.av (AV.one (Lf.v (Value.int IntKind.u64 p14_57))))] [(31400, Blk.cells 26 [Lf.dat (K.arr 32 (K.int IntKind.u8)) [0, 0, 0, 0, 0, 0, 0, 0, 0, 0, 0, 0, 0, 0, 0, 0, 0, 0, 0, 0, 0, 0, 0, 0, 0, 0, 0, 0, 0, 0, 0, 0]]), (31401, Blk.cells 35 [Lf.dat (K.arr 8 (K.int IntKind.u32)) p14_73]), (31402, Blk.row 5 (K.int IntKind.u8) x)]) (.inr (x)))))
theorem f8_l14_v (p14_57 : Int) (p14_73 : List Int) (x : List Int) : vc (execK P noG Tryd.f8.ntmps f8_hn [2, 3, 4, 5] (loopOf Tryd.f8 14) (f8_l14_D p14_57 p14_73 x)) (f8_l14_t p14_57 p14_73 x) = vcT (f8_l14_t p14_57 p14_73 x) := by kernel_rfl
theorem f8_l14_o (d : Nat) (p14_57 : Int) (p14_73 : List Int) (x : List Int) : obl (Snd P noG) (Lp P noG Tryd.f8.ntmps [] f8_hn d) (RelL Tryd.f8.ntmps noG [] (f8_l14_D p14_57 p14_73) (f8_l14_E p14_57 p14_73)) (f8_l14_t p14_57 p14_73 x) := by
 unfold f8_l14_t
 exact (oSure rfl (oAsk (fun h0 => (oPick (oSure rfl (oPick (oSure rfl (oSure (nEq_t.2 rfl) (oNeed fun h1 => (oNeed fun h2 => (oLeaf (relN (wk_tw [(45, 31402), (31401, 31401), (31400, 31400)] [2, 3, 4, 5] [] (by kernel_rfl) (by kernel_rfl))))))))))))
 (fun h0 => (oLeaf (relE rfl (wk_tw [(31402, 61402), (31401, 61401), (31400, 61400)] [2, 3, 4, 5] [] (by kernel_rfl) (by kernel_rfl)))))))
noncomputable def f8_l14_m (p14_57 : Int) (p14_73 : List Int) (x : List Int) : Option (List Int) := lrun (fun x => mod (f8_l14_t p14_57 p14_73 x)) x
theorem f8_l14_e (p14_57 : Int) (p14_73 : List Int) (x : List Int) : mod (f8_l14_t p14_57 p14_73 x) =
 (sel (bno (ieq (irem (↑(List.length x)) 64) 56))
 (sel (nle (List.length (List.append x [0])) 9223372036854775807)
 (sel (nle (List.length (List.append x [0]) * 1) 140737488355328)
 (some ((.inl (List.append x [0])))) none) none)
 (some ((.inr (x))))) := by kernel_rfl
theorem f8_l14_s0 (d : Nat) {p14_57 : Int} {p14_73 : List Int} {σ : St} {x : List Int} {z : List Int} (h : f8_l14_m p14_57 p14_73 x = some z) (hw : Wk Tryd.f8.ntmps noG [] σ (f8_l14_D p14_57 p14_73 x)) : Lp P noG Tryd.f8.ntmps [] f8_hn (d + 1) (loopOf Tryd.f8 14) σ (Ex.exit 4) (f8_l14_E0 p14_57 p14_73 z) :=
 lp_tree (D := f8_l14_D p14_57 p14_73) (E := f8_l14_E p14_57 p14_73) (f8_l14_v p14_57 p14_73) (f8_l14_o d p14_57 p14_73) h hw
def f8_l17_D (p17_75 : Int) (p17_99 : List Int) (x : List Int × Int) : St := St.mk [(2, SV.av (AV.one (Lf.ptr 31700 0 0 0 0))), (3, SV.av (AV.one (Lf.ptr 31701 0 0 0 0))), (4, SV.av (AV.one (Lf.own 31702 0 0 (List.length (Prod.fst x)) 1))), (5, SV.av (AV.one (Lf.v (Value.int IntKind.u64 p17_75)))), (46, SV.av (AV.one (Lf.v (Value.int IntKind.i64 (Prod.snd x)))))] [(31700, Blk.cells 26 [Lf.dat (K.arr 32 (K.int IntKind.u8)) [0, 0, 0, 0, 0, 0, 0, 0, 0, 0, 0, 0, 0, 0, 0, 0, 0, 0, 0, 0, 0, 0, 0, 0, 0, 0, 0, 0, 0, 0, 0, 0]]), (31701, Blk.cells 35 [Lf.dat (K.arr 8 (K.int IntKind.u32)) p17_99]), (31702, Blk.row 5 (K.int IntKind.u8) (Prod.fst x))]
def f8_l17_E0 (p17_75 : Int) (p17_99 : List Int) (y : List Int) : St := St.mk [(2, SV.av (AV.one (Lf.ptr 61700 0 0 0 0))), (3, SV.av (AV.one (Lf.ptr 61701 0 0 0 0))), (4, SV.av (AV.one (Lf.own 61702 0 0 (List.length y) 1)))] [(61700, Blk.cells 26 [Lf.dat (K.arr 32 (K.int IntKind.u8)) [0, 0, 0, 0, 0, 0, 0, 0, 0, 0, 0, 0, 0, 0, 0, 0, 0, 0, 0, 0, 0, 0, 0, 0, 0, 0, 0, 0, 0, 0, 0, 0]]), (61701, Blk.cells 35 [Lf.dat (K.arr 8 (K.int IntKind.u32)) p17_99]), (61702, Blk.row 5 (K.int IntKind.u8) y)]
def f8_l17_E (p17_75 : Int) (p17_99 : List Int) : List Int → Ex × St
  | y => (Ex.exit 6, f8_l17_E0 p17_75 p17_99 y)
noncomputable def f8_l17_t (p17_75 : Int) (p17_99 : List Int) (x : List Int × Int) : DT (Ex × St) ((List Int × Int) ⊕ (List Int)) :=
 (.ask (ilt (Prod.snd x) 8)
 (.need (ile 0 (imul IntKind.i64 8 (isub IntKind.i64 7 (Prod.snd x)))) true
 (.pick true (.sure (true) true
 (.pick true (.sure (true) true
 (.sure (nEq (List.length (Prod.fst x)) (List.length (Prod.fst x))) true
 (.need (nle (List.length (List.append (Prod.fst x) [icv IntKind.u8 (shr IntKind.u64 (imul IntKind.u64 8 p17_75) (imul IntKind.i64 8 (isub IntKind.i64 7 (Prod.snd x))))])) 9223372036854775807) true
 (.need (nle (List.length (List.append (Prod.fst x) [icv IntKind.u8 (shr IntKind.u64 (imul IntKind.u64 8 p17_75) (imul IntKind.i64 8 (isub IntKind.i64 7 (Prod.snd x))))]) * 1) 140737488355328) true
 (.leaf (Vam.Ex.normal, St.mk [(2, SV.av (AV.one (Lf.ptr 31700 0 0 0 0))), (3, SV.av (AV.one (Lf.ptr 31701 0 0 0 0))), (4, SV.av (AV.one (Lf.own 58 0 0 (List.length (List.append (Prod.fst x) [icv IntKind.u8 (shr IntKind.u64 (imul IntKind.u64 8 p17_75) (imul IntKind.i64 8 (isub IntKind.i64 7 (Prod.snd x))))])) 1))), (5, SV.av (AV.one (Lf.v (Value.int IntKind.u64 p17_75)))), (46, SV.av (AV.one (Lf.v (Value.int IntKind.i64 (iadd IntKind.i64 (Prod.snd x) 1)))))] [(57, Blk.row 5 (K.int IntKind.u8) [icv IntKind.u8 (shr IntKind.u64 (imul IntKind.u64 8 p17_75) (imul IntKind.i64 8 (isub IntKind.i64 7 (Prod.snd x))))]), (58, Blk.row 5 (K.int IntKind.u8) (List.append (Prod.fst x) [icv IntKind.u8 (shr IntKind.u64 (imul IntKind.u64 8 p17_75) (imul IntKind.i64 8 (isub IntKind.i64 7 (Prod.snd x))))])), (31700, Blk.cells 26 [Lf.dat (K.arr 32 (K.int IntKind.u8)) [0, 0, 0, 0, 0, 0, 0, 0, 0, 0, 0, 0, 0, 0, 0, 0, 0, 0, 0, 0, 0, 0, 0, 0, 0, 0, 0, 0, 0, 0, 0, 0]]), (31701, Blk.cells 35 [Lf.dat (K.arr 8 (K.int IntKind.u32)) p17_99]), (31702, Blk.dead)]) (.inl ((List.append (Prod.fst x) [icv IntKind.u8 (shr IntKind.u64 (imul IntKind.u64 8 p17_75) (imul IntKind.i64 8 (isub IntKind.i64 7 (Prod.snd x))))], iadd IntKind.i64 (Prod.snd x) 1))))))))))))
 (.leaf (Ex.exit 6, St.mk [(2, SV.av (AV.one (Lf.ptr 31700 0 0 0 0))), (3, SV.av (AV.one (Lf.ptr 31701 0 0 0 0))), (4, SV.av (AV.one (Lf.own 31702 0 0 (List.length (Prod.fst x)) 1))), (5, SV.av (AV.one (Lf.v (Value.int IntKind.u64 p17_75)))), (46, SV.av (AV.one (Lf.v (Value.int IntKind.i64 (Prod.snd x)))))] [(31700, Blk.cells 26 [Lf.dat (K.arr 32 (K.int IntKind.u8)) [0, 0, 0, 0, 0, 0, 0, 0, 0, 0, 0, 0, 0, 0, 0, 0, 0, 0, 0, 0, 0, 0, 0, 0, 0, 0, 0, 0, 0, 0, 0, 0]]), (31701, Blk.cells 35 [Lf.dat (K.arr 8 (K.int IntKind.u32)) p17_99]), (31702, Blk.row 5 (K.int IntKind.u8) (Prod.fst x))]) (.inr (Prod.fst x))))
theorem f8_l17_v (p17_75 : Int) (p17_99 : List Int) (x : List Int × Int) : vc (execK P noG Tryd.f8.ntmps f8_hn [2, 3, 4, 5, 46] (loopOf Tryd.f8 17) (f8_l17_D p17_75 p17_99 x)) (f8_l17_t p17_75 p17_99 x) = vcT (f8_l17_t p17_75 p17_99 x) := by kernel_rfl
theorem f8_l17_o (d : Nat) (p17_75 : Int) (p17_99 : List Int) (x : List Int × Int) : obl (Snd P noG) (Lp P noG Tryd.f8.ntmps [] f8_hn d) (RelL Tryd.f8.ntmps noG [] (f8_l17_D p17_75 p17_99) (f8_l17_E p17_75 p17_99)) (f8_l17_t p17_75 p17_99 x) := by
 unfold f8_l17_t
 exact (oAsk (fun h0 => (oNeed fun h1 => (oPick (oSure rfl (oPick (oSure rfl (oSure (nEq_t.2 rfl) (oNeed fun h2 => (oNeed fun h3 => (oLeaf (relN (wk_tw [(58, 31702), (31701, 31701), (31700, 31700)] [2, 3, 4, 5, 46] [] (by kernel_rfl) (by kernel_rfl)))))))))))))
 (fun h0 => (oLeaf (relE rfl (wk_tw [(31702, 61702), (31701, 61701), (31700, 61700)] [2, 3, 4] [] (by kernel_rfl) (by kernel_rfl))))))
noncomputable def f8_l17_m (p17_75 : Int) (p17_99 : List Int) (x : List Int × Int) : Option (List Int) := lrun (fun x => mod (f8_l17_t p17_75 p17_99 x)) x
theorem f8_l17_e (p17_75 : Int) (p17_99 : List Int) (x : List Int × Int) : mod (f8_l17_t p17_75 p17_99 x) =
 (sel (ilt (Prod.snd x) 8)
 (sel (ile 0 (imul IntKind.i64 8 (isub IntKind.i64 7 (Prod.snd x))))
 (sel (nle (List.length (List.append (Prod.fst x) [icv IntKind.u8 (shr IntKind.u64 (imul IntKind.u64 8 p17_75) (imul IntKind.i64 8 (isub IntKind.i64 7 (Prod.snd x))))])) 9223372036854775807)
 (sel (nle (List.length (List.append (Prod.fst x) [icv IntKind.u8 (shr IntKind.u64 (imul IntKind.u64 8 p17_75) (imul IntKind.i64 8 (isub IntKind.i64 7 (Prod.snd x))))]) * 1) 140737488355328)
 (some ((.inl ((List.append (Prod.fst x) [icv IntKind.u8 (shr IntKind.u64 (imul IntKind.u64 8 p17_75) (imul IntKind.i64 8 (isub IntKind.i64 7 (Prod.snd x))))], iadd IntKind.i64 (Prod.snd x) 1))))) none) none) none)
 (some ((.inr (Prod.fst x))))) := by kernel_rfl
theorem f8_l17_s0 (d : Nat) {p17_75 : Int} {p17_99 : List Int} {σ : St} {x : List Int × Int} {z : List Int} (h : f8_l17_m p17_75 p17_99 x = some z) (hw : Wk Tryd.f8.ntmps noG [] σ (f8_l17_D p17_75 p17_99 x)) : Lp P noG Tryd.f8.ntmps [] f8_hn (d + 1) (loopOf Tryd.f8 17) σ (Ex.exit 6) (f8_l17_E0 p17_75 p17_99 z) :=
 lp_tree (D := f8_l17_D p17_75 p17_99) (E := f8_l17_E p17_75 p17_99) (f8_l17_v p17_75 p17_99) (f8_l17_o d p17_75 p17_99) h hw
def f8_l22_D (p22_77 : List Int) (x : List Int × Int) : St := St.mk [(2, SV.av (AV.one (Lf.ptr 32200 0 0 0 0))), (3, SV.av (AV.one (Lf.ptr 32201 0 0 0 0))), (4, SV.av (AV.one (Lf.own 32202 0 0 (List.length p22_77) 1))), (9, SV.av (AV.one (Lf.v (Value.int IntKind.i64 (Prod.snd x)))))] [(32200, Blk.cells 26 [Lf.dat (K.arr 32 (K.int IntKind.u8)) [0, 0, 0, 0, 0, 0, 0, 0, 0, 0, 0, 0, 0, 0, 0, 0, 0, 0, 0, 0, 0, 0, 0, 0, 0, 0, 0, 0, 0, 0, 0, 0]]), (32201, Blk.cells 35 [Lf.dat (K.arr 8 (K.int IntKind.u32)) (Prod.fst x)]), (32202, Blk.row 5 (K.int IntKind.u8) p22_77)]
def f8_l22_E0 (p22_77 : List Int) (y : List Int) : St := St.mk [(2, SV.av (AV.one (Lf.ptr 62200 0 0 0 0))), (3, SV.av (AV.one (Lf.ptr 62201 0 0 0 0)))] [(62200, Blk.cells 26 [Lf.dat (K.arr 32 (K.int IntKind.u8)) [0, 0, 0, 0, 0, 0, 0, 0, 0, 0, 0, 0, 0, 0, 0, 0, 0, 0, 0, 0, 0, 0, 0, 0, 0, 0, 0, 0, 0, 0, 0, 0]]), (62201, Blk.cells 35 [Lf.dat (K.arr 8 (K.int IntKind.u32)) y])]
def f8_l22_E (p22_77 : List Int) : List Int → Ex × St
  | y => (Ex.exit 8, f8_l22_E0 p22_77 y)
noncomputable def f8_l22_t (p22_77 : List Int) (x : List Int × Int) : DT (Ex × St) ((List Int × Int) ⊕ (List Int)) :=
 (.ask (ilt (Prod.snd x) ↑(List.length p22_77))
 (.need (ile 0 (Prod.snd x)) true
 (.need (ile (Prod.snd x) ↑(List.length p22_77)) true
 (.pick false (.need (nle (0 + Int.toNat (Prod.snd x) + (List.length p22_77 - Int.toNat (Prod.snd x))) (List.length p22_77)) true
 (.call 11 [AV.one (Lf.dat (K.arr 8 (K.int IntKind.u32)) (Prod.fst x)), AV.one (Lf.dat (K.sl (K.int IntKind.u8)) (List.take (List.length p22_77 - Int.toNat (Prod.snd x)) (List.drop (0 + Int.toNat (Prod.snd x)) p22_77)))] [] (f11_m (Prod.fst x) (List.take (List.length p22_77 - Int.toNat (Prod.snd x)) (List.drop (0 + Int.toNat (Prod.snd x)) p22_77))) (fun z205 => SV.av (AV.one (Lf.dat (K.arr 8 (K.int IntKind.u32)) z205))) (fun z205 => []) fun z205 =>
 (.leaf (Vam.Ex.normal, St.mk [(2, SV.av (AV.one (Lf.ptr 32200 0 0 0 0))), (3, SV.av (AV.one (Lf.ptr 32201 0 0 0 0))), (4, SV.av (AV.one (Lf.own 32202 0 0 (List.length p22_77) 1))), (9, SV.av (AV.one (Lf.v (Value.int IntKind.i64 (iadd IntKind.i64 (Prod.snd x) 64)))))] [(32200, Blk.cells 26 [Lf.dat (K.arr 32 (K.int IntKind.u8)) [0, 0, 0, 0, 0, 0, 0, 0, 0, 0, 0, 0, 0, 0, 0, 0, 0, 0, 0, 0, 0, 0, 0, 0, 0, 0, 0, 0, 0, 0, 0, 0]]), (32201, Blk.cells 35 [Lf.dat (K.arr 8 (K.int IntKind.u32)) z205]), (32202, Blk.row 5 (K.int IntKind.u8) p22_77)]) (.inl ((z205, iadd IntKind.i64 (Prod.snd x) 64)))))))))
 (.leaf (Ex.exit 8, St.mk [(2, SV.av (AV.one (Lf.ptr 32200 0 0 0 0))), (3, SV.av (AV.one (Lf.ptr 32201 0 0 0 0))), (4, SV.av (AV.one (Lf.own 32202 0 0 (List.length p22_77) 1))), (9, SV.av (AV.one (Lf.v (Value.int IntKind.i64 (Prod.snd x)))))] [(32200, Blk.cells 26 [Lf.dat (K.arr 32 (K.int IntKind.u8)) [0, 0, 0, 0, 0, 0, 0, 0, 0, 0, 0, 0, 0, 0, 0, 0, 0, 0, 0, 0, 0, 0, 0, 0, 0, 0, 0, 0, 0, 0, 0, 0]]), (32201, Blk.cells 35 [Lf.dat (K.arr 8 (K.int IntKind.u32)) (Prod.fst x)]), (32202, Blk.row 5 (K.int IntKind.u8) p22_77)]) (.inr (Prod.fst x))))
theorem f8_l22_v (p22_77 : List Int) (x : List Int × Int) : vc (execK P noG Tryd.f8.ntmps f8_hn [2, 3, 4, 9] (loopOf Tryd.f8 22) (f8_l22_D p22_77 x)) (f8_l22_t p22_77 x) = vcT (f8_l22_t p22_77 x) := by kernel_rfl
theorem f8_l22_o (d : Nat) (p22_77 : List Int) (x : List Int × Int) : obl (Snd P noG) (Lp P noG Tryd.f8.ntmps [] f8_hn d) (RelL Tryd.f8.ntmps noG [] (f8_l22_D p22_77) (f8_l22_E p22_77)) (f8_l22_t p22_77 x) := by
 unfold f8_l22_t
 exact (oAsk (fun h0 => (oNeed fun h1 => (oNeed fun h2 => (oPick (oNeed fun h3 => (oCall (fun _ e => f11_s e) fun z205 _ =>
 (oLeaf (relN (wk_tw [(32202, 32202), (32201, 32201), (32200, 32200)] [2, 3, 4, 9] [] (by kernel_rfl) (by kernel_rfl))))))))))
 (fun h0 => (oLeaf (relE rfl (wk_tw [(32201, 62201), (32200, 62200)] [2, 3] [] (by kernel_rfl) (by kernel_rfl))))))
noncomputable def f8_l22_m (p22_77 : List Int) (x : List Int × Int) : Option (List Int) := lrun (fun x => mod (f8_l22_t p22_77 x)) x
theorem f8_l22_e (p22_77 : List Int) (x : List Int × Int) : mod (f8_l22_t p22_77 x) =
 (sel (ilt (Prod.snd x) ↑(List.length p22_77))
 (sel (ile 0 (Prod.snd x))
 (sel (ile (Prod.snd x) ↑(List.length p22_77))
 (sel (nle (0 + Int.toNat (Prod.snd x) + (List.length p22_77 - Int.toNat (Prod.snd x))) (List.length p22_77))
 (Option.bind (f11_m (Prod.fst x) (List.take (List.length p22_77 - Int.toNat (Prod.snd x)) (List.drop (0 + Int.toNat (Prod.snd x)) p22_77))) fun z205 =>
 (some ((.inl ((z205, iadd IntKind.i64 (Prod.snd x) 64)))))) none) none) none)
 (some ((.inr (Prod.fst x))))) := by kernel_rfl
theorem f8_l22_s0 (d : Nat) {p22_77 : List Int} {σ : St} {x : List Int × Int} {z : List Int} (h : f8_l22_m p22_77 x = some z) (hw : Wk Tryd.f8.ntmps noG [] σ (f8_l22_D p22_77 x)) : Lp P noG Tryd.f8.ntmps [] f8_hn (d + 1) (loopOf Tryd.f8 22) σ (Ex.exit 8) (f8_l22_E0 p22_77 z) :=
 lp_tree (D := f8_l22_D p22_77) (E := f8_l22_E p22_77) (f8_l22_v p22_77) (f8_l22_o d p22_77) h hw
def f8_l27_D (p27_126 : List Int) (x : List Int × Int) : St := St.mk [(2, SV.av (AV.one (Lf.ptr 32700 0 0 0 0))), (3, SV.av (AV.one (Lf.ptr 32701 0 0 0 0))), (10, SV.av (AV.one (Lf.ptr 32702 0 0 0 0))), (71, SV.av (AV.one (Lf.v (Value.int IntKind.i64 (Prod.snd x)))))] [(32700, Blk.cells 26 [Lf.dat (K.arr 32 (K.int IntKind.u8)) [0, 0, 0, 0, 0, 0, 0, 0, 0, 0, 0, 0, 0, 0, 0, 0, 0, 0, 0, 0, 0, 0, 0, 0, 0, 0, 0, 0, 0, 0, 0, 0]]), (32701, Blk.cells 35 [Lf.dat (K.arr 8 (K.int IntKind.u32)) p27_126]), (32702, Blk.cells 26 [Lf.dat (K.arr 32 (K.int IntKind.u8)) (Prod.fst x)])]
def f8_l27_E0 (p27_126 : List Int) (y : List Int) : St := St.mk [(2, SV.av (AV.one (Lf.ptr 62700 0 0 0 0))), (10, SV.av (AV.one (Lf.ptr 62701 0 0 0 0)))] [(62700, Blk.cells 26 [Lf.dat (K.arr 32 (K.int IntKind.u8)) [0, 0, 0, 0, 0, 0, 0, 0, 0, 0, 0, 0, 0, 0, 0, 0, 0, 0, 0, 0, 0, 0, 0, 0, 0, 0, 0, 0, 0, 0, 0, 0]]), (62701, Blk.cells 26 [Lf.dat (K.arr 32 (K.int IntKind.u8)) y])]
def f8_l27_E (p27_126 : List Int) : List Int → Ex × St
  | y => (Ex.exit 10, f8_l27_E0 p27_126 y)
noncomputable def f8_l27_t (p27_126 : List Int) (x : List Int × Int) : DT (Ex × St) ((List Int × Int) ⊕ (List Int)) :=
 (.ask (ilt (Prod.snd x) 32)
 (.sure (true) true
 (.need (ile 0 (iquo IntKind.i64 (Prod.snd x) 4)) true
 (.need (ilt (iquo IntKind.i64 (Prod.snd x) 4) 8) true
 (.need (nlt (Int.toNat (iquo IntKind.i64 (Prod.snd x) 4)) 8) true
 (.sure (true) true
 (.need (ile 0 (isub IntKind.i64 24 (imul IntKind.i64 8 (irem (Prod.snd x) 4)))) true
 (.need (ile 0 (Prod.snd x)) true
 (.sure (ilt (Prod.snd x) 32) true
 (.need (nlt (Int.toNat (Prod.snd x)) 32) true
 (.leaf (Vam.Ex.normal, St.mk [(2, SV.av (AV.one (Lf.ptr 32700 0 0 0 0))), (3, SV.av (AV.one (Lf.ptr 32701 0 0 0 0))), (10, SV.av (AV.one (Lf.ptr 32702 0 0 0 0))), (71, SV.av (AV.one (Lf.v (Value.int IntKind.i64 (iadd IntKind.i64 (Prod.snd x) 1)))))] [(32700, Blk.cells 26 [Lf.dat (K.arr 32 (K.int IntKind.u8)) [0, 0, 0, 0, 0, 0, 0, 0, 0, 0, 0, 0, 0, 0, 0, 0, 0, 0, 0, 0, 0, 0, 0, 0, 0, 0, 0, 0, 0, 0, 0, 0]]), (32701, Blk.cells 35 [Lf.dat (K.arr 8 (K.int IntKind.u32)) p27_126]), (32702, Blk.cells 26 [Lf.dat (K.arr 32 (K.int IntKind.u8)) (List.set (Prod.fst x) (Int.toNat (Prod.snd x)) (icv IntKind.u8 (shr IntKind.u32 (gd (K.int IntKind.u32) p27_126 (Int.toNat (iquo IntKind.i64 (Prod.snd x) 4))) (isub IntKind.i64 24 (imul IntKind.i64 8 (irem (Prod.snd x) 4))))))])]) (.inl ((List.set (Prod.fst x) (Int.toNat (Prod.snd x)) (icv IntKind.u8 (shr IntKind.u32 (gd (K.int IntKind.u32) p27_126 (Int.toNat (iquo IntKind.i64 (Prod.snd x) 4))) (isub IntKind.i64 24 (imul IntKind.i64 8 (irem (Prod.snd x) 4))))), iadd IntKind.i64 (Prod.snd x) 1)))))))))))))
 (.leaf (Ex.exit 10, St.mk [(2, SV.av (AV.one (Lf.ptr 32700 0 0 0 0))), (3, SV.av (AV.one (Lf.ptr 32701 0 0 0 0))), (10, SV.av (AV.one (Lf.ptr 32702 0 0 0 0))), (71, SV.av (AV.one (Lf.v (Value.int IntKind.i64 (Prod.snd x)))))] [(32700, Blk.cells 26 [Lf.dat (K.arr 32 (K.int IntKind.u8)) [0, 0, 0, 0, 0, 0, 0, 0, 0, 0, 0, 0, 0, 0, 0, 0, 0, 0, 0, 0, 0, 0, 0, 0, 0, 0, 0, 0, 0, 0, 0, 0]]), (32701, Blk.cells 35 [Lf.dat (K.arr 8 (K.int IntKind.u32)) p27_126]), (32702, Blk.cells 26 [Lf.dat (K.arr 32 (K.int IntKind.u8)) (Prod.fst x)])]) (.inr (Prod.fst x))))
theorem f8_l27_v (p27_126 : List Int) (x : List Int × Int) : vc (execK P noG Tryd.f8.ntmps f8_hn [2, 3, 10, 71] (loopOf Tryd.f8 27) (f8_l27_D p27_126 x)) (f8_l27_t p27_126 x) = vcT (f8_l27_t p27_126 x) := by kernel_rfl
theorem f8_l27_o (d : Nat) (p27_126 : List Int) (x : List Int × Int) : obl (Snd P noG) (Lp P noG Tryd.f8.ntmps [] f8_hn d) (RelL Tryd.f8.ntmps noG [] (f8_l27_D p27_126) (f8_l27_E p27_126)) (f8_l27_t p27_126 x) := by
 unfold f8_l27_t
 exact (oAsk (fun h0 => (oSure rfl (oNeed fun h1 => (oNeed fun h2 => (oNeed fun h3 => (oSure rfl (oNeed fun h4 => (oNeed fun h5 => (oSure h0 (oNeed fun h6 => (oLeaf (relN (wk_tw [(32702, 32702), (32701, 32701), (32700, 32700)] [2, 3, 10, 71] [] (by kernel_rfl) (by kernel_rfl))))))))))))))
 (fun h0 => (oLeaf (relE rfl (wk_tw [(32702, 62701), (32700, 62700)] [2, 10] [] (by kernel_rfl) (by kernel_rfl))))))
noncomputable def f8_l27_m (p27_126 : List Int) (x : List Int × Int) : Option (List Int) := lrun (fun x => mod (f8_l27_t p27_126 x)) x
theorem f8_l27_e (p27_126 : List Int) (x : List Int × Int) : mod (f8_l27_t p27_126 x) =
 (sel (ilt (Prod.snd x) 32)
 (sel (ile 0 (iquo IntKind.i64 (Prod.snd x) 4))
 (sel (ilt (iquo IntKind.i64 (Prod.snd x) 4) 8)
 (sel (nlt (Int.toNat (iquo IntKind.i64 (Prod.snd x) 4)) 8)
 (sel (ile 0 (isub IntKind.i64 24 (imul IntKind.i64 8 (irem (Prod.snd x) 4))))
 (sel (ile 0 (Prod.snd x))
 (sel (nlt (Int.toNat (Prod.snd x)) 32)
 (some ((.inl ((List.set (Prod.fst x) (Int.toNat (Prod.snd x)) (icv IntKind.u8 (shr IntKind.u32 (gd (K.int IntKind.u32) p27_126 (Int.toNat (iquo IntKind.i64 (Prod.snd x) 4))) (isub IntKind.i64 24 (imul IntKind.i64 8 (irem (Prod.snd x) 4))))), iadd IntKind.i64 (Prod.snd x) 1))))) none) none) none) none) none) none)
 (some ((.inr (Prod.fst x))))) := by kernel_rfl
theorem f8_l27_s0 (d : Nat) {p27_126 : List Int} {σ : St} {x : List Int × Int} {z : List Int} (h : f8_l27_m p27_126 x = some z) (hw : Wk Tryd.f8.ntmps noG [] σ (f8_l27_D p27_126 x)) : Lp P noG Tryd.f8.ntmps [] f8_hn (d + 1) (loopOf Tryd.f8 27) σ (Ex.exit 10) (f8_l27_E0 p27_126 z) :=
 lp_tree (D := f8_l27_D p27_126) (E := f8_l27_E p27_126) (f8_l27_v p27_126) (f8_l27_o d p27_126) h hw
def f8_l5_D (p5_0 : List ByteArray) (p5_1 : Int) (x : List Int × Int × Int × List Int × Nat × Nat) : St := St.mk [(2, SV.av (AV.one (Lf.ptr 30500 0 0 0 0))), (3, SV.av (AV.one (Lf.ptr 30501 0 0 0 0))), (4, SV.av (AV.one (Lf.own 30551 0 (Prod.fst (Prod.snd (Prod.snd (Prod.snd (Prod.snd x))))) (Prod.snd (Prod.snd (Prod.snd (Prod.snd (Prod.snd x))))) 1))), (5, SV.av (AV.one (Lf.v (Value.int IntKind.u64 (Prod.fst (Prod.snd x)))))), (13, SV.av (AV.one (Lf.dat (K.sl K.str) p5_0))), (14, SV.av (AV.one (Lf.v (Value.int IntKind.i64 p5_1)))), (15, SV.av (AV.one (Lf.v (Value.int IntKind.i64 (Prod.fst (Prod.snd (Prod.snd x)))))))] [(30500, Blk.cells 26 [Lf.dat (K.arr 32 (K.int IntKind.u8)) [0, 0, 0, 0, 0, 0, 0, 0, 0, 0, 0, 0, 0, 0, 0, 0, 0, 0, 0, 0, 0, 0, 0, 0, 0, 0, 0, 0, 0, 0, 0, 0]]), (30501, Blk.cells 35 [Lf.dat (K.arr 8 (K.int IntKind.u32)) (Prod.fst (Prod.snd (Prod.snd (Prod.snd x))))]), (30551, Blk.row 5 (K.int IntKind.u8) (Prod.fst x))]
def f8_l5_E0 (p5_0 : List ByteArray) (p5_1 : Int) (y : List Int × Int × List Int × Nat × Nat) : St := St.mk [(2, SV.av (AV.one (Lf.ptr 60500 0 0 0 0))), (3, SV.av (AV.one (Lf.ptr 60501 0 0 0 0))), (4, SV.av (AV.one (Lf.own 60551 0 (Prod.fst (Prod.snd (Prod.snd (Prod.snd y)))) (Prod.snd (Prod.snd (Prod.snd (Prod.snd y)))) 1))), (5, SV.av (AV.one (Lf.v (Value.int IntKind.u64 (Prod.fst (Prod.snd y))))))] [(60500, Blk.cells 26 [Lf.dat (K.arr 32 (K.int IntKind.u8)) [0, 0, 0, 0, 0, 0, 0, 0, 0, 0, 0, 0, 0, 0, 0, 0, 0, 0, 0, 0, 0, 0, 0, 0, 0, 0, 0, 0, 0, 0, 0, 0]]), (60501, Blk.cells 35 [Lf.dat (K.arr 8 (K.int IntKind.u32)) (Prod.fst (Prod.snd (Prod.snd y)))]), (60551, Blk.row 5 (K.int IntKind.u8) (Prod.fst y))]
def f8_l5_E (p5_0 : List ByteArray) (p5_1 : Int) : List Int × Int × List Int × Nat × Nat → Ex × St
  | y => (Ex.exit 0, f8_l5_E0 p5_0 p5_1 y)
noncomputable def f8_l5_t (p5_0 : List ByteArray) (p5_1 : Int) (x : List Int × Int × Int × List Int × Nat × Nat) : DT (Ex × St) ((List Int × Int × Int × List Int × Nat × Nat) ⊕ (List Int × Int × List Int × Nat × Nat)) :=
 (.ask (ilt (Prod.fst (Prod.snd (Prod.snd x))) p5_1)
 (.need (ile 0 (Prod.fst (Prod.snd (Prod.snd x)))) true
 (.need (ilt (Prod.fst (Prod.snd (Prod.snd x))) (llen p5_0)) true
 (.pick false (.need (nle (Prod.fst (Prod.snd (Prod.snd (Prod.snd (Prod.snd x))))) (List.length (Prod.fst x))) true
 (.need (nEq (Prod.snd (Prod.snd (Prod.snd (Prod.snd (Prod.snd x))))) (List.length (List.drop (Prod.fst (Prod.snd (Prod.snd (Prod.snd (Prod.snd x))))) (Prod.fst x)))) true
 (.need (nle (List.length (List.append (List.drop (Prod.fst (Prod.snd (Prod.snd (Prod.snd (Prod.snd x))))) (Prod.fst x)) (nums (gd K.str p5_0 (Int.toNat (Prod.fst (Prod.snd (Prod.snd x)))))))) 9223372036854775807) true
 (.need (nle (List.length (List.append (List.drop (Prod.fst (Prod.snd (Prod.snd (Prod.snd (Prod.snd x))))) (Prod.fst x)) (nums (gd K.str p5_0 (Int.toNat (Prod.fst (Prod.snd (Prod.snd x))))))) * 1) 140737488355328) true
 (.loop (loopOf Tryd.f8 9) (St.mk [(2, SV.av (AV.one (Lf.ptr 30500 0 0 0 0))), (3, SV.av (AV.one (Lf.ptr 30501 0 0 0 0))), (4, SV.av (AV.one (Lf.own 26 0 0 (List.length (List.append (List.drop (Prod.fst (Prod.snd (Prod.snd (Prod.snd (Prod.snd x))))) (Prod.fst x)) (nums (gd K.str p5_0 (Int.toNat (Prod.fst (Prod.snd (Prod.snd x)))))))) 1))), (5, SV.av (AV.one (Lf.v (Value.int IntKind.u64 (iadd IntKind.u64 (Prod.fst (Prod.snd x)) (icv IntKind.u64 (ssz (gd K.str p5_0 (Int.toNat (Prod.fst (Prod.snd (Prod.snd x)))))))))))), (13, SV.av (AV.one (Lf.dat (K.sl K.str) p5_0))), (14, SV.av (AV.one (Lf.v (Value.int IntKind.i64 p5_1)))), (15, SV.av (AV.one (Lf.v (Value.int IntKind.i64 (Prod.fst (Prod.snd (Prod.snd x)))))))] [(26, Blk.row 5 (K.int IntKind.u8) (List.append (List.drop (Prod.fst (Prod.snd (Prod.snd (Prod.snd (Prod.snd x))))) (Prod.fst x)) (nums (gd K.str p5_0 (Int.toNat (Prod.fst (Prod.snd (Prod.snd x)))))))), (30500, Blk.cells 26 [Lf.dat (K.arr 32 (K.int IntKind.u8)) [0, 0, 0, 0, 0, 0, 0, 0, 0, 0, 0, 0, 0, 0, 0, 0, 0, 0, 0, 0, 0, 0, 0, 0, 0, 0, 0, 0, 0, 0, 0, 0]]), (30501, Blk.cells 35 [Lf.dat (K.arr 8 (K.int IntKind.u32)) (Prod.fst (Prod.snd (Prod.snd (Prod.snd x))))]), (30551, Blk.dead)]) (f8_l9_m (iadd IntKind.u64 (Prod.fst (Prod.snd x)) (icv IntKind.u64 (ssz (gd K.str p5_0 (Int.toNat (Prod.fst (Prod.snd (Prod.snd x)))))))) p5_0 p5_1 (List.append (List.drop (Prod.fst (Prod.snd (Prod.snd (Prod.snd (Prod.snd x))))) (Prod.fst x)) (nums (gd K.str p5_0 (Int.toNat (Prod.fst (Prod.snd (Prod.snd x))))))) (Prod.fst (Prod.snd (Prod.snd x))) (Prod.fst (Prod.snd (Prod.snd (Prod.snd x))), 0, List.length (List.append (List.drop (Prod.fst (Prod.snd (Prod.snd (Prod.snd (Prod.snd x))))) (Prod.fst x)) (nums (gd K.str p5_0 (Int.toNat (Prod.fst (Prod.snd (Prod.snd x))))))))) (Ex.exit 2) (f8_l9_E0 (iadd IntKind.u64 (Prod.fst (Prod.snd x)) (icv IntKind.u64 (ssz (gd K.str p5_0 (Int.toNat (Prod.fst (Prod.snd (Prod.snd x)))))))) p5_0 p5_1 (List.append (List.drop (Prod.fst (Prod.snd (Prod.snd (Prod.snd (Prod.snd x))))) (Prod.fst x)) (nums (gd K.str p5_0 (Int.toNat (Prod.fst (Prod.snd (Prod.snd x))))))) (Prod.fst (Prod.snd (Prod.snd x)))) fun z206 =>
 (.leaf (Vam.Ex.normal, St.mk [(2, SV.av (AV.one (Lf.ptr 60900 0 0 0 0))), (3, SV.av (AV.one (Lf.ptr 60901 0 0 0 0))), (4, SV.av (AV.one (Lf.own 60902 0 (Prod.fst (Prod.snd z206)) (Prod.snd (Prod.snd z206)) 1))), (5, SV.av (AV.one (Lf.v (Value.int IntKind.u64 (iadd IntKind.u64 (Prod.fst (Prod.snd x)) (icv IntKind.u64 (ssz (gd K.str p5_0 (Int.toNat (Prod.fst (Prod.snd (Prod.snd x)))))))))))), (13, SV.av (AV.one (Lf.dat (K.sl K.str) p5_0))), (14, SV.av (AV.one (Lf.v (Value.int IntKind.i64 p5_1)))), (15, SV.av (AV.one (Lf.v (Value.int IntKind.i64 (iadd IntKind.i64 (Prod.fst (Prod.snd (Prod.snd x))) 1)))))] [(60900, Blk.cells 26 [Lf.dat (K.arr 32 (K.int IntKind.u8)) [0, 0, 0, 0, 0, 0, 0, 0, 0, 0, 0, 0, 0, 0, 0, 0, 0, 0, 0, 0, 0, 0, 0, 0, 0, 0, 0, 0, 0, 0, 0, 0]]), (60901, Blk.cells 35 [Lf.dat (K.arr 8 (K.int IntKind.u32)) (Prod.fst z206)]), (60902, Blk.row 5 (K.int IntKind.u8) (List.append (List.drop (Prod.fst (Prod.snd (Prod.snd (Prod.snd (Prod.snd x))))) (Prod.fst x)) (nums (gd K.str p5_0 (Int.toNat (Prod.fst (Prod.snd (Prod.snd x))))))))]) (.inl ((List.append (List.drop (Prod.fst (Prod.snd (Prod.snd (Prod.snd (Prod.snd x))))) (Prod.fst x)) (nums (gd K.str p5_0 (Int.toNat (Prod.fst (Prod.snd (Prod.snd x)))))), iadd IntKind.u64 (Prod.fst (Prod.snd x)) (icv IntKind.u64 (ssz (gd K.str p5_0 (Int.toNat (Prod.fst (Prod.snd (Prod.snd x))))))), iadd IntKind.i64 (Prod.fst (Prod.snd (Prod.snd x))) 1, Prod.fst z206, Prod.fst (Prod.snd z206), Prod.snd (Prod.snd z206)))))))))))))
 (.leaf (Ex.exit 0, St.mk [(2, SV.av (AV.one (Lf.ptr 30500 0 0 0 0))), (3, SV.av (AV.one (Lf.ptr 30501 0 0 0 0))), (4, SV.av (AV.one (Lf.own 30551 0 (Prod.fst (Prod.snd (Prod.snd (Prod.snd (Prod.snd x))))) (Prod.snd (Prod.snd (Prod.snd (Prod.snd (Prod.snd x))))) 1))), (5, SV.av (AV.one (Lf.v (Value.int IntKind.u64 (Prod.fst (Prod.snd x)))))), (13, SV.av (AV.one (Lf.dat (K.sl K.str) p5_0))), (14, SV.av (AV.one (Lf.v (Value.int IntKind.i64 p5_1)))), (15, SV.av (AV.one (Lf.v (Value.int IntKind.i64 (Prod.fst (Prod.snd (Prod.snd x)))))))] [(30500, Blk.cells 26 [Lf.dat (K.arr 32 (K.int IntKind.u8)) [0, 0, 0, 0, 0, 0, 0, 0, 0, 0, 0, 0, 0, 0, 0, 0, 0, 0, 0, 0, 0, 0, 0, 0, 0, 0, 0, 0, 0, 0, 0, 0]]), (30501, Blk.cells 35 [Lf.dat (K.arr 8 (K.int IntKind.u32)) (Prod.fst (Prod.snd (Prod.snd (Prod.snd x))))]), (30551, Blk.row 5 (K.int IntKind.u8) (Prod.fst x))]) (.inr ((Prod.fst x, Prod.fst (Prod.snd x), Prod.fst (Prod.snd (Prod.snd (Prod.snd x))), Prod.fst (Prod.snd (Prod.snd (Prod.snd (Prod.snd x)))), Prod.snd (Prod.snd (Prod.snd (Prod.snd (Prod.snd x)))))))))
theorem f8_l5_v (p5_0 : List ByteArray) (p5_1 : Int) (x : List Int × Int × Int × List Int × Nat × Nat) : vc (execK P noG Tryd.f8.ntmps f8_hn [2, 3, 4, 5, 13, 14, 15] (loopOf Tryd.f8 5) (f8_l5_D p5_0 p5_1 x)) (f8_l5_t p5_0 p5_1 x) = vcT (f8_l5_t p5_0 p5_1 x) := by kernel_rfl
theorem f8_l5_o (d : Nat) (p5_0 : List ByteArray) (p5_1 : Int) (x : List Int × Int × Int × List Int × Nat × Nat) : obl (Snd P noG) (Lp P noG Tryd.f8.ntmps [] f8_hn (d + 1)) (RelL Tryd.f8.ntmps noG [] (f8_l5_D p5_0 p5_1) (f8_l5_E p5_0 p5_1)) (f8_l5_t p5_0 p5_1 x) := by
 unfold f8_l5_t
 exact (oAsk (fun h0 => (oNeed fun h1 => (oNeed fun h2 => (oPick (oNeed fun h3 => (oNeed fun h4 => (oNeed fun h5 => (oNeed fun h6 => (oLoop (fun _ e => f8_l9_s0 d e (wk_tw [(26, 30902), (30501, 30901), (30500, 30900)] [2, 3, 4, 5, 13, 14, 15] [] (by kernel_rfl) (by kernel_rfl))) fun z206 _ =>
 (oLeaf (relN (wk_tw [(60902, 30551), (60901, 30501), (60900, 30500)] [2, 3, 4, 5, 13, 14, 15] [] (by kernel_rfl) (by kernel_rfl)))))))))))))
 (fun h0 => (oLeaf (relE rfl (wk_tw [(30551, 60551), (30501, 60501), (30500, 60500)] [2, 3, 4, 5] [] (by kernel_rfl) (by kernel_rfl))))))
noncomputable def f8_l5_m (p5_0 : List ByteArray) (p5_1 : Int) (x : List Int × Int × Int × List Int × Nat × Nat) : Option (List Int × Int × List Int × Nat × Nat) := lrun (fun x => mod (f8_l5_t p5_0 p5_1 x)) x
theorem f8_l5_e (p5_0 : List ByteArray) (p5_1 : Int) (x : List Int × Int × Int × List Int × Nat × Nat) : mod (f8_l5_t p5_0 p5_1 x) =
 (sel (ilt (Prod.fst (Prod.snd (Prod.snd x))) p5_1)
 (sel (ile 0 (Prod.fst (Prod.snd (Prod.snd x))))
 (sel (ilt (Prod.fst (Prod.snd (Prod.snd x))) (llen p5_0))
 (sel (nle (Prod.fst (Prod.snd (Prod.snd (Prod.snd (Prod.snd x))))) (List.length (Prod.fst x)))
 (sel (nEq (Prod.snd (Prod.snd (Prod.snd (Prod.snd (Prod.snd x))))) (List.length (List.drop (Prod.fst (Prod.snd (Prod.snd (Prod.snd (Prod.snd x))))) (Prod.fst x))))
 (sel (nle (List.length (List.append (List.drop (Prod.fst (Prod.snd (Prod.snd (Prod.snd (Prod.snd x))))) (Prod.fst x)) (nums (gd K.str p5_0 (Int.toNat (Prod.fst (Prod.snd (Prod.snd x)))))))) 9223372036854775807)
 (sel (nle (List.length (List.append (List.drop (Prod.fst (Prod.snd (Prod.snd (Prod.snd (Prod.snd x))))) (Prod.fst x)) (nums (gd K.str p5_0 (Int.toNat (Prod.fst (Prod.snd (Prod.snd x))))))) * 1) 140737488355328)
 (Option.bind (f8_l9_m (iadd IntKind.u64 (Prod.fst (Prod.snd x)) (icv IntKind.u64 (ssz (gd K.str p5_0 (Int.toNat (Prod.fst (Prod.snd (Prod.snd x)))))))) p5_0 p5_1 (List.append (List.drop (Prod.fst (Prod.snd (Prod.snd (Prod.snd (Prod.snd x))))) (Prod.fst x)) (nums (gd K.str p5_0 (Int.toNat (Prod.fst (Prod.snd (Prod.snd x))))))) (Prod.fst (Prod.snd (Prod.snd x))) (Prod.fst (Prod.snd (Prod.snd (Prod.snd x))), 0, List.length (List.append (List.drop (Prod.fst (Prod.snd (Prod.snd (Prod.snd (Prod.snd x))))) (Prod.fst x)) (nums (gd K.str p5_0 (Int.toNat (Prod.fst (Prod.snd (Prod.snd x))))))))) fun z206 =>
 (some ((.inl ((List.append (List.drop (Prod.fst (Prod.snd (Prod.snd (Prod.snd (Prod.snd x))))) (Prod.fst x)) (nums (gd K.str p5_0 (Int.toNat (Prod.fst (Prod.snd (Prod.snd x)))))), iadd IntKind.u64 (Prod.fst (Prod.snd x)) (icv IntKind.u64 (ssz (gd K.str p5_0 (Int.toNat (Prod.fst (Prod.snd (Prod.snd x))))))), iadd IntKind.i64 (Prod.fst (Prod.snd (Prod.snd x))) 1, Prod.fst z206, Prod.fst (Prod.snd z206), Prod.snd (Prod.snd z206))))))) none) none) none) none) none) none)
 (some ((.inr ((Prod.fst x, Prod.fst (Prod.snd x), Prod.fst (Prod.snd (Prod.snd (Prod.snd x))), Prod.fst (Prod.snd (Prod.snd (Prod.snd (Prod.snd x)))), Prod.snd (Prod.snd (Prod.snd (Prod.snd (Prod.snd x)))))))))) := by kernel_rfl
theorem f8_l5_s0 (d : Nat) {p5_0 : List ByteArray} {p5_1 : Int} {σ : St} {x : List Int × Int × Int × List Int × Nat × Nat} {z : List Int × Int × List Int × Nat × Nat} (h : f8_l5_m p5_0 p5_1 x = some z) (hw : Wk Tryd.f8.ntmps noG [] σ (f8_l5_D p5_0 p5_1 x)) : Lp P noG Tryd.f8.ntmps [] f8_hn (d + 2) (loopOf Tryd.f8 5) σ (Ex.exit 0) (f8_l5_E0 p5_0 p5_1 z) :=
 lp_tree (D := f8_l5_D p5_0 p5_1) (E := f8_l5_E p5_0 p5_1) (f8_l5_v p5_0 p5_1) (f8_l5_o d p5_0 p5_1) h hw
def f8_R (a0 : List ByteArray) : List Int → SV × Hp
  | z => (SV.av (AV.one (Lf.dat (K.arr 32 (K.int IntKind.u8)) z)), [])
noncomputable def f8_t (a0 : List ByteArray) : DT (SV × Hp) (List Int) :=
 (.loop (loopOf Tryd.f8 5) (St.mk [(2, SV.av (AV.one (Lf.ptr 2 0 0 0 0))), (3, SV.av (AV.one (Lf.ptr 3 0 0 0 0))), (4, SV.av (AV.one (Lf.v (Value.slice none 0 0)))), (5, SV.av (AV.one (Lf.v (Value.int IntKind.u64 0)))), (13, SV.av (AV.one (Lf.dat (K.sl K.str) a0))), (14, SV.av (AV.one (Lf.v (Value.int IntKind.i64 (llen a0))))), (15, SV.av (AV.one (Lf.v (Value.int IntKind.i64 0))))] [(2, Blk.cells 26 [Lf.dat (K.arr 32 (K.int IntKind.u8)) [0, 0, 0, 0, 0, 0, 0, 0, 0, 0, 0, 0, 0, 0, 0, 0, 0, 0, 0, 0, 0, 0, 0, 0, 0, 0, 0, 0, 0, 0, 0, 0]]), (3, Blk.cells 35 [Lf.dat (K.arr 8 (K.int IntKind.u32)) [1779033703, 3144134277, 1013904242, 2773480762, 1359893119, 2600822924, 528734635, 1541459225]])]) (f8_l5_m a0 (llen a0) ([], 0, 0, [1779033703, 3144134277, 1013904242, 2773480762, 1359893119, 2600822924, 528734635, 1541459225], 0, 0)) (Ex.exit 0) (f8_l5_E0 a0 (llen a0)) fun z207 =>
 (.pick true (.sure (true) true
 (.pick false (.need (nle (Prod.fst (Prod.snd (Prod.snd (Prod.snd z207)))) (List.length (Prod.fst z207))) true
 (.need (nEq (Prod.snd (Prod.snd (Prod.snd (Prod.snd z207)))) (List.length (List.drop (Prod.fst (Prod.snd (Prod.snd (Prod.snd z207)))) (Prod.fst z207)))) true
 (.need (nle (List.length (List.append (List.drop (Prod.fst (Prod.snd (Prod.snd (Prod.snd z207)))) (Prod.fst z207)) [128])) 9223372036854775807) true
 (.need (nle (List.length (List.append (List.drop (Prod.fst (Prod.snd (Prod.snd (Prod.snd z207)))) (Prod.fst z207)) [128]) * 1) 140737488355328) true
 (.loop (loopOf Tryd.f8 14) (St.mk [(2, SV.av (AV.one (Lf.ptr 60500 0 0 0 0))), (3, SV.av (AV.one (Lf.ptr 60501 0 0 0 0))), (4, SV.av (AV.one (Lf.own 38 0 0 (List.length (List.append (List.drop (Prod.fst (Prod.snd (Prod.snd (Prod.snd z207)))) (Prod.fst z207)) [128])) 1))), (5, SV.av (AV.one (Lf.v (Value.int IntKind.u64 (Prod.fst (Prod.snd z207))))))] [(37, Blk.row 5 (K.int IntKind.u8) [128]), (38, Blk.row 5 (K.int IntKind.u8) (List.append (List.drop (Prod.fst (Prod.snd (Prod.snd (Prod.snd z207)))) (Prod.fst z207)) [128])), (60500, Blk.cells 26 [Lf.dat (K.arr 32 (K.int IntKind.u8)) [0, 0, 0, 0, 0, 0, 0, 0, 0, 0, 0, 0, 0, 0, 0, 0, 0, 0, 0, 0, 0, 0, 0, 0, 0, 0, 0, 0, 0, 0, 0, 0]]), (60501, Blk.cells 35 [Lf.dat (K.arr 8 (K.int IntKind.u32)) (Prod.fst (Prod.snd (Prod.snd z207)))]), (60551, Blk.dead)]) (f8_l14_m (Prod.fst (Prod.snd z207)) (Prod.fst (Prod.snd (Prod.snd z207))) (List.append (List.drop (Prod.fst (Prod.snd (Prod.snd (Prod.snd z207)))) (Prod.fst z207)) [128])) (Ex.exit 4) (f8_l14_E0 (Prod.fst (Prod.snd z207)) (Prod.fst (Prod.snd (Prod.snd z207)))) fun z208 =>
 (.loop (loopOf Tryd.f8 17) (St.mk [(2, SV.av (AV.one (Lf.ptr 61400 0 0 0 0))), (3, SV.av (AV.one (Lf.ptr 61401 0 0 0 0))), (4, SV.av (AV.one (Lf.own 61402 0 0 (List.length z208) 1))), (5, SV.av (AV.one (Lf.v (Value.int IntKind.u64 (Prod.fst (Prod.snd z207)))))), (46, SV.av (AV.one (Lf.v (Value.int IntKind.i64 0))))] [(61400, Blk.cells 26 [Lf.dat (K.arr 32 (K.int IntKind.u8)) [0, 0, 0, 0, 0, 0, 0, 0, 0, 0, 0, 0, 0, 0, 0, 0, 0, 0, 0, 0, 0, 0, 0, 0, 0, 0, 0, 0, 0, 0, 0, 0]]), (61401, Blk.cells 35 [Lf.dat (K.arr 8 (K.int IntKind.u32)) (Prod.fst (Prod.snd (Prod.snd z207)))]), (61402, Blk.row 5 (K.int IntKind.u8) z208)]) (f8_l17_m (Prod.fst (Prod.snd z207)) (Prod.fst (Prod.snd (Prod.snd z207))) (z208, 0)) (Ex.exit 6) (f8_l17_E0 (Prod.fst (Prod.snd z207)) (Prod.fst (Prod.snd (Prod.snd z207)))) fun z209 =>
 (.loop (loopOf Tryd.f8 22) (St.mk [(2, SV.av (AV.one (Lf.ptr 61700 0 0 0 0))), (3, SV.av (AV.one (Lf.ptr 61701 0 0 0 0))), (4, SV.av (AV.one (Lf.own 61702 0 0 (List.length z209) 1))), (9, SV.av (AV.one (Lf.v (Value.int IntKind.i64 0))))] [(61700, Blk.cells 26 [Lf.dat (K.arr 32 (K.int IntKind.u8)) [0, 0, 0, 0, 0, 0, 0, 0, 0, 0, 0, 0, 0, 0, 0, 0, 0, 0, 0, 0, 0, 0, 0, 0, 0, 0, 0, 0, 0, 0, 0, 0]]), (61701, Blk.cells 35 [Lf.dat (K.arr 8 (K.int IntKind.u32)) (Prod.fst (Prod.snd (Prod.snd z207)))]), (61702, Blk.row 5 (K.int IntKind.u8) z209)]) (f8_l22_m z209 (Prod.fst (Prod.snd (Prod.snd z207)), 0)) (Ex.exit 8) (f8_l22_E0 z209) fun z210 =>
 (.loop (loopOf Tryd.f8 27) (St.mk [(2, SV.av (AV.one (Lf.ptr 62200 0 0 0 0))), (3, SV.av (AV.one (Lf.ptr 62201 0 0 0 0))), (10, SV.av (AV.one (Lf.ptr 10 0 0 0 0))), (71, SV.av (AV.one (Lf.v (Value.int IntKind.i64 0))))] [(10, Blk.cells 26 [Lf.dat (K.arr 32 (K.int IntKind.u8)) [0, 0, 0, 0, 0, 0, 0, 0, 0, 0, 0, 0, 0, 0, 0, 0, 0, 0, 0, 0, 0, 0, 0, 0, 0, 0, 0, 0, 0, 0, 0, 0]]), (62200, Blk.cells 26 [Lf.dat (K.arr 32 (K.int IntKind.u8)) [0, 0, 0, 0, 0, 0, 0, 0, 0, 0, 0, 0, 0, 0, 0, 0, 0, 0, 0, 0, 0, 0, 0, 0, 0, 0, 0, 0, 0, 0, 0, 0]]), (62201, Blk.cells 35 [Lf.dat (K.arr 8 (K.int IntKind.u32)) z210])]) (f8_l27_m z210 ([0, 0, 0, 0, 0, 0, 0, 0, 0, 0, 0, 0, 0, 0, 0, 0, 0, 0, 0, 0, 0, 0, 0, 0, 0, 0, 0, 0, 0, 0, 0, 0], 0)) (Ex.exit 10) (f8_l27_E0 z210) fun z211 =>
 (.leaf (SV.av (AV.one (Lf.dat (K.arr 32 (K.int IntKind.u8)) z211)), [(62700, Blk.cells 26 [Lf.dat (K.arr 32 (K.int IntKind.u8)) z211]), (62701, Blk.cells 26 [Lf.dat (K.arr 32 (K.int IntKind.u8)) z211])]) (z211))))))))))))))
theorem f8_v (a0 : List ByteArray) : vc (runR P noG Tryd.f8 f8_hn [AV.one (Lf.dat (K.sl K.str) a0)] []) (f8_t a0) = vcT (f8_t a0) := by kernel_rfl
theorem f8_o (a0 : List ByteArray) : obl (Snd P noG) (Lp P noG Tryd.f8.ntmps [] f8_hn 2) (RelF [] (f8_R a0)) (f8_t a0) := by
 unfold f8_t
 exact (oLoop (fun _ e => f8_l5_s0 0 e (wk_tw [(3, 30501), (2, 30500)] [2, 3, 4, 5, 13, 14, 15] [(30551, 5, K.int IntKind.u8)] (by kernel_rfl) (by kernel_rfl))) fun z207 _ =>
 (oPick (oSure rfl (oPick (oNeed fun h0 => (oNeed fun h1 => (oNeed fun h2 => (oNeed fun h3 => (oLoop (fun _ e => f8_l14_s0 1 e (wk_tw [(38, 31402), (60501, 31401), (60500, 31400)] [2, 3, 4, 5] [] (by kernel_rfl) (by kernel_rfl))) fun z208 _ =>
 (oLoop (fun _ e => f8_l17_s0 1 e (wk_tw [(61402, 31702), (61401, 31701), (61400, 31700)] [2, 3, 4, 5, 46] [] (by kernel_rfl) (by kernel_rfl))) fun z209 _ =>
 (oLoop (fun _ e => f8_l22_s0 1 e (wk_tw [(61702, 32202), (61701, 32201), (61700, 32200)] [2, 3, 4, 9] [] (by kernel_rfl) (by kernel_rfl))) fun z210 _ =>
 (oLoop (fun _ e => f8_l27_s0 1 e (wk_tw [(10, 32702), (62201, 32701), (62200, 32700)] [2, 3, 10, 71] [] (by kernel_rfl) (by kernel_rfl))) fun z211 _ =>
 (oLeaf (wks_tw [] [] (by kernel_rfl) (by kernel_rfl)))))))))))))))
noncomputable def f8_m (a0 : List ByteArray) : Option (List Int) := mod (f8_t a0)
theorem f8_e (a0 : List ByteArray) : f8_m a0 =
 (Option.bind (f8_l5_m a0 (llen a0) ([], 0, 0, [1779033703, 3144134277, 1013904242, 2773480762, 1359893119, 2600822924, 528734635, 1541459225], 0, 0)) fun z207 =>
 (sel (nle (Prod.fst (Prod.snd (Prod.snd (Prod.snd z207)))) (List.length (Prod.fst z207)))
 (sel (nEq (Prod.snd (Prod.snd (Prod.snd (Prod.snd z207)))) (List.length (List.drop (Prod.fst (Prod.snd (Prod.snd (Prod.snd z207)))) (Prod.fst z207))))
 (sel (nle (List.length (List.append (List.drop (Prod.fst (Prod.snd (Prod.snd (Prod.snd z207)))) (Prod.fst z207)) [128])) 9223372036854775807)
 (sel (nle (List.length (List.append (List.drop (Prod.fst (Prod.snd (Prod.snd (Prod.snd z207)))) (Prod.fst z207)) [128]) * 1) 140737488355328)
 (Option.bind (f8_l14_m (Prod.fst (Prod.snd z207)) (Prod.fst (Prod.snd (Prod.snd z207))) (List.append (List.drop (Prod.fst (Prod.snd (Prod.snd (Prod.snd z207)))) (Prod.fst z207)) [128])) fun z208 =>
 (Option.bind (f8_l17_m (Prod.fst (Prod.snd z207)) (Prod.fst (Prod.snd (Prod.snd z207))) (z208, 0)) fun z209 =>
 (Option.bind (f8_l22_m z209 (Prod.fst (Prod.snd (Prod.snd z207)), 0)) fun z210 =>
 (Option.bind (f8_l27_m z210 ([0, 0, 0, 0, 0, 0, 0, 0, 0, 0, 0, 0, 0, 0, 0, 0, 0, 0, 0, 0, 0, 0, 0, 0, 0, 0, 0, 0, 0, 0, 0, 0], 0)) fun z211 =>
 (some ((z211))))))) none) none) none) none)) := by kernel_rfl
theorem f8_s {a0 : List ByteArray} {z : List Int} (h : f8_m a0 = some z) : Snd P noG 8 [AV.one (Lf.dat (K.sl K.str) a0)] [] (SV.av (AV.one (Lf.dat (K.arr 32 (K.int IntKind.u8)) z))) [] :=
 snd_tree (hn := f8_hn) 2 (f8_R a0) mixed (by kernel_rfl) (by kernel_rfl) (by kernel_rfl) (by kernel_rfl) (by kernel_rfl) (f8_v a0) (f8_o a0) h
def f7_hn : Hn := Hn.mk [(1001, [(1000000, 3)])] [] [] [] []
def f7_R  : Bool → SV × Hp
  | z => (SV.av (AV.one (Lf.v (Value.bool z))), [])
noncomputable def f7_t  : DT (SV × Hp) (Bool) :=
 (.pick true (.sure (true) true
 (.call 8 [AV.one (Lf.dat (K.sl K.str) [ByteArray.mk #[97, 98, 99]])] [] (f8_m [ByteArray.mk #[97, 98, 99]]) (fun z25 => SV.av (AV.one (Lf.dat (K.arr 32 (K.int IntKind.u8)) z25))) (fun z25 => []) fun z25 =>
 (.call 8 [AV.one (Lf.dat (K.sl K.str) [])] [] (f8_m []) (fun z30 => SV.av (AV.one (Lf.dat (K.arr 32 (K.int IntKind.u8)) z30))) (fun z30 => []) fun z30 =>
 (.sure (true) true
 (.sure (true) true
 (.sure (true) true
 (.pick false (.sure (true) true
 (.ask (seq (strOfNums (List.take 4 (List.drop 0 z25))) (ByteArray.mk #[186, 120, 22, 191]))
 (.sure (true) true
 (.sure (true) true
 (.sure (true) true
 (.sure (seq (strOfNums (List.take 4 (List.drop 0 z25))) (ByteArray.mk #[186, 120, 22, 191])) true
 (.pick false (.sure (true) true
 (.sure (seq (strOfNums (List.take 4 (List.drop 0 z25))) (ByteArray.mk #[186, 120, 22, 191])) true
 (.sure (seq (strOfNums (List.take 4 (List.drop 0 z25))) (ByteArray.mk #[186, 120, 22, 191])) true
 (.leaf (SV.av (AV.one (Lf.v (Value.bool (seq (strOfNums (List.take 4 (List.drop 0 z30))) (ByteArray.mk #[227, 176, 196, 66]))))), [(1, Blk.cells 26 [Lf.dat (K.arr 32 (K.int IntKind.u8)) z25]), (2, Blk.cells 26 [Lf.dat (K.arr 32 (K.int IntKind.u8)) z30]), (3, Blk.row 9 K.str [ByteArray.mk #[97, 98, 99]])]) (seq (strOfNums (List.take 4 (List.drop 0 z30))) (ByteArray.mk #[227, 176, 196, 66])))))))))))
 (.sure (seq (strOfNums (List.take 4 (List.drop 0 z25))) (ByteArray.mk #[186, 120, 22, 191])) false
 (.sure (seq (strOfNums (List.take 4 (List.drop 0 z25))) (ByteArray.mk #[186, 120, 22, 191])) false
 (.sure (seq (strOfNums (List.take 4 (List.drop 0 z25))) (ByteArray.mk #[186, 120, 22, 191])) false
 (.leaf (SV.av (AV.one (Lf.v (Value.bool false))), [(1, Blk.cells 26 [Lf.dat (K.arr 32 (K.int IntKind.u8)) z25]), (2, Blk.cells 26 [Lf.dat (K.arr 32 (K.int IntKind.u8)) z30]), (3, Blk.row 9 K.str [ByteArray.mk #[97, 98, 99]])]) (false)))))))))))))))
theorem f7_v  : vc (runR P noG Tryd.f7 f7_hn [] []) (f7_t ) = vcT (f7_t ) := by kernel_rfl
theorem f7_o  : obl (Snd P noG) (Lp P noG Tryd.f7.ntmps [] f7_hn 1) (RelF [] (f7_R )) (f7_t ) := by
 unfold f7_t
 exact (oPick (oSure rfl (oCall (fun _ e => f8_s e) fun z25 _ =>
 (oCall (fun _ e => f8_s e) fun z30 _ =>
 (oSure rfl (oSure rfl (oSure rfl (oPick (oSure rfl (oAsk (fun h0 => (oSure rfl (oSure rfl (oSure rfl (oSure h0 (oPick (oSure rfl (oSure h0 (oSure h0 (oLeaf (wks_tw [] [] (by kernel_rfl) (by kernel_rfl))))))))))))
 (fun h0 => (oSure h0 (oSure h0 (oSure h0 (oLeaf (wks_tw [] [] (by kernel_rfl) (by kernel_rfl)))))))))))))))))
noncomputable def f7_m  : Option (Bool) := mod (f7_t )
theorem f7_e  : f7_m  =
 (Option.bind (f8_m [ByteArray.mk #[97, 98, 99]]) fun z25 =>
 (Option.bind (f8_m []) fun z30 =>
 (sel (seq (strOfNums (List.take 4 (List.drop 0 z25))) (ByteArray.mk #[186, 120, 22, 191]))
 (some ((seq (strOfNums (List.take 4 (List.drop 0 z30))) (ByteArray.mk #[227, 176, 196, 66]))))
 (some ((false)))))) := by kernel_rfl
theorem f7_s  {z : Bool} (h : f7_m  = some z) : Snd P noG 7 [] [] (SV.av (AV.one (Lf.v (Value.bool z)))) [] :=
 snd_tree (hn := f7_hn) 1 (f7_R ) mixed (by kernel_rfl) (by kernel_rfl) (by kernel_rfl) (by kernel_rfl) (by kernel_rfl) (f7_v ) (f7_o ) h
def f15_hn : Hn := Hn.mk [] [] [] [] []
def f15_R (a0 : Int) (a1 : Int) : Int → SV × Hp
  | z => (SV.av (AV.one (Lf.v (Value.int IntKind.u32 z))), [])
noncomputable def f15_t (a0 : Int) (a1 : Int) : DT (SV × Hp) (Int) :=
 (.need (ile 0 a1) true
 (.need (ile 0 (isub IntKind.u32 32 a1)) true
 (.leaf (SV.av (AV.one (Lf.v (Value.int IntKind.u32 (ior IntKind.u32 (shr IntKind.u32 a0 a1) (shl IntKind.u32 a0 (isub IntKind.u32 32 a1)))))), []) (ior IntKind.u32 (shr IntKind.u32 a0 a1) (shl IntKind.u32 a0 (isub IntKind.u32 32 a1))))))
theorem f15_v (a0 : Int) (a1 : Int) : vc (runR P noG Tryd.f15 f15_hn [AV.one (Lf.v (Value.int IntKind.u32 a0)), AV.one (Lf.v (Value.int IntKind.u32 a1))] []) (f15_t a0 a1) = vcT (f15_t a0 a1) := by kernel_rfl
theorem f15_o (a0 : Int) (a1 : Int) : obl (Snd P noG) (Lp P noG Tryd.f15.ntmps [] f15_hn 1) (RelF [] (f15_R a0 a1)) (f15_t a0 a1) := by
 unfold f15_t
 exact (oNeed fun h0 => (oNeed fun h1 => (oLeaf (wks_tw [] [] (by kernel_rfl) (by kernel_rfl)))))
noncomputable def f15_m (a0 : Int) (a1 : Int) : Option (Int) := mod (f15_t a0 a1)
theorem f15_e (a0 : Int) (a1 : Int) : f15_m a0 a1 =
 (sel (ile 0 a1)
 (sel (ile 0 (isub IntKind.u32 32 a1))
 (some ((ior IntKind.u32 (shr IntKind.u32 a0 a1) (shl IntKind.u32 a0 (isub IntKind.u32 32 a1))))) none) none) := by kernel_rfl
theorem f15_s {a0 : Int} {a1 : Int} {z : Int} (h : f15_m a0 a1 = some z) : Snd P noG 15 [AV.one (Lf.v (Value.int IntKind.u32 a0)), AV.one (Lf.v (Value.int IntKind.u32 a1))] [] (SV.av (AV.one (Lf.v (Value.int IntKind.u32 z)))) [] :=
 snd_tree (hn := f15_hn) 1 (f15_R a0 a1) mixed (by kernel_rfl) (by kernel_rfl) (by kernel_rfl) (by kernel_rfl) (by kernel_rfl) (f15_v a0 a1) (f15_o a0 a1) h
def f16_hn : Hn := Hn.mk [] [] [] [] []
def f16_s0  : List Int := List.set (List.set (List.set (List.set (List.set (List.set (List.set (List.set (List.set (List.set (List.set (List.set (List.set (List.replicate 64 (0 : Int)) 0 1116352408) 1 1899447441) 2 3049323471) 3 3921009573) 4 961987163) 5 1508970993) 6 2453635748) 7 2870763221) 8 3624381080) 9 310598401) 10 607225278) 11 1426881987) 12 1925078388
def f16_s1  : List Int := List.set (List.set (List.set (List.set (List.set (List.set (List.set (List.set (List.set (List.set (List.set (List.set (List.set (List.set f16_s0 13 2162078206) 14 2614888103) 15 3248222580) 16 3835390401) 17 4022224774) 18 264347078) 19 604807628) 20 770255983) 21 1249150122) 22 1555081692) 23 1996064986) 24 2554220882) 25 2821834349) 26 2952996808
def f16_s2  : List Int := List.set (List.set (List.set (List.set (List.set (List.set (List.set (List.set (List.set (List.set (List.set (List.set (List.set (List.set f16_s1 27 3210313671) 28 3336571891) 29 3584528711) 30 113926993) 31 338241895) 32 666307205) 33 773529912) 34 1294757372) 35 1396182291) 36 1695183700) 37 1986661051) 38 2177026350) 39 2456956037) 40 2730485921
def f16_s3  : List Int := List.set (List.set (List.set (List.set (List.set (List.set (List.set (List.set (List.set (List.set (List.set (List.set (List.set (List.set f16_s2 41 2820302411) 42 3259730800) 43 3345764771) 44 3516065817) 45 3600352804) 46 4094571909) 47 275423344) 48 430227734) 49 506948616) 50 659060556) 51 883997877) 52 958139571) 53 1322822218) 54 1537002063
def f16_R (a0 : Int) : Int → SV × Hp
  | z => (SV.av (AV.one (Lf.v (Value.int IntKind.u32 z))), [])
noncomputable def f16_t (a0 : Int) : DT (SV × Hp) (Int) :=
 (.need (ile 0 a0) true
 (.need (ilt a0 64) true
 (.need (nlt (Int.toNat a0) 64) true
 (.leaf (SV.av (AV.one (Lf.v (Value.int IntKind.u32 (gd (K.int IntKind.u32) (List.set (List.set (List.set (List.set (List.set (List.set (List.set (List.set (List.set f16_s3 55 1747873779) 56 1955562222) 57 2024104815) 58 2227730452) 59 2361852424) 60 2428436474) 61 2756734187) 62 3204031479) 63 3329325298) (Int.toNat a0))))), [(3, Blk.cells 39 [Lf.dat (K.arr 64 (K.int IntKind.u32)) (List.set (List.set (List.set (List.set (List.set (List.set (List.set (List.set (List.set f16_s3 55 1747873779) 56 1955562222) 57 2024104815) 58 2227730452) 59 2361852424) 60 2428436474) 61 2756734187) 62 3204031479) 63 3329325298)])]) (gd (K.int IntKind.u32) (List.set (List.set (List.set (List.set (List.set (List.set (List.set (List.set (List.set f16_s3 55 1747873779) 56 1955562222) 57 2024104815) 58 2227730452) 59 2361852424) 60 2428436474) 61 2756734187) 62 3204031479) 63 3329325298) (Int.toNat a0))))))
theorem f16_v (a0 : Int) : vc (runR P noG Tryd.f16 f16_hn [AV.one (Lf.v (Value.int IntKind.i64 a0))] []) (f16_t a0) = vcT (f16_t a0) := by kernel_rfl
theorem f16_o (a0 : Int) : obl (Snd P noG) (Lp P noG Tryd.f16.ntmps [] f16_hn 1) (RelF [] (f16_R a0)) (f16_t a0) := by
 unfold f16_t
 exact (oNeed fun h0 => (oNeed fun h1 => (oNeed fun h2 => (oLeaf (wks_tw [] [] (by kernel_rfl) (by kernel_rfl))))))
noncomputable def f16_m (a0 : Int) : Option (Int) := mod (f16_t a0)
theorem f16_e (a0 : Int) : f16_m a0 =
 (sel (ile 0 a0)
 (sel (ilt a0 64)
 (sel (nlt (Int.toNat a0) 64)
 (some ((gd (K.int IntKind.u32) (List.set (List.set (List.set (List.set (List.set (List.set (List.set (List.set (List.set f16_s3 55 1747873779) 56 1955562222) 57 2024104815) 58 2227730452) 59 2361852424) 60 2428436474) 61 2756734187) 62 3204031479) 63 3329325298) (Int.toNat a0)))) none) none) none) := by kernel_rfl
theorem f16_s {a0 : Int} {z : Int} (h : f16_m a0 = some z) : Snd P noG 16 [AV.one (Lf.v (Value.int IntKind.i64 a0))] [] (SV.av (AV.one (Lf.v (Value.int IntKind.u32 z)))) [] :=
 snd_tree (hn := f16_hn) 1 (f16_R a0) mixed (by kernel_rfl) (by kernel_rfl) (by kernel_rfl) (by kernel_rfl) (by kernel_rfl) (f16_v a0) (f16_o a0) h
def f12_hn : Hn := Hn.mk [] [] [] [] [(4, [1, 2, 4, 5, 6]), (8, [2, 4, 5, 7]), (15, [2, 4, 5, 10, 11]), (23, [2, 4, 10, 16])]
def f12_l3_D (p3_0 : ByteArray) (p3_1 : List Int) (x : List Int × Int) : St := St.mk [(1, SV.av (AV.one (Lf.v (Value.string p3_0)))), (2, SV.av (AV.one (Lf.ptr 30300 0 0 0 0))), (4, SV.av (AV.one (Lf.ptr 30301 0 0 0 0))), (5, SV.av (AV.one (Lf.ptr 30302 0 0 0 0))), (6, SV.av (AV.one (Lf.v (Value.int IntKind.i64 (Prod.snd x)))))] [(30300, Blk.cells 35 [Lf.dat (K.arr 8 (K.int IntKind.u32)) p3_1]), (30301, Blk.cells 35 [Lf.dat (K.arr 8 (K.int IntKind.u32)) [0, 0, 0, 0, 0, 0, 0, 0]]), (30302, Blk.cells 39 [Lf.dat (K.arr 64 (K.int IntKind.u32)) (Prod.fst x)])]
def f12_l3_E0 (p3_0 : ByteArray) (p3_1 : List Int) (y : List Int) : St := St.mk [(2, SV.av (AV.one (Lf.ptr 60300 0 0 0 0))), (4, SV.av (AV.one (Lf.ptr 60301 0 0 0 0))), (5, SV.av (AV.one (Lf.ptr 60302 0 0 0 0)))] [(60300, Blk.cells 35 [Lf.dat (K.arr 8 (K.int IntKind.u32)) p3_1]), (60301, Blk.cells 35 [Lf.dat (K.arr 8 (K.int IntKind.u32)) [0, 0, 0, 0, 0, 0, 0, 0]]), (60302, Blk.cells 39 [Lf.dat (K.arr 64 (K.int IntKind.u32)) y])]
def f12_l3_E (p3_0 : ByteArray) (p3_1 : List Int) : List Int → Ex × St
  | y => (Ex.exit 0, f12_l3_E0 p3_0 p3_1 y)
def f12_s0 (p3_0 : ByteArray) (x : List Int × Int) : Int := ior IntKind.u32 (ior IntKind.u32 (shl IntKind.u32 (icv IntKind.u32 (bt p3_0 (imul IntKind.i64 4 (Prod.snd x)))) 24) (shl IntKind.u32 (icv IntKind.u32 (bt p3_0 (iadd IntKind.i64 (imul IntKind.i64 4 (Prod.snd x)) 1))) 16)) (shl IntKind.u32 (icv IntKind.u32 (bt p3_0 (iadd IntKind.i64 (imul IntKind.i64 4 (Prod.snd x)) 2))) 8)
noncomputable def f12_l3_t (p3_0 : ByteArray) (p3_1 : List Int) (x : List Int × Int) : DT (Ex × St) ((List Int × Int) ⊕ (List Int)) :=
 (.ask (ilt (Prod.snd x) 16)
 (.need (ile 0 (imul IntKind.i64 4 (Prod.snd x))) true
 (.need (ilt (imul IntKind.i64 4 (Prod.snd x)) (ssz p3_0)) true
 (.sure (true) true
 (.need (ile 0 (iadd IntKind.i64 (imul IntKind.i64 4 (Prod.snd x)) 1)) true
 (.need (ilt (iadd IntKind.i64 (imul IntKind.i64 4 (Prod.snd x)) 1) (ssz p3_0)) true
 (.sure (true) true
 (.need (ile 0 (iadd IntKind.i64 (imul IntKind.i64 4 (Prod.snd x)) 2)) true
 (.need (ilt (iadd IntKind.i64 (imul IntKind.i64 4 (Prod.snd x)) 2) (ssz p3_0)) true
 (.sure (true) true
 (.need (ile 0 (iadd IntKind.i64 (imul IntKind.i64 4 (Prod.snd x)) 3)) true
 (.need (ilt (iadd IntKind.i64 (imul IntKind.i64 4 (Prod.snd x)) 3) (ssz p3_0)) true
 (.need (ile 0 (Prod.snd x)) true
 (.need (ilt (Prod.snd x) 64) true
 (.need (nlt (Int.toNat (Prod.snd x)) 64) true
 (.leaf (Vam.Ex.normal, St.mk [(1, SV.av (AV.one (Lf.v (Value.string p3_0)))), (2, SV.av (AV.one (Lf.ptr 30300 0 0 0 0))), (4, SV.av (AV.one (Lf.ptr 30301 0 0 0 0))), (5, SV.av (AV.one (Lf.ptr 30302 0 0 0 0))), (6, SV.av (AV.one (Lf.v (Value.int IntKind.i64 (iadd IntKind.i64 (Prod.snd x) 1)))))] [(30300, Blk.cells 35 [Lf.dat (K.arr 8 (K.int IntKind.u32)) p3_1]), (30301, Blk.cells 35 [Lf.dat (K.arr 8 (K.int IntKind.u32)) [0, 0, 0, 0, 0, 0, 0, 0]]), (30302, Blk.cells 39 [Lf.dat (K.arr 64 (K.int IntKind.u32)) (List.set (Prod.fst x) (Int.toNat (Prod.snd x)) (ior IntKind.u32 (f12_s0 p3_0 x) (icv IntKind.u32 (bt p3_0 (iadd IntKind.i64 (imul IntKind.i64 4 (Prod.snd x)) 3)))))])]) (.inl ((List.set (Prod.fst x) (Int.toNat (Prod.snd x)) (ior IntKind.u32 (f12_s0 p3_0 x) (icv IntKind.u32 (bt p3_0 (iadd IntKind.i64 (imul IntKind.i64 4 (Prod.snd x)) 3)))), iadd IntKind.i64 (Prod.snd x) 1))))))))))))))))))
 (.leaf (Ex.exit 0, St.mk [(1, SV.av (AV.one (Lf.v (Value.string p3_0)))), (2, SV.av (AV.one (Lf.ptr 30300 0 0 0 0))), (4, SV.av (AV.one (Lf.ptr 30301 0 0 0 0))), (5, SV.av (AV.one (Lf.ptr 30302 0 0 0 0))), (6, SV.av (AV.one (Lf.v (Value.int IntKind.i64 (Prod.snd x)))))] [(30300, Blk.cells 35 [Lf.dat (K.arr 8 (K.int IntKind.u32)) p3_1]), (30301, Blk.cells 35 [Lf.dat (K.arr 8 (K.int IntKind.u32)) [0, 0, 0, 0, 0, 0, 0, 0]]), (30302, Blk.cells 39 [Lf.dat (K.arr 64 (K.int IntKind.u32)) (Prod.fst x)])]) (.inr (Prod.fst x))))
theorem f12_l3_v (p3_0 : ByteArray) (p3_1 : List Int) (x : List Int × Int) : vc (execK P noG Tryd.f12.ntmps f12_hn [1, 2, 4, 5, 6] (loopOf Tryd.f12 3) (f12_l3_D p3_0 p3_1 x)) (f12_l3_t p3_0 p3_1 x) = vcT (f12_l3_t p3_0 p3_1 x) := by kernel_rfl
theorem f12_l3_o (d : Nat) (p3_0 : ByteArray) (p3_1 : List Int) (x : List Int × Int) : obl (Snd P noG) (Lp P noG Tryd.f12.ntmps [] f12_hn d) (RelL Tryd.f12.ntmps noG [] (f12_l3_D p3_0 p3_1) (f12_l3_E p3_0 p3_1)) (f12_l3_t p3_0 p3_1 x) := by
 unfold f12_l3_t
 exact (oAsk (fun h0 => (oNeed fun h1 => (oNeed fun h2 => (oSure rfl (oNeed fun h3 => (oNeed fun h4 => (oSure rfl (oNeed fun h5 => (oNeed fun h6 => (oSure rfl (oNeed fun h7 => (oNeed fun h8 => (oNeed fun h9 => (oNeed fun h10 => (oNeed fun h11 => (oLeaf (relN (wk_tw [(30302, 30302), (30301, 30301), (30300, 30300)] [1, 2, 4, 5, 6] [] (by kernel_rfl) (by kernel_rfl)))))))))))))))))))
 (fun h0 => (oLeaf (relE rfl (wk_tw [(30302, 60302), (30301, 60301), (30300, 60300)] [2, 4, 5] [] (by kernel_rfl) (by kernel_rfl))))))
noncomputable def f12_l3_m (p3_0 : ByteArray) (p3_1 : List Int) (x : List Int × Int) : Option (List Int) := lrun (fun x => mod (f12_l3_t p3_0 p3_1 x)) x
theorem f12_l3_e (p3_0 : ByteArray) (p3_1 : List Int) (x : List Int × Int) : mod (f12_l3_t p3_0 p3_1 x) =
 (sel (ilt (Prod.snd x) 16)
 (sel (ile 0 (imul IntKind.i64 4 (Prod.snd x)))
 (sel (ilt (imul IntKind.i64 4 (Prod.snd x)) (ssz p3_0))
 (sel (ile 0 (iadd IntKind.i64 (imul IntKind.i64 4 (Prod.snd x)) 1))
 (sel (ilt (iadd IntKind.i64 (imul IntKind.i64 4 (Prod.snd x)) 1) (ssz p3_0))
 (sel (ile 0 (iadd IntKind.i64 (imul IntKind.i64 4 (Prod.snd x)) 2))
 (sel (ilt (iadd IntKind.i64 (imul IntKind.i64 4 (Prod.snd x)) 2) (ssz p3_0))
 (sel (ile 0 (iadd IntKind.i64 (imul IntKind.i64 4 (Prod.snd x)) 3))
 (sel (ilt (iadd IntKind.i64 (imul IntKind.i64 4 (Prod.snd x)) 3) (ssz p3_0))
 (sel (ile 0 (Prod.snd x))
 (sel (ilt (Prod.snd x) 64)
 (sel (nlt (Int.toNat (Prod.snd x)) 64)
 (some ((.inl ((List.set (Prod.fst x) (Int.toNat (Prod.snd x)) (ior IntKind.u32 (f12_s0 p3_0 x) (icv IntKind.u32 (bt p3_0 (iadd IntKind.i64 (imul IntKind.i64 4 (Prod.snd x)) 3)))), iadd IntKind.i64 (Prod.snd x) 1))))) none) none) none) none) none) none) none) none) none) none) none)
 (some ((.inr (Prod.fst x))))) := by kernel_rfl
theorem f12_l3_s0 (d : Nat) {p3_0 : ByteArray} {p3_1 : List Int} {σ : St} {x : List Int × Int} {z : List Int} (h : f12_l3_m p3_0 p3_1 x = some z) (hw : Wk Tryd.f12.ntmps noG [] σ (f12_l3_D p3_0 p3_1 x)) : Lp P noG Tryd.f12.ntmps [] f12_hn (d + 1) (loopOf Tryd.f12 3) σ (Ex.exit 0) (f12_l3_E0 p3_0 p3_1 z) :=
 lp_tree (D := f12_l3_D p3_0 p3_1) (E := f12_l3_E p3_0 p3_1) (f12_l3_v p3_0 p3_1) (f12_l3_o d p3_0 p3_1) h hw
def f12_l7_D (p7_6 : List Int) (x : List Int × Int) : St := St.mk [(2, SV.av (AV.one (Lf.ptr 30700 0 0 0 0))), (4, SV.av (AV.one (Lf.ptr 30701 0 0 0 0))), (5, SV.av (AV.one (Lf.ptr 30702 0 0 0 0))), (7, SV.av (AV.one (Lf.v (Value.int IntKind.i64 (Prod.snd x)))))] [(30700, Blk.cells 35 [Lf.dat (K.arr 8 (K.int IntKind.u32)) p7_6]), (30701, Blk.cells 35 [Lf.dat (K.arr 8 (K.int IntKind.u32)) [0, 0, 0, 0, 0, 0, 0, 0]]), (30702, Blk.cells 39 [Lf.dat (K.arr 64 (K.int IntKind.u32)) (Prod.fst x)])]
def f12_l7_E0 (p7_6 : List Int) (y : List Int) : St := St.mk [(2, SV.av (AV.one (Lf.ptr 60700 0 0 0 0))), (4, SV.av (AV.one (Lf.ptr 60701 0 0 0 0))), (5, SV.av (AV.one (Lf.ptr 60702 0 0 0 0)))] [(60700, Blk.cells 35 [Lf.dat (K.arr 8 (K.int IntKind.u32)) p7_6]), (60701, Blk.cells 35 [Lf.dat (K.arr 8 (K.int IntKind.u32)) [0, 0, 0, 0, 0, 0, 0, 0]]), (60702, Blk.cells 39 [Lf.dat (K.arr 64 (K.int IntKind.u32)) y])]
def f12_l7_E (p7_6 : List Int) : List Int → Ex × St
  | y => (Ex.exit 2, f12_l7_E0 p7_6 y)
def f12_s1 (x : List Int × Int) (z622 : Int) (z630 : Int) : Int := iadd IntKind.u32 (iadd IntKind.u32 (gd (K.int IntKind.u32) (Prod.fst x) (Int.toNat (isub IntKind.i64 (Prod.snd x) 16))) (ixor IntKind.u32 (ixor IntKind.u32 z622 z630) (shr IntKind.u32 (gd (K.int IntKind.u32) (Prod.fst x) (Int.toNat (isub IntKind.i64 (Prod.snd x) 15))) 3))) (gd (K.int IntKind.u32) (Prod.fst x) (Int.toNat (isub IntKind.i64 (Prod.snd x) 7)))
noncomputable def f12_l7_t (p7_6 : List Int) (x : List Int × Int) : DT (Ex × St) ((List Int × Int) ⊕ (List Int)) :=
 (.ask (ilt (Prod.snd x) 64)
 (.need (ile 0 (isub IntKind.i64 (Prod.snd x) 15)) true
 (.need (ilt (isub IntKind.i64 (Prod.snd x) 15) 64) true
 (.need (nlt (Int.toNat (isub IntKind.i64 (Prod.snd x) 15)) 64) true
 (.need (ile 0 (isub IntKind.i64 (Prod.snd x) 2)) true
 (.need (ilt (isub IntKind.i64 (Prod.snd x) 2) 64) true
 (.need (nlt (Int.toNat (isub IntKind.i64 (Prod.snd x) 2)) 64) true
 (.need (ile 0 (isub IntKind.i64 (Prod.snd x) 16)) true
 (.need (ilt (isub IntKind.i64 (Prod.snd x) 16) 64) true
 (.need (nlt (Int.toNat (isub IntKind.i64 (Prod.snd x) 16)) 64) true
 (.call 15 [AV.one (Lf.v (Value.int IntKind.u32 (gd (K.int IntKind.u32) (Prod.fst x) (Int.toNat (isub IntKind.i64 (Prod.snd x) 15))))), AV.one (Lf.v (Value.int IntKind.u32 7))] [] (f15_m (gd (K.int IntKind.u32) (Prod.fst x) (Int.toNat (isub IntKind.i64 (Prod.snd x) 15))) 7) (fun z622 => SV.av (AV.one (Lf.v (Value.int IntKind.u32 z622)))) (fun z622 => []) fun z622 =>
 (.call 15 [AV.one (Lf.v (Value.int IntKind.u32 (gd (K.int IntKind.u32) (Prod.fst x) (Int.toNat (isub IntKind.i64 (Prod.snd x) 15))))), AV.one (Lf.v (Value.int IntKind.u32 18))] [] (f15_m (gd (K.int IntKind.u32) (Prod.fst x) (Int.toNat (isub IntKind.i64 (Prod.snd x) 15))) 18) (fun z630 => SV.av (AV.one (Lf.v (Value.int IntKind.u32 z630)))) (fun z630 => []) fun z630 =>
 (.sure (true) true
 (.need (ile 0 (isub IntKind.i64 (Prod.snd x) 7)) true
 (.need (ilt (isub IntKind.i64 (Prod.snd x) 7) 64) true
 (.need (nlt (Int.toNat (isub IntKind.i64 (Prod.snd x) 7)) 64) true
 (.call 15 [AV.one (Lf.v (Value.int IntKind.u32 (gd (K.int IntKind.u32) (Prod.fst x) (Int.toNat (isub IntKind.i64 (Prod.snd x) 2))))), AV.one (Lf.v (Value.int IntKind.u32 17))] [] (f15_m (gd (K.int IntKind.u32) (Prod.fst x) (Int.toNat (isub IntKind.i64 (Prod.snd x) 2))) 17) (fun z638 => SV.av (AV.one (Lf.v (Value.int IntKind.u32 z638)))) (fun z638 => []) fun z638 =>
 (.call 15 [AV.one (Lf.v (Value.int IntKind.u32 (gd (K.int IntKind.u32) (Prod.fst x) (Int.toNat (isub IntKind.i64 (Prod.snd x) 2))))), AV.one (Lf.v (Value.int IntKind.u32 19))] [] (f15_m (gd (K.int IntKind.u32) (Prod.fst x) (Int.toNat (isub IntKind.i64 (Prod.snd x) 2))) 19) (fun z646 => SV.av (AV.one (Lf.v (Value.int IntKind.u32 z646)))) (fun z646 => []) fun z646 =>
 (.sure (true) true
 (.need (ile 0 (Prod.snd x)) true
 (.sure (ilt (Prod.snd x) 64) true
 (.need (nlt (Int.toNat (Prod.snd x)) 64) true
 (.leaf (Vam.Ex.normal, St.mk [(2, SV.av (AV.one (Lf.ptr 30700 0 0 0 0))), (4, SV.av (AV.one (Lf.ptr 30701 0 0 0 0))), (5, SV.av (AV.one (Lf.ptr 30702 0 0 0 0))), (7, SV.av (AV.one (Lf.v (Value.int IntKind.i64 (iadd IntKind.i64 (Prod.snd x) 1)))))] [(30700, Blk.cells 35 [Lf.dat (K.arr 8 (K.int IntKind.u32)) p7_6]), (30701, Blk.cells 35 [Lf.dat (K.arr 8 (K.int IntKind.u32)) [0, 0, 0, 0, 0, 0, 0, 0]]), (30702, Blk.cells 39 [Lf.dat (K.arr 64 (K.int IntKind.u32)) (List.set (Prod.fst x) (Int.toNat (Prod.snd x)) (iadd IntKind.u32 (f12_s1 x z622 z630) (ixor IntKind.u32 (ixor IntKind.u32 z638 z646) (shr IntKind.u32 (gd (K.int IntKind.u32) (Prod.fst x) (Int.toNat (isub IntKind.i64 (Prod.snd x) 2))) 10))))])]) (.inl ((List.set (Prod.fst x) (Int.toNat (Prod.snd x)) (iadd IntKind.u32 (f12_s1 x z622 z630) (ixor IntKind.u32 (ixor IntKind.u32 z638 z646) (shr IntKind.u32 (gd (K.int IntKind.u32) (Prod.fst x) (Int.toNat (isub IntKind.i64 (Prod.snd x) 2))) 10))), iadd IntKind.i64 (Prod.snd x) 1)))))))))))))))))))))))))
 (.leaf (Ex.exit 2, St.mk [(2, SV.av (AV.one (Lf.ptr 30700 0 0 0 0))), (4, SV.av (AV.one (Lf.ptr 30701 0 0 0 0))), (5, SV.av (AV.one (Lf.ptr 30702 0 0 0 0))), (7, SV.av (AV.one (Lf.v (Value.int IntKind.i64 (Prod.snd x)))))] [(30700, Blk.cells 35 [Lf.dat (K.arr 8 (K.int IntKind.u32)) p7_6]), (30701, Blk.cells 35 [Lf.dat (K.arr 8 (K.int IntKind.u32)) [0, 0, 0, 0, 0, 0, 0, 0]]), (30702, Blk.cells 39 [Lf.dat (K.arr 64 (K.int IntKind.u32)) (Prod.fst x)])]) (.inr (Prod.fst x))))
theorem f12_l7_v (p7_6 : List Int) (x : List Int × Int) : vc (execK P noG Tryd.f12.ntmps f12_hn [2, 4, 5, 7] (loopOf Tryd.f12 7) (f12_l7_D p7_6 x)) (f12_l7_t p7_6 x) = vcT (f12_l7_t p7_6 x) := by kernel_rfl
theorem f12_l7_o (d : Nat) (p7_6 : List Int) (x : List Int × Int) : obl (Snd P noG) (Lp P noG Tryd.f12.ntmps [] f12_hn d) (RelL Tryd.f12.ntmps noG [] (f12_l7_D p7_6) (f12_l7_E p7_6)) (f12_l7_t p7_6 x) := by
 unfold f12_l7_t
 exact (oAsk (fun h0 => (oNeed fun h1 => (oNeed fun h2 => (oNeed fun h3 => (oNeed fun h4 => (oNeed fun h5 => (oNeed fun h6 => (oNeed fun h7 => (oNeed fun h8 => (oNeed fun h9 => (oCall (fun _ e => f15_s e) fun z622 _ =>
 (oCall (fun _ e => f15_s e) fun z630 _ =>
 (oSure rfl (oNeed fun h10 => (oNeed fun h11 => (oNeed fun h12 => (oCall (fun _ e => f15_s e) fun z638 _ =>
 (oCall (fun _ e => f15_s e) fun z646 _ =>
 (oSure rfl (oNeed fun h13 => (oSure h0 (oNeed fun h14 => (oLeaf (relN (wk_tw [(30702, 30702), (30701, 30701), (30700, 30700)] [2, 4, 5, 7] [] (by kernel_rfl) (by kernel_rfl))))))))))))))))))))))))))
 (fun h0 => (oLeaf (relE rfl (wk_tw [(30702, 60702), (30701, 60701), (30700, 60700)] [2, 4, 5] [] (by kernel_rfl) (by kernel_rfl))))))
noncomputable def f12_l7_m (p7_6 : List Int) (x : List Int × Int) : Option (List Int) := lrun (fun x => mod (f12_l7_t p7_6 x)) x
theorem f12_l7_e (p7_6 : List Int) (x : List Int × Int) : mod (f12_l7_t p7_6 x) =
 (sel (ilt (Prod.snd x) 64)
 (sel (ile 0 (isub IntKind.i64 (Prod.snd x) 15))
 (sel (ilt (isub IntKind.i64 (Prod.snd x) 15) 64)
 (sel (nlt (Int.toNat (isub IntKind.i64 (Prod.snd x) 15)) 64)
 (sel (ile 0 (isub IntKind.i64 (Prod.snd x) 2))
 (sel (ilt (isub IntKind.i64 (Prod.snd x) 2) 64)
 (sel (nlt (Int.toNat (isub IntKind.i64 (Prod.snd x) 2)) 64)
 (sel (ile 0 (isub IntKind.i64 (Prod.snd x) 16))
 (sel (ilt (isub IntKind.i64 (Prod.snd x) 16) 64)
 (sel (nlt (Int.toNat (isub IntKind.i64 (Prod.snd x) 16)) 64)
 (Option.bind (f15_m (gd (K.int IntKind.u32) (Prod.fst x) (Int.toNat (isub IntKind.i64 (Prod.snd x) 15))) 7) fun z622 =>
 (Option.bind (f15_m (gd (K.int IntKind.u32) (Prod.fst x) (Int.toNat (isub IntKind.i64 (Prod.snd x) 15))) 18) fun z630 =>
 (sel (ile 0 (isub IntKind.i64 (Prod.snd x) 7))
 (sel (ilt (isub IntKind.i64 (Prod.snd x) 7) 64)
 (sel (nlt (Int.toNat (isub IntKind.i64 (Prod.snd x) 7)) 64)
 (Option.bind (f15_m (gd (K.int IntKind.u32) (Prod.fst x) (Int.toNat (isub IntKind.i64 (Prod.snd x) 2))) 17) fun z638 =>
 (Option.bind (f15_m (gd (K.int IntKind.u32) (Prod.fst x) (Int.toNat (isub IntKind.i64 (Prod.snd x) 2))) 19) fun z646 =>
 (sel (ile 0 (Prod.snd x))
 (sel (nlt (Int.toNat (Prod.snd x)) 64)
 (some ((.inl ((List.set (Prod.fst x) (Int.toNat (Prod.snd x)) (iadd IntKind.u32 (f12_s1 x z622 z630) (ixor IntKind.u32 (ixor IntKind.u32 z638 z646) (shr IntKind.u32 (gd (K.int IntKind.u32) (Prod.fst x) (Int.toNat (isub IntKind.i64 (Prod.snd x) 2))) 10))), iadd IntKind.i64 (Prod.snd x) 1))))) none) none))) none) none) none))) none) none) none) none) none) none) none) none) none)
 (some ((.inr (Prod.fst x))))) := by kernel_rfl
theorem f12_l7_s0 (d : Nat) {p7_6 : List Int} {σ : St} {x : List Int × Int} {z : List Int} (h : f12_l7_m p7_6 x = some z) (hw : Wk Tryd.f12.ntmps noG [] σ (f12_l7_D p7_6 x)) : Lp P noG Tryd.f12.ntmps [] f12_hn (d + 1) (loopOf Tryd.f12 7) σ (Ex.exit 2) (f12_l7_E0 p7_6 z) :=
 lp_tree (D := f12_l7_D p7_6) (E := f12_l7_E p7_6) (f12_l7_v p7_6) (f12_l7_o d p7_6) h hw
def f12_l14_D (p14_78 : List Int) (p14_79 : List Int) (x : List Int × Int) : St := St.mk [(2, SV.av (AV.one (Lf.ptr 31400 0 0 0 0))), (4, SV.av (AV.one (Lf.ptr 31401 0 0 0 0))), (5, SV.av (AV.one (Lf.ptr 31402 0 0 0 0))), (10, SV.av (AV.one (Lf.ptr 31403 0 0 0 0))), (11, SV.av (AV.one (Lf.v (Value.int IntKind.i64 (Prod.snd x)))))] [(31400, Blk.cells 35 [Lf.dat (K.arr 8 (K.int IntKind.u32)) p14_78]), (31401, Blk.cells 35 [Lf.dat (K.arr 8 (K.int IntKind.u32)) [0, 0, 0, 0, 0, 0, 0, 0]]), (31402, Blk.cells 39 [Lf.dat (K.arr 64 (K.int IntKind.u32)) p14_79]), (31403, Blk.cells 35 [Lf.dat (K.arr 8 (K.int IntKind.u32)) (Prod.fst x)])]
def f12_l14_E0 (p14_78 : List Int) (p14_79 : List Int) (y : List Int) : St := St.mk [(2, SV.av (AV.one (Lf.ptr 61400 0 0 0 0))), (4, SV.av (AV.one (Lf.ptr 61401 0 0 0 0))), (10, SV.av (AV.one (Lf.ptr 61402 0 0 0 0)))] [(61400, Blk.cells 35 [Lf.dat (K.arr 8 (K.int IntKind.u32)) p14_78]), (61401, Blk.cells 35 [Lf.dat (K.arr 8 (K.int IntKind.u32)) [0, 0, 0, 0, 0, 0, 0, 0]]), (61402, Blk.cells 35 [Lf.dat (K.arr 8 (K.int IntKind.u32)) y])]
def f12_l14_E (p14_78 : List Int) (p14_79 : List Int) : List Int → Ex × St
  | y => (Ex.exit 4, f12_l14_E0 p14_78 p14_79 y)
def f12_s2 (x : List Int × Int) (z654 : Int) (z662 : Int) (z670 : Int) : Int := iadd IntKind.u32 (iadd IntKind.u32 (gd (K.int IntKind.u32) (Prod.fst x) 7) (ixor IntKind.u32 (ixor IntKind.u32 z654 z662) z670)) (ixor IntKind.u32 (iand IntKind.u32 (gd (K.int IntKind.u32) (Prod.fst x) 4) (gd (K.int IntKind.u32) (Prod.fst x) 5)) (iand IntKind.u32 (ixor IntKind.u32 (gd (K.int IntKind.u32) (Prod.fst x) 4) 4294967295) (gd (K.int IntKind.u32) (Prod.fst x) 6)))
def f12_s3 (x : List Int × Int) : Int := ixor IntKind.u32 (ixor IntKind.u32 (iand IntKind.u32 (gd (K.int IntKind.u32) (Prod.fst x) 0) (gd (K.int IntKind.u32) (Prod.fst x) 1)) (iand IntKind.u32 (gd (K.int IntKind.u32) (Prod.fst x) 0) (gd (K.int IntKind.u32) (Prod.fst x) 2))) (iand IntKind.u32 (gd (K.int IntKind.u32) (Prod.fst x) 1) (gd (K.int IntKind.u32) (Prod.fst x) 2))
noncomputable def f12_l14_t (p14_78 : List Int) (p14_79 : List Int) (x : List Int × Int) : DT (Ex × St) ((List Int × Int) ⊕ (List Int)) :=
 (.ask (ilt (Prod.snd x) 64)
 (.sure (true) true
 (.sure (true) true
 (.sure (true) true
 (.sure (true) true
 (.sure (true) true
 (.sure (true) true
 (.sure (true) true
 (.sure (true) true
 (.sure (true) true
 (.call 15 [AV.one (Lf.v (Value.int IntKind.u32 (gd (K.int IntKind.u32) (Prod.fst x) 4))), AV.one (Lf.v (Value.int IntKind.u32 6))] [] (f15_m (gd (K.int IntKind.u32) (Prod.fst x) 4) 6) (fun z654 => SV.av (AV.one (Lf.v (Value.int IntKind.u32 z654)))) (fun z654 => []) fun z654 =>
 (.call 15 [AV.one (Lf.v (Value.int IntKind.u32 (gd (K.int IntKind.u32) (Prod.fst x) 4))), AV.one (Lf.v (Value.int IntKind.u32 11))] [] (f15_m (gd (K.int IntKind.u32) (Prod.fst x) 4) 11) (fun z662 => SV.av (AV.one (Lf.v (Value.int IntKind.u32 z662)))) (fun z662 => []) fun z662 =>
 (.call 15 [AV.one (Lf.v (Value.int IntKind.u32 (gd (K.int IntKind.u32) (Prod.fst x) 4))), AV.one (Lf.v (Value.int IntKind.u32 25))] [] (f15_m (gd (K.int IntKind.u32) (Prod.fst x) 4) 25) (fun z670 => SV.av (AV.one (Lf.v (Value.int IntKind.u32 z670)))) (fun z670 => []) fun z670 =>
 (.sure (true) true
 (.sure (true) true
 (.sure (true) true
 (.sure (true) true
 (.sure (true) true
 (.sure (true) true
 (.call 16 [AV.one (Lf.v (Value.int IntKind.i64 (Prod.snd x)))] [] (f16_m (Prod.snd x)) (fun z675 => SV.av (AV.one (Lf.v (Value.int IntKind.u32 z675)))) (fun z675 => []) fun z675 =>
 (.need (ile 0 (Prod.snd x)) true
 (.sure (ilt (Prod.snd x) 64) true
 (.need (nlt (Int.toNat (Prod.snd x)) 64) true
 (.call 15 [AV.one (Lf.v (Value.int IntKind.u32 (gd (K.int IntKind.u32) (Prod.fst x) 0))), AV.one (Lf.v (Value.int IntKind.u32 2))] [] (f15_m (gd (K.int IntKind.u32) (Prod.fst x) 0) 2) (fun z683 => SV.av (AV.one (Lf.v (Value.int IntKind.u32 z683)))) (fun z683 => []) fun z683 =>
 (.call 15 [AV.one (Lf.v (Value.int IntKind.u32 (gd (K.int IntKind.u32) (Prod.fst x) 0))), AV.one (Lf.v (Value.int IntKind.u32 13))] [] (f15_m (gd (K.int IntKind.u32) (Prod.fst x) 0) 13) (fun z691 => SV.av (AV.one (Lf.v (Value.int IntKind.u32 z691)))) (fun z691 => []) fun z691 =>
 (.call 15 [AV.one (Lf.v (Value.int IntKind.u32 (gd (K.int IntKind.u32) (Prod.fst x) 0))), AV.one (Lf.v (Value.int IntKind.u32 22))] [] (f15_m (gd (K.int IntKind.u32) (Prod.fst x) 0) 22) (fun z699 => SV.av (AV.one (Lf.v (Value.int IntKind.u32 z699)))) (fun z699 => []) fun z699 =>
 (.sure (true) true
 (.sure (true) true
 (.sure (true) true
 (.sure (true) true
 (.sure (true) true
 (.sure (true) true
 (.sure (true) true
 (.sure (true) true
 (.sure (true) true
 (.sure (true) true
 (.sure (true) true
 (.sure (true) true
 (.sure (true) true
 (.sure (true) true
 (.sure (true) true
 (.sure (true) true
 (.sure (true) true
 (.sure (true) true
 (.sure (true) true
 (.sure (true) true
 (.sure (true) true
 (.sure (true) true
 (.sure (true) true
 (.sure (true) true
 (.sure (true) true
 (.sure (true) true
 (.sure (true) true
 (.sure (true) true
 (.sure (true) true
 (.sure (true) true
 (.sure (true) true
 (.sure (true) true
 (.sure (true) true
 (.leaf (Vam.Ex.normal, St.mk [(2, SV.av (AV.one (Lf.ptr 31400 0 0 0 0))), (4, SV.av (AV.one (Lf.ptr 31401 0 0 0 0))), (5, SV.av (AV.one (Lf.ptr 31402 0 0 0 0))), (10, SV.av (AV.one (Lf.ptr 31403 0 0 0 0))), (11, SV.av (AV.one (Lf.v (Value.int IntKind.i64 (iadd IntKind.i64 (Prod.snd x) 1)))))] [(31400, Blk.cells 35 [Lf.dat (K.arr 8 (K.int IntKind.u32)) p14_78]), (31401, Blk.cells 35 [Lf.dat (K.arr 8 (K.int IntKind.u32)) [0, 0, 0, 0, 0, 0, 0, 0]]), (31402, Blk.cells 39 [Lf.dat (K.arr 64 (K.int IntKind.u32)) p14_79]), (31403, Blk.cells 35 [Lf.dat (K.arr 8 (K.int IntKind.u32)) [iadd IntKind.u32 (iadd IntKind.u32 (iadd IntKind.u32 (f12_s2 x z654 z662 z670) z675) (gd (K.int IntKind.u32) p14_79 (Int.toNat (Prod.snd x)))) (iadd IntKind.u32 (ixor IntKind.u32 (ixor IntKind.u32 z683 z691) z699) (f12_s3 x)), gd (K.int IntKind.u32) (Prod.fst x) 0, gd (K.int IntKind.u32) (Prod.fst x) 1, gd (K.int IntKind.u32) (Prod.fst x) 2, iadd IntKind.u32 (gd (K.int IntKind.u32) (Prod.fst x) 3) (iadd IntKind.u32 (iadd IntKind.u32 (f12_s2 x z654 z662 z670) z675) (gd (K.int IntKind.u32) p14_79 (Int.toNat (Prod.snd x)))), gd (K.int IntKind.u32) (Prod.fst x) 4, gd (K.int IntKind.u32) (Prod.fst x) 5, gd (K.int IntKind.u32) (Prod.fst x) 6]])]) (.inl (([iadd IntKind.u32 (iadd IntKind.u32 (iadd IntKind.u32 (f12_s2 x z654 z662 z670) z675) (gd (K.int IntKind.u32) p14_79 (Int.toNat (Prod.snd x)))) (iadd IntKind.u32 (ixor IntKind.u32 (ixor IntKind.u32 z683 z691) z699) (f12_s3 x)), gd (K.int IntKind.u32) (Prod.fst x) 0, gd (K.int IntKind.u32) (Prod.fst x) 1, gd (K.int IntKind.u32) (Prod.fst x) 2, iadd IntKind.u32 (gd (K.int IntKind.u32) (Prod.fst x) 3) (iadd IntKind.u32 (iadd IntKind.u32 (f12_s2 x z654 z662 z670) z675) (gd (K.int IntKind.u32) p14_79 (Int.toNat (Prod.snd x)))), gd (K.int IntKind.u32) (Prod.fst x) 4, gd (K.int IntKind.u32) (Prod.fst x) 5, gd (K.int IntKind.u32) (Prod.fst x) 6], iadd IntKind.i64 (Prod.snd x) 1))))))))))))))))))))))))))))))))))))))))))))))))))))))))))))))
 (.leaf (Ex.exit 4, St.mk [(2, SV.av (AV.one (Lf.ptr 31400 0 0 0 0))), (4, SV.av (AV.one (Lf.ptr 31401 0 0 0 0))), (5, SV.av (AV.one (Lf.ptr 31402 0 0 0 0))), (10, SV.av (AV.one (Lf.ptr 31403 0 0 0 0))), (11, SV.av (AV.one (Lf.v (Value.int IntKind.i64 (Prod.snd x)))))] [(31400, Blk.cells 35 [Lf.dat (K.arr 8 (K.int IntKind.u32)) p14_78]), (31401, Blk.cells 35 [Lf.dat (K.arr 8 (K.int IntKind.u32)) [0, 0, 0, 0, 0, 0, 0, 0]]), (31402, Blk.cells 39 [Lf.dat (K.arr 64 (K.int IntKind.u32)) p14_79]), (31403, Blk.cells 35 [Lf.dat (K.arr 8 (K.int IntKind.u32)) (Prod.fst x)])]) (.inr (Prod.fst x))))
theorem f12_l14_v (p14_78 : List Int) (p14_79 : List Int) (x : List Int × Int) : vc (execK P noG Tryd.f12.ntmps f12_hn [2, 4, 5, 10, 11] (loopOf Tryd.f12 14) (f12_l14_D p14_78 p14_79 x)) (f12_l14_t p14_78 p14_79 x) = vcT (f12_l14_t p14_78 p14_79 x) := by kernel_rfl
theorem f12_l14_o (d : Nat) (p14_78 : List Int) (p14_79 : List Int) (x : List Int × Int) : obl (Snd P noG) (Lp P noG Tryd.f12.ntmps [] f12_hn d) (RelL Tryd.f12.ntmps noG [] (f12_l14_D p14_78 p14_79) (f12_l14_E p14_78 p14_79)) (f12_l14_t p14_78 p14_79 x) := by
 unfold f12_l14_t
 exact (oAsk (fun h0 => (oSure rfl (oSure rfl (oSure rfl (oSure rfl (oSure rfl (oSure rfl (oSure rfl (oSure rfl (oSure rfl (oCall (fun _ e => f15_s e) fun z654 _ =>
 (oCall (fun _ e => f15_s e) fun z662 _ =>
 (oCall (fun _ e => f15_s e) fun z670 _ =>
 (oSure rfl (oSure rfl (oSure rfl (oSure rfl (oSure rfl (oSure rfl (oCall (fun _ e => f16_s e) fun z675 _ =>
 (oNeed fun h1 => (oSure h0 (oNeed fun h2 => (oCall (fun _ e => f15_s e) fun z683 _ =>
 (oCall (fun _ e => f15_s e) fun z691 _ =>
 (oCall (fun _ e => f15_s e) fun z699 _ =>
 (oSure rfl (oSure rfl (oSure rfl (oSure rfl (oSure rfl (oSure rfl (oSure rfl (oSure rfl (oSure rfl (oSure rfl (oSure rfl (oSure rfl (oSure rfl (oSure rfl (oSure rfl (oSure rfl (oSure rfl (oSure rfl (oSure rfl (oSure rfl (oSure rfl (oSure rfl (oSure rfl (oSure rfl (oSure rfl (oSure rfl (oSure rfl (oSure rfl (oSure rfl (oSure rfl (oSure rfl (oSure rfl (oSure rfl (oLeaf (relN (wk_tw [(31403, 31403), (31402, 31402), (31401, 31401), (31400, 31400)] [2, 4, 5, 10, 11] [] (by kernel_rfl) (by kernel_rfl)))))))))))))))))))))))))))))))))))))))))))))))))))))))))))))))
 (fun h0 => (oLeaf (relE rfl (wk_tw [(31403, 61402), (31401, 61401), (31400, 61400)] [2, 4, 10] [] (by kernel_rfl) (by kernel_rfl))))))
noncomputable def f12_l14_m (p14_78 : List Int) (p14_79 : List Int) (x : List Int × Int) : Option (List Int) := lrun (fun x => mod (f12_l14_t p14_78 p14_79 x)) x
theorem f12_l14_e (p14_78 : List Int) (p14_79 : List Int) (x : List Int × Int) : mod (f12_l14_t p14_78 p14_79 x) =
 (sel (ilt (Prod.snd x) 64)
 (Option.bind (f15_m (gd (K.int IntKind.u32) (Prod.fst x) 4) 6) fun z654 =>
 (Option.bind (f15_m (gd (K.int IntKind.u32) (Prod.fst x) 4) 11) fun z662 =>
 (Option.bind (f15_m (gd (K.int IntKind.u32) (Prod.fst x) 4) 25) fun z670 =>
 (Option.bind (f16_m (Prod.snd x)) fun z675 =>
 (sel (ile 0 (Prod.snd x))
 (sel (nlt (Int.toNat (Prod.snd x)) 64)
 (Option.bind (f15_m (gd (K.int IntKind.u32) (Prod.fst x) 0) 2) fun z683 =>
 (Option.bind (f15_m (gd (K.int IntKind.u32) (Prod.fst x) 0) 13) fun z691 =>
 (Option.bind (f15_m (gd (K.int IntKind.u32) (Prod.fst x) 0) 22) fun z699 =>
 (some ((.inl (([iadd IntKind.u32 (iadd IntKind.u32 (iadd IntKind.u32 (f12_s2 x z654 z662 z670) z675) (gd (K.int IntKind.u32) p14_79 (Int.toNat (Prod.snd x)))) (iadd IntKind.u32 (ixor IntKind.u32 (ixor IntKind.u32 z683 z691) z699) (f12_s3 x)), gd (K.int IntKind.u32) (Prod.fst x) 0, gd (K.int IntKind.u32) (Prod.fst x) 1, gd (K.int IntKind.u32) (Prod.fst x) 2, iadd IntKind.u32 (gd (K.int IntKind.u32) (Prod.fst x) 3) (iadd IntKind.u32 (iadd IntKind.u32 (f12_s2 x z654 z662 z670) z675) (gd (K.int IntKind.u32) p14_79 (Int.toNat (Prod.snd x)))), gd (K.int IntKind.u32) (Prod.fst x) 4, gd (K.int IntKind.u32) (Prod.fst x) 5, gd (K.int IntKind.u32) (Prod.fst x) 6], iadd IntKind.i64 (Prod.snd x) 1)))))))) none) none)))))
 (some ((.inr (Prod.fst x))))) := by kernel_rfl
theorem f12_l14_s0 (d : Nat) {p14_78 : List Int} {p14_79 : List Int} {σ : St} {x : List Int × Int} {z : List Int} (h : f12_l14_m p14_78 p14_79 x = some z) (hw : Wk Tryd.f12.ntmps noG [] σ (f12_l14_D p14_78 p14_79 x)) : Lp P noG Tryd.f12.ntmps [] f12_hn (d + 1) (loopOf Tryd.f12 14) σ (Ex.exit 4) (f12_l14_E0 p14_78 p14_79 z) :=
 lp_tree (D := f12_l14_D p14_78 p14_79) (E := f12_l14_E p14_78 p14_79) (f12_l14_v p14_78 p14_79) (f12_l14_o d p14_78 p14_79) h hw
def f12_l22_D (p22_259 : List Int) (x : List Int × Int) : St := St.mk [(2, SV.av (AV.one (Lf.ptr 32200 0 0 0 0))), (4, SV.av (AV.one (Lf.ptr 32201 0 0 0 0))), (10, SV.av (AV.one (Lf.ptr 32202 0 0 0 0))), (16, SV.av (AV.one (Lf.v (Value.int IntKind.i64 (Prod.snd x)))))] [(32200, Blk.cells 35 [Lf.dat (K.arr 8 (K.int IntKind.u32)) (Prod.fst x)]), (32201, Blk.cells 35 [Lf.dat (K.arr 8 (K.int IntKind.u32)) [0, 0, 0, 0, 0, 0, 0, 0]]), (32202, Blk.cells 35 [Lf.dat (K.arr 8 (K.int IntKind.u32)) p22_259])]
def f12_l22_E0 (p22_259 : List Int) (y : List Int) : St := St.mk [(2, SV.av (AV.one (Lf.ptr 62200 0 0 0 0))), (4, SV.av (AV.one (Lf.ptr 62201 0 0 0 0)))] [(62200, Blk.cells 35 [Lf.dat (K.arr 8 (K.int IntKind.u32)) y]), (62201, Blk.cells 35 [Lf.dat (K.arr 8 (K.int IntKind.u32)) [0, 0, 0, 0, 0, 0, 0, 0]])]
def f12_l22_E (p22_259 : List Int) : List Int → Ex × St
  | y => (Ex.exit 6, f12_l22_E0 p22_259 y)
noncomputable def f12_l22_t (p22_259 : List Int) (x : List Int × Int) : DT (Ex × St) ((List Int × Int) ⊕ (List Int)) :=
 (.ask (ilt (Prod.snd x) 8)
 (.need (ile 0 (Prod.snd x)) true
 (.sure (ilt (Prod.snd x) 8) true
 (.need (nlt (Int.toNat (Prod.snd x)) 8) true
 (.sure (ile 0 (Prod.snd x)) true
 (.sure (ilt (Prod.snd x) 8) true
 (.sure (nlt (Int.toNat (Prod.snd x)) 8) true
 (.sure (ile 0 (Prod.snd x)) true
 (.sure (ilt (Prod.snd x) 8) true
 (.sure (nlt (Int.toNat (Prod.snd x)) 8) true
 (.leaf (Vam.Ex.normal, St.mk [(2, SV.av (AV.one (Lf.ptr 32200 0 0 0 0))), (4, SV.av (AV.one (Lf.ptr 32201 0 0 0 0))), (10, SV.av (AV.one (Lf.ptr 32202 0 0 0 0))), (16, SV.av (AV.one (Lf.v (Value.int IntKind.i64 (iadd IntKind.i64 (Prod.snd x) 1)))))] [(32200, Blk.cells 35 [Lf.dat (K.arr 8 (K.int IntKind.u32)) (List.set (Prod.fst x) (Int.toNat (Prod.snd x)) (iadd IntKind.u32 (gd (K.int IntKind.u32) (Prod.fst x) (Int.toNat (Prod.snd x))) (gd (K.int IntKind.u32) p22_259 (Int.toNat (Prod.snd x)))))]), (32201, Blk.cells 35 [Lf.dat (K.arr 8 (K.int IntKind.u32)) [0, 0, 0, 0, 0, 0, 0, 0]]), (32202, Blk.cells 35 [Lf.dat (K.arr 8 (K.int IntKind.u32)) p22_259])]) (.inl ((List.set (Prod.fst x) (Int.toNat (Prod.snd x)) (iadd IntKind.u32 (gd (K.int IntKind.u32) (Prod.fst x) (Int.toNat (Prod.snd x))) (gd (K.int IntKind.u32) p22_259 (Int.toNat (Prod.snd x)))), iadd IntKind.i64 (Prod.snd x) 1)))))))))))))
 (.leaf (Ex.exit 6, St.mk [(2, SV.av (AV.one (Lf.ptr 32200 0 0 0 0))), (4, SV.av (AV.one (Lf.ptr 32201 0 0 0 0))), (10, SV.av (AV.one (Lf.ptr 32202 0 0 0 0))), (16, SV.av (AV.one (Lf.v (Value.int IntKind.i64 (Prod.snd x)))))] [(32200, Blk.cells 35 [Lf.dat (K.arr 8 (K.int IntKind.u32)) (Prod.fst x)]), (32201, Blk.cells 35 [Lf.dat (K.arr 8 (K.int IntKind.u32)) [0, 0, 0, 0, 0, 0, 0, 0]]), (32202, Blk.cells 35 [Lf.dat (K.arr 8 (K.int IntKind.u32)) p22_259])]) (.inr (Prod.fst x))))
theorem f12_l22_v (p22_259 : List Int) (x : List Int × Int) : vc (execK P noG Tryd.f12.ntmps f12_hn [2, 4, 10, 16] (loopOf Tryd.f12 22) (f12_l22_D p22_259 x)) (f12_l22_t p22_259 x) = vcT (f12_l22_t p22_259 x) := by kernel_rfl
theorem f12_l22_o (d : Nat) (p22_259 : List Int) (x : List Int × Int) : obl (Snd P noG) (Lp P noG Tryd.f12.ntmps [] f12_hn d) (RelL Tryd.f12.ntmps noG [] (f12_l22_D p22_259) (f12_l22_E p22_259)) (f12_l22_t p22_259 x) := by
 unfold f12_l22_t
 exact (oAsk (fun h0 => (oNeed fun h1 => (oSure h0 (oNeed fun h2 => (oSure h1 (oSure h0 (oSure h2 (oSure h1 (oSure h0 (oSure h2 (oLeaf (relN (wk_tw [(32202, 32202), (32201, 32201), (32200, 32200)] [2, 4, 10, 16] [] (by kernel_rfl) (by kernel_rfl))))))))))))))
 (fun h0 => (oLeaf (relE rfl (wk_tw [(32201, 62201), (32200, 62200)] [2, 4] [] (by kernel_rfl) (by kernel_rfl))))))
noncomputable def f12_l22_m (p22_259 : List Int) (x : List Int × Int) : Option (List Int) := lrun (fun x => mod (f12_l22_t p22_259 x)) x
theorem f12_l22_e (p22_259 : List Int) (x : List Int × Int) : mod (f12_l22_t p22_259 x) =
 (sel (ilt (Prod.snd x) 8)
 (sel (ile 0 (Prod.snd x))
 (sel (nlt (Int.toNat (Prod.snd x)) 8)
 (some ((.inl ((List.set (Prod.fst x) (Int.toNat (Prod.snd x)) (iadd IntKind.u32 (gd (K.int IntKind.u32) (Prod.fst x) (Int.toNat (Prod.snd x))) (gd (K.int IntKind.u32) p22_259 (Int.toNat (Prod.snd x)))), iadd IntKind.i64 (Prod.snd x) 1))))) none) none)
 (some ((.inr (Prod.fst x))))) := by kernel_rfl
theorem f12_l22_s0 (d : Nat) {p22_259 : List Int} {σ : St} {x : List Int × Int} {z : List Int} (h : f12_l22_m p22_259 x = some z) (hw : Wk Tryd.f12.ntmps noG [] σ (f12_l22_D p22_259 x)) : Lp P noG Tryd.f12.ntmps [] f12_hn (d + 1) (loopOf Tryd.f12 22) σ (Ex.exit 6) (f12_l22_E0 p22_259 z) :=
 lp_tree (D := f12_l22_D p22_259) (E := f12_l22_E p22_259) (f12_l22_v p22_259) (f12_l22_o d p22_259) h hw
def f12_R (a0 : List Int) (a1 : ByteArray) : List Int → SV × Hp
  | z => (SV.av (AV.one (Lf.dat (K.arr 8 (K.int IntKind.u32)) z)), [])
noncomputable def f12_t (a0 : List Int) (a1 : ByteArray) : DT (SV × Hp) (List Int) :=
 (.loop (loopOf Tryd.f12 3) (St.mk [(1, SV.av (AV.one (Lf.v (Value.string a1)))), (2, SV.av (AV.one (Lf.ptr 2 0 0 0 0))), (4, SV.av (AV.one (Lf.ptr 4 0 0 0 0))), (5, SV.av (AV.one (Lf.ptr 5 0 0 0 0))), (6, SV.av (AV.one (Lf.v (Value.int IntKind.i64 0))))] [(2, Blk.cells 35 [Lf.dat (K.arr 8 (K.int IntKind.u32)) a0]), (4, Blk.cells 35 [Lf.dat (K.arr 8 (K.int IntKind.u32)) [0, 0, 0, 0, 0, 0, 0, 0]]), (5, Blk.cells 39 [Lf.dat (K.arr 64 (K.int IntKind.u32)) (List.replicate 64 (0 : Int))])]) (f12_l3_m a1 a0 (List.replicate 64 0, 0)) (Ex.exit 0) (f12_l3_E0 a1 a0) fun z700 =>
 (.loop (loopOf Tryd.f12 7) (St.mk [(2, SV.av (AV.one (Lf.ptr 60300 0 0 0 0))), (4, SV.av (AV.one (Lf.ptr 60301 0 0 0 0))), (5, SV.av (AV.one (Lf.ptr 60302 0 0 0 0))), (7, SV.av (AV.one (Lf.v (Value.int IntKind.i64 16))))] [(60300, Blk.cells 35 [Lf.dat (K.arr 8 (K.int IntKind.u32)) a0]), (60301, Blk.cells 35 [Lf.dat (K.arr 8 (K.int IntKind.u32)) [0, 0, 0, 0, 0, 0, 0, 0]]), (60302, Blk.cells 39 [Lf.dat (K.arr 64 (K.int IntKind.u32)) z700])]) (f12_l7_m a0 (z700, 16)) (Ex.exit 2) (f12_l7_E0 a0) fun z701 =>
 (.loop (loopOf Tryd.f12 14) (St.mk [(2, SV.av (AV.one (Lf.ptr 60700 0 0 0 0))), (4, SV.av (AV.one (Lf.ptr 60701 0 0 0 0))), (5, SV.av (AV.one (Lf.ptr 60702 0 0 0 0))), (10, SV.av (AV.one (Lf.ptr 10 0 0 0 0))), (11, SV.av (AV.one (Lf.v (Value.int IntKind.i64 0))))] [(10, Blk.cells 35 [Lf.dat (K.arr 8 (K.int IntKind.u32)) a0]), (60700, Blk.cells 35 [Lf.dat (K.arr 8 (K.int IntKind.u32)) a0]), (60701, Blk.cells 35 [Lf.dat (K.arr 8 (K.int IntKind.u32)) [0, 0, 0, 0, 0, 0, 0, 0]]), (60702, Blk.cells 39 [Lf.dat (K.arr 64 (K.int IntKind.u32)) z701])]) (f12_l14_m a0 z701 (a0, 0)) (Ex.exit 4) (f12_l14_E0 a0 z701) fun z702 =>
 (.loop (loopOf Tryd.f12 22) (St.mk [(2, SV.av (AV.one (Lf.ptr 61400 0 0 0 0))), (4, SV.av (AV.one (Lf.ptr 61401 0 0 0 0))), (10, SV.av (AV.one (Lf.ptr 61402 0 0 0 0))), (16, SV.av (AV.one (Lf.v (Value.int IntKind.i64 0))))] [(61400, Blk.cells 35 [Lf.dat (K.arr 8 (K.int IntKind.u32)) a0]), (61401, Blk.cells 35 [Lf.dat (K.arr 8 (K.int IntKind.u32)) [0, 0, 0, 0, 0, 0, 0, 0]]), (61402, Blk.cells 35 [Lf.dat (K.arr 8 (K.int IntKind.u32)) z702])]) (f12_l22_m z702 (a0, 0)) (Ex.exit 6) (f12_l22_E0 z702) fun z703 =>
 (.leaf (SV.av (AV.one (Lf.dat (K.arr 8 (K.int IntKind.u32)) z703)), [(62200, Blk.cells 35 [Lf.dat (K.arr 8 (K.int IntKind.u32)) z703]), (62201, Blk.cells 35 [Lf.dat (K.arr 8 (K.int IntKind.u32)) z703])]) (z703))))))
theorem f12_v (a0 : List Int) (a1 : ByteArray) : vc (runR P noG Tryd.f12 f12_hn [AV.one (Lf.dat (K.arr 8 (K.int IntKind.u32)) a0), AV.one (Lf.v (Value.string a1))] []) (f12_t a0 a1) = vcT (f12_t a0 a1) := by kernel_rfl
theorem f12_o (a0 : List Int) (a1 : ByteArray) : obl (Snd P noG) (Lp P noG Tryd.f12.ntmps [] f12_hn 1) (RelF [] (f12_R a0 a1)) (f12_t a0 a1) := by
 unfold f12_t
 exact (oLoop (fun _ e => f12_l3_s0 0 e (wk_tw [(5, 30302), (4, 30301), (2, 30300)] [1, 2, 4, 5, 6] [] (by kernel_rfl) (by kernel_rfl))) fun z700 _ =>
 (oLoop (fun _ e => f12_l7_s0 0 e (wk_tw [(60302, 30702), (60301, 30701), (60300, 30700)] [2, 4, 5, 7] [] (by kernel_rfl) (by kernel_rfl))) fun z701 _ =>
 (oLoop (fun _ e => f12_l14_s0 0 e (wk_tw [(10, 31403), (60702, 31402), (60701, 31401), (60700, 31400)] [2, 4, 5, 10, 11] [] (by kernel_rfl) (by kernel_rfl))) fun z702 _ =>
 (oLoop (fun _ e => f12_l22_s0 0 e (wk_tw [(61402, 32202), (61401, 32201), (61400, 32200)] [2, 4, 10, 16] [] (by kernel_rfl) (by kernel_rfl))) fun z703 _ =>
 (oLeaf (wks_tw [] [] (by kernel_rfl) (by kernel_rfl)))))))
noncomputable def f12_m (a0 : List Int) (a1 : ByteArray) : Option (List Int) := mod (f12_t a0 a1)
theorem f12_e (a0 : List Int) (a1 : ByteArray) : f12_m a0 a1 =
 (Option.bind (f12_l3_m a1 a0 (List.replicate 64 0, 0)) fun z700 =>
 (Option.bind (f12_l7_m a0 (z700, 16)) fun z701 =>
 (Option.bind (f12_l14_m a0 z701 (a0, 0)) fun z702 =>
 (Option.bind (f12_l22_m z702 (a0, 0)) fun z703 =>
 (some ((z703))))))) := by kernel_rfl
theorem f12_s {a0 : List Int} {a1 : ByteArray} {z : List Int} (h : f12_m a0 a1 = some z) : Snd P noG 12 [AV.one (Lf.dat (K.arr 8 (K.int IntKind.u32)) a0), AV.one (Lf.v (Value.string a1))] [] (SV.av (AV.one (Lf.dat (K.arr 8 (K.int IntKind.u32)) z))) [] :=
 snd_tree (hn := f12_hn) 1 (f12_R a0 a1) mixed (by kernel_rfl) (by kernel_rfl) (by kernel_rfl) (by kernel_rfl) (by kernel_rfl) (f12_v a0 a1) (f12_o a0 a1) h
def f9_hn : Hn := Hn.mk [] [] [] [] [(4, [0, 2, 3]), (7, [0, 2, 3, 4]), (12, [0, 2, 5, 6]), (17, [2, 5, 7, 8])]
def f9_l3_D (p3_1 : Int) (x : ByteArray) : St := St.mk [(0, SV.av (AV.one (Lf.v (Value.string x)))), (2, SV.av (AV.one (Lf.ptr 30300 0 0 0 0))), (3, SV.av (AV.one (Lf.v (Value.int IntKind.u64 p3_1))))] [(30300, Blk.cells 25 [Lf.dat (K.arr 32 (K.int IntKind.u8)) [0, 0, 0, 0, 0, 0, 0, 0, 0, 0, 0, 0, 0, 0, 0, 0, 0, 0, 0, 0, 0, 0, 0, 0, 0, 0, 0, 0, 0, 0, 0, 0]])]
def f9_l3_E0 (p3_1 : Int) (y : ByteArray) : St := St.mk [(0, SV.av (AV.one (Lf.v (Value.string y)))), (2, SV.av (AV.one (Lf.ptr 60300 0 0 0 0))), (3, SV.av (AV.one (Lf.v (Value.int IntKind.u64 p3_1))))] [(60300, Blk.cells 25 [Lf.dat (K.arr 32 (K.int IntKind.u8)) [0, 0, 0, 0, 0, 0, 0, 0, 0, 0, 0, 0, 0, 0, 0, 0, 0, 0, 0, 0, 0, 0, 0, 0, 0, 0, 0, 0, 0, 0, 0, 0]])]
def f9_l3_E (p3_1 : Int) : ByteArray → Ex × St
  | y => (Ex.exit 0, f9_l3_E0 p3_1 y)
noncomputable def f9_l3_t (p3_1 : Int) (x : ByteArray) : DT (Ex × St) ((ByteArray) ⊕ (ByteArray)) :=
 (.sure (true) true
 (.ask (bno (ieq (irem (ssz x) 64) 56))
 (.need (nle (ByteArray.size x + 1) 9223372036854775807) true
 (.leaf (Vam.Ex.normal, St.mk [(0, SV.av (AV.one (Lf.v (Value.string (sapp x (ByteArray.mk #[0])))))), (2, SV.av (AV.one (Lf.ptr 30300 0 0 0 0))), (3, SV.av (AV.one (Lf.v (Value.int IntKind.u64 p3_1))))] [(30300, Blk.cells 25 [Lf.dat (K.arr 32 (K.int IntKind.u8)) [0, 0, 0, 0, 0, 0, 0, 0, 0, 0, 0, 0, 0, 0, 0, 0, 0, 0, 0, 0, 0, 0, 0, 0, 0, 0, 0, 0, 0, 0, 0, 0]])]) (.inl (sapp x (ByteArray.mk #[0])))))
 (.leaf (Ex.exit 0, St.mk [(0, SV.av (AV.one (Lf.v (Value.string x)))), (2, SV.av (AV.one (Lf.ptr 30300 0 0 0 0))), (3, SV.av (AV.one (Lf.v (Value.int IntKind.u64 p3_1))))] [(30300, Blk.cells 25 [Lf.dat (K.arr 32 (K.int IntKind.u8)) [0, 0, 0, 0, 0, 0, 0, 0, 0, 0, 0, 0, 0, 0, 0, 0, 0, 0, 0, 0, 0, 0, 0, 0, 0, 0, 0, 0, 0, 0, 0, 0]])]) (.inr (x)))))
theorem f9_l3_v (p3_1 : Int) (x : ByteArray) : vc (execK P noG Tryd.f9.ntmps f9_hn [0, 2, 3] (loopOf Tryd.f9 3) (f9_l3_D p3_1 x)) (f9_l3_t p3_1 x) = vcT (f9_l3_t p3_1 x) := by kernel_rfl
theorem f9_l3_o (d : Nat) (p3_1 : Int) (x : ByteArray) : obl (Snd P noG) (Lp P noG Tryd.f9.ntmps [] f9_hn d) (RelL Tryd.f9.ntmps noG [] (f9_l3_D p3_1) (f9_l3_E p3_1)) (f9_l3_t p3_1 x) := by
 unfold f9_l3_t
 exact (oSure rfl (oAsk (fun h0 => (oNeed fun h1 => (oLeaf (relN (wk_tw [(30300, 30300)] [0, 2, 3] [] (by kernel_rfl) (by kernel_rfl))))))
 (fun h0 => (oLeaf (relE rfl (wk_tw [(30300, 60300)] [0, 2, 3] [] (by kernel_rfl) (by kernel_rfl)))))))
noncomputable def f9_l3_m (p3_1 : Int) (x : ByteArray) : Option (ByteArray) := lrun (fun x => mod (f9_l3_t p3_1 x)) x
theorem f9_l3_e (p3_1 : Int) (x : ByteArray) : mod (f9_l3_t p3_1 x) =
 (sel (bno (ieq (irem (ssz x) 64) 56))
 (sel (nle (ByteArray.size x + 1) 9223372036854775807)
 (some ((.inl (sapp x (ByteArray.mk #[0]))))) none)
 (some ((.inr (x))))) := by kernel_rfl
theorem f9_l3_s0 (d : Nat) {p3_1 : Int} {σ : St} {x : ByteArray} {z : ByteArray} (h : f9_l3_m p3_1 x = some z) (hw : Wk Tryd.f9.ntmps noG [] σ (f9_l3_D p3_1 x)) : Lp P noG Tryd.f9.ntmps [] f9_hn (d + 1) (loopOf Tryd.f9 3) σ (Ex.exit 0) (f9_l3_E0 p3_1 z) :=
 lp_tree (D := f9_l3_D p3_1) (E := f9_l3_E p3_1) (f9_l3_v p3_1) (f9_l3_o d p3_1) h hw
def f9_l6_D (p6_5 : Int) (x : ByteArray × Int) : St := St.mk [(0, SV.av (AV.one (Lf.v (Value.string (Prod.fst x))))), (2, SV.av (AV.one (Lf.ptr 30600 0 0 0 0))), (3, SV.av (AV.one (Lf.v (Value.int IntKind.u64 p6_5)))), (4, SV.av (AV.one (Lf.v (Value.int IntKind.i64 (Prod.snd x)))))] [(30600, Blk.cells 25 [Lf.dat (K.arr 32 (K.int IntKind.u8)) [0, 0, 0, 0, 0, 0, 0, 0, 0, 0, 0, 0, 0, 0, 0, 0, 0, 0, 0, 0, 0, 0, 0, 0, 0, 0, 0, 0, 0, 0, 0, 0]])]
def f9_l6_E0 (p6_5 : Int) (y : ByteArray) : St := St.mk [(0, SV.av (AV.one (Lf.v (Value.string y)))), (2, SV.av (AV.one (Lf.ptr 60600 0 0 0 0)))] [(60600, Blk.cells 25 [Lf.dat (K.arr 32 (K.int IntKind.u8)) [0, 0, 0, 0, 0, 0, 0, 0, 0, 0, 0, 0, 0, 0, 0, 0, 0, 0, 0, 0, 0, 0, 0, 0, 0, 0, 0, 0, 0, 0, 0, 0]])]
def f9_l6_E (p6_5 : Int) : ByteArray → Ex × St
  | y => (Ex.exit 2, f9_l6_E0 p6_5 y)
noncomputable def f9_l6_t (p6_5 : Int) (x : ByteArray × Int) : DT (Ex × St) ((ByteArray × Int) ⊕ (ByteArray)) :=
 (.ask (ile 0 (Prod.snd x))
 (.need (ile 0 (imul IntKind.i64 8 (Prod.snd x))) true
 (.pick true (.sure (true) true
 (.need (nle (ByteArray.size (Prod.fst x) + ByteArray.size (strOfNums [icv IntKind.u8 (shr IntKind.u64 p6_5 (imul IntKind.i64 8 (Prod.snd x)))])) 9223372036854775807) true
 (.leaf (Vam.Ex.normal, St.mk [(0, SV.av (AV.one (Lf.v (Value.string (sapp (Prod.fst x) (strOfNums [icv IntKind.u8 (shr IntKind.u64 p6_5 (imul IntKind.i64 8 (Prod.snd x)))])))))), (2, SV.av (AV.one (Lf.ptr 30600 0 0 0 0))), (3, SV.av (AV.one (Lf.v (Value.int IntKind.u64 p6_5)))), (4, SV.av (AV.one (Lf.v (Value.int IntKind.i64 (isub IntKind.i64 (Prod.snd x) 1)))))] [(31, Blk.row 5 (K.int IntKind.u8) [icv IntKind.u8 (shr IntKind.u64 p6_5 (imul IntKind.i64 8 (Prod.snd x)))]), (30600, Blk.cells 25 [Lf.dat (K.arr 32 (K.int IntKind.u8)) [0, 0, 0, 0, 0, 0, 0, 0, 0, 0, 0, 0, 0, 0, 0, 0, 0, 0, 0, 0, 0, 0, 0, 0, 0, 0, 0, 0, 0, 0, 0, 0]])]) (.inl ((sapp (Prod.fst x) (strOfNums [icv IntKind.u8 (shr IntKind.u64 p6_5 (imul IntKind.i64 8 (Prod.snd x)))]), isub IntKind.i64 (Prod.snd x) 1))))))))
 (.leaf (Ex.exit 2, St.mk [(0, SV.av (AV.one (Lf.v (Value.string (Prod.fst x))))), (2, SV.av (AV.one (Lf.ptr 30600 0 0 0 0))), (3, SV.av (AV.one (Lf.v (Value.int IntKind.u64 p6_5)))), (4, SV.av (AV.one (Lf.v (Value.int IntKind.i64 (Prod.snd x)))))] [(30600, Blk.cells 25 [Lf.dat (K.arr 32 (K.int IntKind.u8)) [0, 0, 0, 0, 0, 0, 0, 0, 0, 0, 0, 0, 0, 0, 0, 0, 0, 0, 0, 0, 0, 0, 0, 0, 0, 0, 0, 0, 0, 0, 0, 0]])]) (.inr (Prod.fst x))))
theorem f9_l6_v (p6_5 : Int) (x : ByteArray × Int) : vc (execK P noG Tryd.f9.ntmps f9_hn [0, 2, 3, 4] (loopOf Tryd.f9 6) (f9_l6_D p6_5 x)) (f9_l6_t p6_5 x) = vcT (f9_l6_t p6_5 x) := by kernel_rfl
theorem f9_l6_o (d : Nat) (p6_5 : Int) (x : ByteArray × Int) : obl (Snd P noG) (Lp P noG Tryd.f9.ntmps [] f9_hn d) (RelL Tryd.f9.ntmps noG [] (f9_l6_D p6_5) (f9_l6_E p6_5)) (f9_l6_t p6_5 x) := by
 unfold f9_l6_t
 exact (oAsk (fun h0 => (oNeed fun h1 => (oPick (oSure rfl (oNeed fun h2 => (oLeaf (relN (wk_tw [(30600, 30600)] [0, 2, 3, 4] [] (by kernel_rfl) (by kernel_rfl)))))))))
 (fun h0 => (oLeaf (relE rfl (wk_tw [(30600, 60600)] [0, 2] [] (by kernel_rfl) (by kernel_rfl))))))
noncomputable def f9_l6_m (p6_5 : Int) (x : ByteArray × Int) : Option (ByteArray) := lrun (fun x => mod (f9_l6_t p6_5 x)) x
theorem f9_l6_e (p6_5 : Int) (x : ByteArray × Int) : mod (f9_l6_t p6_5 x) =
 (sel (ile 0 (Prod.snd x))
 (sel (ile 0 (imul IntKind.i64 8 (Prod.snd x)))
 (sel (nle (ByteArray.size (Prod.fst x) + ByteArray.size (strOfNums [icv IntKind.u8 (shr IntKind.u64 p6_5 (imul IntKind.i64 8 (Prod.snd x)))])) 9223372036854775807)
 (some ((.inl ((sapp (Prod.fst x) (strOfNums [icv IntKind.u8 (shr IntKind.u64 p6_5 (imul IntKind.i64 8 (Prod.snd x)))]), isub IntKind.i64 (Prod.snd x) 1))))) none) none)
 (some ((.inr (Prod.fst x))))) := by kernel_rfl
theorem f9_l6_s0 (d : Nat) {p6_5 : Int} {σ : St} {x : ByteArray × Int} {z : ByteArray} (h : f9_l6_m p6_5 x = some z) (hw : Wk Tryd.f9.ntmps noG [] σ (f9_l6_D p6_5 x)) : Lp P noG Tryd.f9.ntmps [] f9_hn (d + 1) (loopOf Tryd.f9 6) σ (Ex.exit 2) (f9_l6_E0 p6_5 z) :=
 lp_tree (D := f9_l6_D p6_5) (E := f9_l6_E p6_5) (f9_l6_v p6_5) (f9_l6_o d p6_5) h hw
def f9_l11_D (p11_13 : ByteArray) (x : List Int × Int) : St := St.mk [(0, SV.av (AV.one (Lf.v (Value.string p11_13)))), (2, SV.av (AV.one (Lf.ptr 31100 0 0 0 0))), (5, SV.av (AV.one (Lf.ptr 31101 0 0 0 0))), (6, SV.av (AV.one (Lf.v (Value.int IntKind.i64 (Prod.snd x)))))] [(31100, Blk.cells 25 [Lf.dat (K.arr 32 (K.int IntKind.u8)) [0, 0, 0, 0, 0, 0, 0, 0, 0, 0, 0, 0, 0, 0, 0, 0, 0, 0, 0, 0, 0, 0, 0, 0, 0, 0, 0, 0, 0, 0, 0, 0]]), (31101, Blk.cells 35 [Lf.dat (K.arr 8 (K.int IntKind.u32)) (Prod.fst x)])]
def f9_l11_E0 (p11_13 : ByteArray) (y : List Int) : St := St.mk [(2, SV.av (AV.one (Lf.ptr 61100 0 0 0 0))), (5, SV.av (AV.one (Lf.ptr 61101 0 0 0 0)))] [(61100, Blk.cells 25 [Lf.dat (K.arr 32 (K.int IntKind.u8)) [0, 0, 0, 0, 0, 0, 0, 0, 0, 0, 0, 0, 0, 0, 0, 0, 0, 0, 0, 0, 0, 0, 0, 0, 0, 0, 0, 0, 0, 0, 0, 0]]), (61101, Blk.cells 35 [Lf.dat (K.arr 8 (K.int IntKind.u32)) y])]
def f9_l11_E (p11_13 : ByteArray) : List Int → Ex × St
  | y => (Ex.exit 4, f9_l11_E0 p11_13 y)
noncomputable def f9_l11_t (p11_13 : ByteArray) (x : List Int × Int) : DT (Ex × St) ((List Int × Int) ⊕ (List Int)) :=
 (.ask (ilt (Prod.snd x) (ssz p11_13))
 (.need (ile 0 (Prod.snd x)) true
 (.need (ile (Prod.snd x) (iadd IntKind.i64 (Prod.snd x) 64)) true
 (.need (ile (iadd IntKind.i64 (Prod.snd x) 64) (ssz p11_13)) true
 (.call 12 [AV.one (Lf.dat (K.arr 8 (K.int IntKind.u32)) (Prod.fst x)), AV.one (Lf.v (Value.string (scut p11_13 (Int.toNat (Prod.snd x)) (Int.toNat (iadd IntKind.i64 (Prod.snd x) 64)))))] [] (f12_m (Prod.fst x) (scut p11_13 (Int.toNat (Prod.snd x)) (Int.toNat (iadd IntKind.i64 (Prod.snd x) 64)))) (fun z83 => SV.av (AV.one (Lf.dat (K.arr 8 (K.int IntKind.u32)) z83))) (fun z83 => []) fun z83 =>
 (.leaf (Vam.Ex.normal, St.mk [(0, SV.av (AV.one (Lf.v (Value.string p11_13)))), (2, SV.av (AV.one (Lf.ptr 31100 0 0 0 0))), (5, SV.av (AV.one (Lf.ptr 31101 0 0 0 0))), (6, SV.av (AV.one (Lf.v (Value.int IntKind.i64 (iadd IntKind.i64 (Prod.snd x) 64)))))] [(31100, Blk.cells 25 [Lf.dat (K.arr 32 (K.int IntKind.u8)) [0, 0, 0, 0, 0, 0, 0, 0, 0, 0, 0, 0, 0, 0, 0, 0, 0, 0, 0, 0, 0, 0, 0, 0, 0, 0, 0, 0, 0, 0, 0, 0]]), (31101, Blk.cells 35 [Lf.dat (K.arr 8 (K.int IntKind.u32)) z83])]) (.inl ((z83, iadd IntKind.i64 (Prod.snd x) 64))))))))
 (.leaf (Ex.exit 4, St.mk [(0, SV.av (AV.one (Lf.v (Value.string p11_13)))), (2, SV.av (AV.one (Lf.ptr 31100 0 0 0 0))), (5, SV.av (AV.one (Lf.ptr 31101 0 0 0 0))), (6, SV.av (AV.one (Lf.v (Value.int IntKind.i64 (Prod.snd x)))))] [(31100, Blk.cells 25 [Lf.dat (K.arr 32 (K.int IntKind.u8)) [0, 0, 0, 0, 0, 0, 0, 0, 0, 0, 0, 0, 0, 0, 0, 0, 0, 0, 0, 0, 0, 0, 0, 0, 0, 0, 0, 0, 0, 0, 0, 0]]), (31101, Blk.cells 35 [Lf.dat (K.arr 8 (K.int IntKind.u32)) (Prod.fst x)])]) (.inr (Prod.fst x))))
theorem f9_l11_v (p11_13 : ByteArray) (x : List Int × Int) : vc (execK P noG Tryd.f9.ntmps f9_hn [0, 2, 5, 6] (loopOf Tryd.f9 11) (f9_l11_D p11_13 x)) (f9_l11_t p11_13 x) = vcT (f9_l11_t p11_13 x) := by kernel_rfl
theorem f9_l11_o (d : Nat) (p11_13 : ByteArray) (x : List Int × Int) : obl (Snd P noG) (Lp P noG Tryd.f9.ntmps [] f9_hn d) (RelL Tryd.f9.ntmps noG [] (f9_l11_D p11_13) (f9_l11_E p11_13)) (f9_l11_t p11_13 x) := by
 unfold f9_l11_t
 exact (oAsk (fun h0 => (oNeed fun h1 => (oNeed fun h2 => (oNeed fun h3 => (oCall (fun _ e => f12_s e) fun z83 _ =>
 (oLeaf (relN (wk_tw [(31101, 31101), (31100, 31100)] [0, 2, 5, 6] [] (by kernel_rfl) (by kernel_rfl)))))))))
 (fun h0 => (oLeaf (relE rfl (wk_tw [(31101, 61101), (31100, 61100)] [2, 5] [] (by kernel_rfl) (by kernel_rfl))))))
noncomputable def f9_l11_m (p11_13 : ByteArray) (x : List Int × Int) : Option (List Int) := lrun (fun x => mod (f9_l11_t p11_13 x)) x
theorem f9_l11_e (p11_13 : ByteArray) (x : List Int × Int) : mod (f9_l11_t p11_13 x) =
 (sel (ilt (Prod.snd x) (ssz p11_13))
 (sel (ile 0 (Prod.snd x))
 (sel (ile (Prod.snd x) (iadd IntKind.i64 (Prod.snd x) 64))
 (sel (ile (iadd IntKind.i64 (Prod.snd x) 64) (ssz p11_13))
 (Option.bind (f12_m (Prod.fst x) (scut p11_13 (Int.toNat (Prod.snd x)) (Int.toNat (iadd IntKind.i64 (Prod.snd x) 64)))) fun z83 =>
 (some ((.inl ((z83, iadd IntKind.i64 (Prod.snd x) 64)))))) none) none) none)
 (some ((.inr (Prod.fst x))))) := by kernel_rfl
theorem f9_l11_s0 (d : Nat) {p11_13 : ByteArray} {σ : St} {x : List Int × Int} {z : List Int} (h : f9_l11_m p11_13 x = some z) (hw : Wk Tryd.f9.ntmps noG [] σ (f9_l11_D p11_13 x)) : Lp P noG Tryd.f9.ntmps [] f9_hn (d + 1) (loopOf Tryd.f9 11) σ (Ex.exit 4) (f9_l11_E0 p11_13 z) :=
 lp_tree (D := f9_l11_D p11_13) (E := f9_l11_E p11_13) (f9_l11_v p11_13) (f9_l11_o d p11_13) h hw
def f9_l16_D (p16_41 : List Int) (x : List Int × Int) : St := St.mk [(2, SV.av (AV.one (Lf.ptr 31600 0 0 0 0))), (5, SV.av (AV.one (Lf.ptr 31601 0 0 0 0))), (7, SV.av (AV.one (Lf.ptr 31602 0 0 0 0))), (8, SV.av (AV.one (Lf.v (Value.int IntKind.i64 (Prod.snd x)))))] [(31600, Blk.cells 25 [Lf.dat (K.arr 32 (K.int IntKind.u8)) [0, 0, 0, 0, 0, 0, 0, 0, 0, 0, 0, 0, 0, 0, 0, 0, 0, 0, 0, 0, 0, 0, 0, 0, 0, 0, 0, 0, 0, 0, 0, 0]]), (31601, Blk.cells 35 [Lf.dat (K.arr 8 (K.int IntKind.u32)) p16_41]), (31602, Blk.cells 25 [Lf.dat (K.arr 32 (K.int IntKind.u8)) (Prod.fst x)])]
def f9_l16_E0 (p16_41 : List Int) (y : List Int) : St := St.mk [(2, SV.av (AV.one (Lf.ptr 61600 0 0 0 0))), (7, SV.av (AV.one (Lf.ptr 61601 0 0 0 0)))] [(61600, Blk.cells 25 [Lf.dat (K.arr 32 (K.int IntKind.u8)) [0, 0, 0, 0, 0, 0, 0, 0, 0, 0, 0, 0, 0, 0, 0, 0, 0, 0, 0, 0, 0, 0, 0, 0, 0, 0, 0, 0, 0, 0, 0, 0]]), (61601, Blk.cells 25 [Lf.dat (K.arr 32 (K.int IntKind.u8)) y])]
def f9_l16_E (p16_41 : List Int) : List Int → Ex × St
  | y => (Ex.exit 6, f9_l16_E0 p16_41 y)
noncomputable def f9_l16_t (p16_41 : List Int) (x : List Int × Int) : DT (Ex × St) ((List Int × Int) ⊕ (List Int)) :=
 (.ask (ilt (Prod.snd x) 32)
 (.sure (true) true
 (.need (ile 0 (iquo IntKind.i64 (Prod.snd x) 4)) true
 (.need (ilt (iquo IntKind.i64 (Prod.snd x) 4) 8) true
 (.need (nlt (Int.toNat (iquo IntKind.i64 (Prod.snd x) 4)) 8) true
 (.sure (true) true
 (.need (ile 0 (isub IntKind.i64 24 (imul IntKind.i64 8 (irem (Prod.snd x) 4)))) true
 (.need (ile 0 (Prod.snd x)) true
 (.sure (ilt (Prod.snd x) 32) true
 (.need (nlt (Int.toNat (Prod.snd x)) 32) true
 (.leaf (Vam.Ex.normal, St.mk [(2, SV.av (AV.one (Lf.ptr 31600 0 0 0 0))), (5, SV.av (AV.one (Lf.ptr 31601 0 0 0 0))), (7, SV.av (AV.one (Lf.ptr 31602 0 0 0 0))), (8, SV.av (AV.one (Lf.v (Value.int IntKind.i64 (iadd IntKind.i64 (Prod.snd x) 1)))))] [(31600, Blk.cells 25 [Lf.dat (K.arr 32 (K.int IntKind.u8)) [0, 0, 0, 0, 0, 0, 0, 0, 0, 0, 0, 0, 0, 0, 0, 0, 0, 0, 0, 0, 0, 0, 0, 0, 0, 0, 0, 0, 0, 0, 0, 0]]), (31601, Blk.cells 35 [Lf.dat (K.arr 8 (K.int IntKind.u32)) p16_41]), (31602, Blk.cells 25 [Lf.dat (K.arr 32 (K.int IntKind.u8)) (List.set (Prod.fst x) (Int.toNat (Prod.snd x)) (icv IntKind.u8 (shr IntKind.u32 (gd (K.int IntKind.u32) p16_41 (Int.toNat (iquo IntKind.i64 (Prod.snd x) 4))) (isub IntKind.i64 24 (imul IntKind.i64 8 (irem (Prod.snd x) 4))))))])]) (.inl ((List.set (Prod.fst x) (Int.toNat (Prod.snd x)) (icv IntKind.u8 (shr IntKind.u32 (gd (K.int IntKind.u32) p16_41 (Int.toNat (iquo IntKind.i64 (Prod.snd x) 4))) (isub IntKind.i64 24 (imul IntKind.i64 8 (irem (Prod.snd x) 4))))), iadd IntKind.i64 (Prod.snd x) 1)))))))))))))
 (.leaf (Ex.exit 6, St.mk [(2, SV.av (AV.one (Lf.ptr 31600 0 0 0 0))), (5, SV.av (AV.one (Lf.ptr 31601 0 0 0 0))), (7, SV.av (AV.one (Lf.ptr 31602 0 0 0 0))), (8, SV.av (AV.one (Lf.v (Value.int IntKind.i64 (Prod.snd x)))))] [(31600, Blk.cells 25 [Lf.dat (K.arr 32 (K.int IntKind.u8)) [0, 0, 0, 0, 0, 0, 0, 0, 0, 0, 0, 0, 0, 0, 0, 0, 0, 0, 0, 0, 0, 0, 0, 0, 0, 0, 0, 0, 0, 0, 0, 0]]), (31601, Blk.cells 35 [Lf.dat (K.arr 8 (K.int IntKind.u32)) p16_41]), (31602, Blk.cells 25 [Lf.dat (K.arr 32 (K.int IntKind.u8)) (Prod.fst x)])]) (.inr (Prod.fst x))))
theorem f9_l16_v (p16_41 : List Int) (x : List Int × Int) : vc (execK P noG Tryd.f9.ntmps f9_hn [2, 5, 7, 8] (loopOf Tryd.f9 16) (f9_l16_D p16_41 x)) (f9_l16_t p16_41 x) = vcT (f9_l16_t p16_41 x) := by kernel_rfl
theorem f9_l16_o (d : Nat) (p16_41 : List Int) (x : List Int × Int) : obl (Snd P noG) (Lp P noG Tryd.f9.ntmps [] f9_hn d) (RelL Tryd.f9.ntmps noG [] (f9_l16_D p16_41) (f9_l16_E p16_41)) (f9_l16_t p16_41 x) := by
 unfold f9_l16_t
 exact (oAsk (fun h0 => (oSure rfl (oNeed fun h1 => (oNeed fun h2 => (oNeed fun h3 => (oSure rfl (oNeed fun h4 => (oNeed fun h5 => (oSure h0 (oNeed fun h6 => (oLeaf (relN (wk_tw [(31602, 31602), (31601, 31601), (31600, 31600)] [2, 5, 7, 8] [] (by kernel_rfl) (by kernel_rfl))))))))))))))
 (fun h0 => (oLeaf (relE rfl (wk_tw [(31602, 61601), (31600, 61600)] [2, 7] [] (by kernel_rfl) (by kernel_rfl))))))
noncomputable def f9_l16_m (p16_41 : List Int) (x : List Int × Int) : Option (List Int) := lrun (fun x => mod (f9_l16_t p16_41 x)) x
theorem f9_l16_e (p16_41 : List Int) (x : List Int × Int) : mod (f9_l16_t p16_41 x) =
 (sel (ilt (Prod.snd x) 32)
 (sel (ile 0 (iquo IntKind.i64 (Prod.snd x) 4))
 (sel (ilt (iquo IntKind.i64 (Prod.snd x) 4) 8)
 (sel (nlt (Int.toNat (iquo IntKind.i64 (Prod.snd x) 4)) 8)
 (sel (ile 0 (isub IntKind.i64 24 (imul IntKind.i64 8 (irem (Prod.snd x) 4))))
 (sel (ile 0 (Prod.snd x))
 (sel (nlt (Int.toNat (Prod.snd x)) 32)
 (some ((.inl ((List.set (Prod.fst x) (Int.toNat (Prod.snd x)) (icv IntKind.u8 (shr IntKind.u32 (gd (K.int IntKind.u32) p16_41 (Int.toNat (iquo IntKind.i64 (Prod.snd x) 4))) (isub IntKind.i64 24 (imul IntKind.i64 8 (irem (Prod.snd x) 4))))), iadd IntKind.i64 (Prod.snd x) 1))))) none) none) none) none) none) none)
 (some ((.inr (Prod.fst x))))) := by kernel_rfl
theorem f9_l16_s0 (d : Nat) {p16_41 : List Int} {σ : St} {x : List Int × Int} {z : List Int} (h : f9_l16_m p16_41 x = some z) (hw : Wk Tryd.f9.ntmps noG [] σ (f9_l16_D p16_41 x)) : Lp P noG Tryd.f9.ntmps [] f9_hn (d + 1) (loopOf Tryd.f9 16) σ (Ex.exit 6) (f9_l16_E0 p16_41 z) :=
 lp_tree (D := f9_l16_D p16_41) (E := f9_l16_E p16_41) (f9_l16_v p16_41) (f9_l16_o d p16_41) h hw
def f9_R (a0 : ByteArray) : List Int → SV × Hp
  | z => (SV.av (AV.one (Lf.dat (K.arr 32 (K.int IntKind.u8)) z)), [])
noncomputable def f9_t (a0 : ByteArray) : DT (SV × Hp) (List Int) :=
 (.need (nle (ByteArray.size a0 + 1) 9223372036854775807) true
 (.loop (loopOf Tryd.f9 3) (St.mk [(0, SV.av (AV.one (Lf.v (Value.string (sapp a0 (ByteArray.mk #[128])))))), (2, SV.av (AV.one (Lf.ptr 2 0 0 0 0))), (3, SV.av (AV.one (Lf.v (Value.int IntKind.u64 (imul IntKind.u64 (icv IntKind.u64 (ssz a0)) 8)))))] [(2, Blk.cells 25 [Lf.dat (K.arr 32 (K.int IntKind.u8)) [0, 0, 0, 0, 0, 0, 0, 0, 0, 0, 0, 0, 0, 0, 0, 0, 0, 0, 0, 0, 0, 0, 0, 0, 0, 0, 0, 0, 0, 0, 0, 0]])]) (f9_l3_m (imul IntKind.u64 (icv IntKind.u64 (ssz a0)) 8) (sapp a0 (ByteArray.mk #[128]))) (Ex.exit 0) (f9_l3_E0 (imul IntKind.u64 (icv IntKind.u64 (ssz a0)) 8)) fun z84 =>
 (.loop (loopOf Tryd.f9 6) (St.mk [(0, SV.av (AV.one (Lf.v (Value.string z84)))), (2, SV.av (AV.one (Lf.ptr 60300 0 0 0 0))), (3, SV.av (AV.one (Lf.v (Value.int IntKind.u64 (imul IntKind.u64 (icv IntKind.u64 (ssz a0)) 8))))), (4, SV.av (AV.one (Lf.v (Value.int IntKind.i64 7))))] [(60300, Blk.cells 25 [Lf.dat (K.arr 32 (K.int IntKind.u8)) [0, 0, 0, 0, 0, 0, 0, 0, 0, 0, 0, 0, 0, 0, 0, 0, 0, 0, 0, 0, 0, 0, 0, 0, 0, 0, 0, 0, 0, 0, 0, 0]])]) (f9_l6_m (imul IntKind.u64 (icv IntKind.u64 (ssz a0)) 8) (z84, 7)) (Ex.exit 2) (f9_l6_E0 (imul IntKind.u64 (icv IntKind.u64 (ssz a0)) 8)) fun z85 =>
 (.loop (loopOf Tryd.f9 11) (St.mk [(0, SV.av (AV.one (Lf.v (Value.string z85)))), (2, SV.av (AV.one (Lf.ptr 60600 0 0 0 0))), (5, SV.av (AV.one (Lf.ptr 5 0 0 0 0))), (6, SV.av (AV.one (Lf.v (Value.int IntKind.i64 0))))] [(5, Blk.cells 35 [Lf.dat (K.arr 8 (K.int IntKind.u32)) [1779033703, 3144134277, 1013904242, 2773480762, 1359893119, 2600822924, 528734635, 1541459225]]), (60600, Blk.cells 25 [Lf.dat (K.arr 32 (K.int IntKind.u8)) [0, 0, 0, 0, 0, 0, 0, 0, 0, 0, 0, 0, 0, 0, 0, 0, 0, 0, 0, 0, 0, 0, 0, 0, 0, 0, 0, 0, 0, 0, 0, 0]])]) (f9_l11_m z85 ([1779033703, 3144134277, 1013904242, 2773480762, 1359893119, 2600822924, 528734635, 1541459225], 0)) (Ex.exit 4) (f9_l11_E0 z85) fun z86 =>
 (.loop (loopOf Tryd.f9 16) (St.mk [(2, SV.av (AV.one (Lf.ptr 61100 0 0 0 0))), (5, SV.av (AV.one (Lf.ptr 61101 0 0 0 0))), (7, SV.av (AV.one (Lf.ptr 7 0 0 0 0))), (8, SV.av (AV.one (Lf.v (Value.int IntKind.i64 0))))] [(7, Blk.cells 25 [Lf.dat (K.arr 32 (K.int IntKind.u8)) [0, 0, 0, 0, 0, 0, 0, 0, 0, 0, 0, 0, 0, 0, 0, 0, 0, 0, 0, 0, 0, 0, 0, 0, 0, 0, 0, 0, 0, 0, 0, 0]]), (61100, Blk.cells 25 [Lf.dat (K.arr 32 (K.int IntKind.u8)) [0, 0, 0, 0, 0, 0, 0, 0, 0, 0, 0, 0, 0, 0, 0, 0, 0, 0, 0, 0, 0, 0, 0, 0, 0, 0, 0, 0, 0, 0, 0, 0]]), (61101, Blk.cells 35 [Lf.dat (K.arr 8 (K.int IntKind.u32)) z86])]) (f9_l16_m z86 ([0, 0, 0, 0, 0, 0, 0, 0, 0, 0, 0, 0, 0, 0, 0, 0, 0, 0, 0, 0, 0, 0, 0, 0, 0, 0, 0, 0, 0, 0, 0, 0], 0)) (Ex.exit 6) (f9_l16_E0 z86) fun z87 =>
 (.leaf (SV.av (AV.one (Lf.dat (K.arr 32 (K.int IntKind.u8)) z87)), [(61600, Blk.cells 25 [Lf.dat (K.arr 32 (K.int IntKind.u8)) z87]), (61601, Blk.cells 25 [Lf.dat (K.arr 32 (K.int IntKind.u8)) z87])]) (z87)))))))
theorem f9_v (a0 : ByteArray) : vc (runR P noG Tryd.f9 f9_hn [AV.one (Lf.v (Value.string a0))] []) (f9_t a0) = vcT (f9_t a0) := by kernel_rfl
theorem f9_o (a0 : ByteArray) : obl (Snd P noG) (Lp P noG Tryd.f9.ntmps [] f9_hn 1) (RelF [] (f9_R a0)) (f9_t a0) := by
 unfold f9_t
 exact (oNeed fun h0 => (oLoop (fun _ e => f9_l3_s0 0 e (wk_tw [(2, 30300)] [0, 2, 3] [] (by kernel_rfl) (by kernel_rfl))) fun z84 _ =>
 (oLoop (fun _ e => f9_l6_s0 0 e (wk_tw [(60300, 30600)] [0, 2, 3, 4] [] (by kernel_rfl) (by kernel_rfl))) fun z85 _ =>
 (oLoop (fun _ e => f9_l11_s0 0 e (wk_tw [(5, 31101), (60600, 31100)] [0, 2, 5, 6] [] (by kernel_rfl) (by kernel_rfl))) fun z86 _ =>
 (oLoop (fun _ e => f9_l16_s0 0 e (wk_tw [(7, 31602), (61101, 31601), (61100, 31600)] [2, 5, 7, 8] [] (by kernel_rfl) (by kernel_rfl))) fun z87 _ =>
 (oLeaf (wks_tw [] [] (by kernel_rfl) (by kernel_rfl))))))))
noncomputable def f9_m (a0 : ByteArray) : Option (List Int) := mod (f9_t a0)
theorem f9_e (a0 : ByteArray) : f9_m a0 =
 (sel (nle (ByteArray.size a0 + 1) 9223372036854775807)
 (Option.bind (f9_l3_m (imul IntKind.u64 (icv IntKind.u64 (ssz a0)) 8) (sapp a0 (ByteArray.mk #[128]))) fun z84 =>
 (Option.bind (f9_l6_m (imul IntKind.u64 (icv IntKind.u64 (ssz a0)) 8) (z84, 7)) fun z85 =>
 (Option.bind (f9_l11_m z85 ([1779033703, 3144134277, 1013904242, 2773480762, 1359893119, 2600822924, 528734635, 1541459225], 0)) fun z86 =>
 (Option.bind (f9_l16_m z86 ([0, 0, 0, 0, 0, 0, 0, 0, 0, 0, 0, 0, 0, 0, 0, 0, 0, 0, 0, 0, 0, 0, 0, 0, 0, 0, 0, 0, 0, 0, 0, 0], 0)) fun z87 =>
 (some ((z87))))))) none) := by kernel_rfl
theorem f9_s {a0 : ByteArray} {z : List Int} (h : f9_m a0 = some z) : Snd P noG 9 [AV.one (Lf.v (Value.string a0))] [] (SV.av (AV.one (Lf.dat (K.arr 32 (K.int IntKind.u8)) z))) [] :=
 snd_tree (hn := f9_hn) 1 (f9_R a0) mixed (by kernel_rfl) (by kernel_rfl) (by kernel_rfl) (by kernel_rfl) (by kernel_rfl) (f9_v a0) (f9_o a0) h
def f10_hn : Hn := Hn.mk [] [] [] [] [(5, [0, 1, 5])]
def f10_l4_D (p4_0 : List ByteArray) (p4_1 : List ByteArray) (x : Int) : St := St.mk [(0, SV.av (AV.one (Lf.dat (K.sl K.str) p4_0))), (1, SV.av (AV.one (Lf.dat (K.sl K.str) p4_1))), (5, SV.av (AV.one (Lf.v (Value.int IntKind.i64 x))))] []
def f10_l4_E0 (p4_0 : List ByteArray) (p4_1 : List ByteArray) (y : Unit) : St := St.mk [(4, SV.av (AV.one (Lf.v (Value.bool false))))] []
def f10_l4_E1 (p4_0 : List ByteArray) (p4_1 : List ByteArray) (y : Unit) : St := St.mk [] []
def f10_l4_E (p4_0 : List ByteArray) (p4_1 : List ByteArray) : Unit ⊕ Unit → Ex × St
  | (.inl y) => (Ex.ret, f10_l4_E0 p4_0 p4_1 y)
  | (.inr y) => (Ex.exit 0, f10_l4_E1 p4_0 p4_1 y)
noncomputable def f10_l4_t (p4_0 : List ByteArray) (p4_1 : List ByteArray) (x : Int) : DT (Ex × St) ((Int) ⊕ (Unit ⊕ Unit)) :=
 (.ask (ilt x (llen p4_0))
 (.need (ile 0 x) true
 (.sure (ilt x (llen p4_0)) true
 (.sure (ile 0 x) true
 (.need (ilt x (llen p4_1)) true
 (.ask (bno (seq (gd K.str p4_0 (Int.toNat x)) (gd K.str p4_1 (Int.toNat x))))
 (.leaf (Ex.ret, St.mk [(0, SV.av (AV.one (Lf.dat (K.sl K.str) p4_0))), (1, SV.av (AV.one (Lf.dat (K.sl K.str) p4_1))), (4, SV.av (AV.one (Lf.v (Value.bool false)))), (5, SV.av (AV.one (Lf.v (Value.int IntKind.i64 x))))] []) (.inr (.inl (()))))
 (.leaf (Vam.Ex.normal, St.mk [(0, SV.av (AV.one (Lf.dat (K.sl K.str) p4_0))), (1, SV.av (AV.one (Lf.dat (K.sl K.str) p4_1))), (5, SV.av (AV.one (Lf.v (Value.int IntKind.i64 (iadd IntKind.i64 x 1)))))] []) (.inl (iadd IntKind.i64 x 1))))))))
 (.leaf (Ex.exit 0, St.mk [(0, SV.av (AV.one (Lf.dat (K.sl K.str) p4_0))), (1, SV.av (AV.one (Lf.dat (K.sl K.str) p4_1))), (5, SV.av (AV.one (Lf.v (Value.int IntKind.i64 x))))] []) (.inr (.inr (())))))
theorem f10_l4_v (p4_0 : List ByteArray) (p4_1 : List ByteArray) (x : Int) : vc (execK P noG Tryd.f10.ntmps f10_hn [0, 1, 4, 5] (loopOf Tryd.f10 4) (f10_l4_D p4_0 p4_1 x)) (f10_l4_t p4_0 p4_1 x) = vcT (f10_l4_t p4_0 p4_1 x) := by kernel_rfl
theorem f10_l4_o (d : Nat) (p4_0 : List ByteArray) (p4_1 : List ByteArray) (x : Int) : obl (Snd P noG) (Lp P noG Tryd.f10.ntmps [] f10_hn d) (RelL Tryd.f10.ntmps noG [] (f10_l4_D p4_0 p4_1) (f10_l4_E p4_0 p4_1)) (f10_l4_t p4_0 p4_1 x) := by
 unfold f10_l4_t
 exact (oAsk (fun h0 => (oNeed fun h1 => (oSure h0 (oSure h1 (oNeed fun h2 => (oAsk (fun h3 => (oLeaf (relR rfl (wk_tw [] [4] [] (by kernel_rfl) (by kernel_rfl)))))
 (fun h3 => (oLeaf (relN (wk_tw [] [0, 1, 5] [] (by kernel_rfl) (by kernel_rfl)))))))))))
 (fun h0 => (oLeaf (relE rfl (wk_tw [] [] [] (by kernel_rfl) (by kernel_rfl))))))
noncomputable def f10_l4_m (p4_0 : List ByteArray) (p4_1 : List ByteArray) (x : Int) : Option (Unit ⊕ Unit) := lrun (fun x => mod (f10_l4_t p4_0 p4_1 x)) x
theorem f10_l4_e (p4_0 : List ByteArray) (p4_1 : List ByteArray) (x : Int) : mod (f10_l4_t p4_0 p4_1 x) =
 (sel (ilt x (llen p4_0))
 (sel (ile 0 x)
 (sel (ilt x (llen p4_1))
 (sel (bno (seq (gd K.str p4_0 (Int.toNat x)) (gd K.str p4_1 (Int.toNat x))))
 (some ((.inr (.inl (())))))
 (some ((.inl (iadd IntKind.i64 x 1))))) none) none)
 (some ((.inr (.inr (())))))) := by kernel_rfl
theorem f10_l4_s0 (d : Nat) {p4_0 : List ByteArray} {p4_1 : List ByteArray} {σ : St} {x : Int} {z : Unit} (h : f10_l4_m p4_0 p4_1 x = some (.inl z)) (hw : Wk Tryd.f10.ntmps noG [] σ (f10_l4_D p4_0 p4_1 x)) : Lp P noG Tryd.f10.ntmps [] f10_hn (d + 1) (loopOf Tryd.f10 4) σ (Ex.ret) (f10_l4_E0 p4_0 p4_1 z) :=
 lp_tree (D := f10_l4_D p4_0 p4_1) (E := f10_l4_E p4_0 p4_1) (f10_l4_v p4_0 p4_1) (f10_l4_o d p4_0 p4_1) h hw
theorem f10_l4_s1 (d : Nat) {p4_0 : List ByteArray} {p4_1 : List ByteArray} {σ : St} {x : Int} {z : Unit} (h : f10_l4_m p4_0 p4_1 x = some (.inr z)) (hw : Wk Tryd.f10.ntmps noG [] σ (f10_l4_D p4_0 p4_1 x)) : Lp P noG Tryd.f10.ntmps [] f10_hn (d + 1) (loopOf Tryd.f10 4) σ (Ex.exit 0) (f10_l4_E1 p4_0 p4_1 z) :=
 lp_tree (D := f10_l4_D p4_0 p4_1) (E := f10_l4_E p4_0 p4_1) (f10_l4_v p4_0 p4_1) (f10_l4_o d p4_0 p4_1) h hw
def f10_R (a0 : List ByteArray) (a1 : List ByteArray) : Bool → SV × Hp
  | z => (SV.av (AV.one (Lf.v (Value.bool z))), [])
noncomputable def f10_t (a0 : List ByteArray) (a1 : List ByteArray) : DT (SV × Hp) (Bool) :=
 (.ask (bno (ieq (llen a0) (llen a1)))
 (.leaf (SV.av (AV.one (Lf.v (Value.bool false))), []) (false))
 (.loop2 (loopOf Tryd.f10 4) (St.mk [(0, SV.av (AV.one (Lf.dat (K.sl K.str) a0))), (1, SV.av (AV.one (Lf.dat (K.sl K.str) a1))), (5, SV.av (AV.one (Lf.v (Value.int IntKind.i64 0))))] []) (f10_l4_m a0 a1 0) (Ex.ret) (f10_l4_E0 a0 a1) (Ex.exit 0) (f10_l4_E1 a0 a1) (fun z8 =>
 (.leaf (SV.av (AV.one (Lf.v (Value.bool false))), []) (false))) fun z9 =>
 (.leaf (SV.av (AV.one (Lf.v (Value.bool true))), []) (true))))
theorem f10_v (a0 : List ByteArray) (a1 : List ByteArray) : vc (runR P noG Tryd.f10 f10_hn [AV.one (Lf.dat (K.sl K.str) a0), AV.one (Lf.dat (K.sl K.str) a1)] []) (f10_t a0 a1) = vcT (f10_t a0 a1) := by kernel_rfl
theorem f10_o (a0 : List ByteArray) (a1 : List ByteArray) : obl (Snd P noG) (Lp P noG Tryd.f10.ntmps [] f10_hn 1) (RelF [] (f10_R a0 a1)) (f10_t a0 a1) := by
 unfold f10_t
 exact (oAsk (fun h0 => (oLeaf (wks_tw [] [] (by kernel_rfl) (by kernel_rfl))))
 (fun h0 => (oLoop2 (fun _ e => f10_l4_s0 0 e (wk_tw [] [0, 1, 5] [] (by kernel_rfl) (by kernel_rfl))) (fun _ e => f10_l4_s1 0 e (wk_tw [] [0, 1, 5] [] (by kernel_rfl) (by kernel_rfl))) (fun z8 _ =>
 (oLeaf (wks_tw [] [] (by kernel_rfl) (by kernel_rfl)))) fun z9 _ =>
 (oLeaf (wks_tw [] [] (by kernel_rfl) (by kernel_rfl))))))
noncomputable def f10_m (a0 : List ByteArray) (a1 : List ByteArray) : Option (Bool) := mod (f10_t a0 a1)
theorem f10_e (a0 : List ByteArray) (a1 : List ByteArray) : f10_m a0 a1 =
 (sel (bno (ieq (llen a0) (llen a1)))
 (some ((false)))
 (Option.bind (f10_l4_m a0 a1 0) (Sum.elim (fun z8 =>
 (some ((false)))) fun z9 =>
 (some ((true)))))) := by kernel_rfl
theorem f10_s {a0 : List ByteArray} {a1 : List ByteArray} {z : Bool} (h : f10_m a0 a1 = some z) : Snd P noG 10 [AV.one (Lf.dat (K.sl K.str) a0), AV.one (Lf.dat (K.sl K.str) a1)] [] (SV.av (AV.one (Lf.v (Value.bool z)))) [] :=
 snd_tree (hn := f10_hn) 1 (f10_R a0 a1) mixed (by kernel_rfl) (by kernel_rfl) (by kernel_rfl) (by kernel_rfl) (by kernel_rfl) (f10_v a0 a1) (f10_o a0 a1) h
def f3_hn : Hn := Hn.mk [(9001, [(1000000, 23)]), (9008, [(1000000, 23)])] [] [] [] [(6, [0, 3, 4])]
def f3_l5_D (p5_11 : List ByteArray) (x : ByteArray × Int) : St := St.mk [(0, SV.av (AV.one (Lf.dat (K.sl K.str) p5_11))), (3, SV.av (AV.one (Lf.v (Value.string (Prod.fst x))))), (4, SV.av (AV.one (Lf.v (Value.int IntKind.i64 (Prod.snd x)))))] []
def f3_l5_E0 (p5_11 : List ByteArray) (y : ByteArray) : St := St.mk [(0, SV.av (AV.one (Lf.dat (K.sl K.str) p5_11))), (3, SV.av (AV.one (Lf.v (Value.string y))))] []
def f3_l5_E (p5_11 : List ByteArray) : ByteArray → Ex × St
  | y => (Ex.exit 0, f3_l5_E0 p5_11 y)
noncomputable def f3_l5_t (p5_11 : List ByteArray) (x : ByteArray × Int) : DT (Ex × St) ((ByteArray × Int) ⊕ (ByteArray)) :=
 (.ask (ilt (Prod.snd x) (llen p5_11))
 (.need (ile 0 (Prod.snd x)) true
 (.sure (ilt (Prod.snd x) (llen p5_11)) true
 (.need (nle (ByteArray.size (Prod.fst x) + ByteArray.size (gd K.str p5_11 (Int.toNat (Prod.snd x)))) 9223372036854775807) true
 (.leaf (Vam.Ex.normal, St.mk [(0, SV.av (AV.one (Lf.dat (K.sl K.str) p5_11))), (3, SV.av (AV.one (Lf.v (Value.string (sapp (Prod.fst x) (gd K.str p5_11 (Int.toNat (Prod.snd x)))))))), (4, SV.av (AV.one (Lf.v (Value.int IntKind.i64 (iadd IntKind.i64 (Prod.snd x) 1)))))] []) (.inl ((sapp (Prod.fst x) (gd K.str p5_11 (Int.toNat (Prod.snd x))), iadd IntKind.i64 (Prod.snd x) 1)))))))
 (.leaf (Ex.exit 0, St.mk [(0, SV.av (AV.one (Lf.dat (K.sl K.str) p5_11))), (3, SV.av (AV.one (Lf.v (Value.string (Prod.fst x))))), (4, SV.av (AV.one (Lf.v (Value.int IntKind.i64 (Prod.snd x)))))] []) (.inr (Prod.fst x))))
theorem f3_l5_v (p5_11 : List ByteArray) (x : ByteArray × Int) : vc (execK P noG Tryd.f3.ntmps f3_hn [0, 3, 4] (loopOf Tryd.f3 5) (f3_l5_D p5_11 x)) (f3_l5_t p5_11 x) = vcT (f3_l5_t p5_11 x) := by kernel_rfl
theorem f3_l5_o (d : Nat) (p5_11 : List ByteArray) (x : ByteArray × Int) : obl (Snd P noG) (Lp P noG Tryd.f3.ntmps [] f3_hn d) (RelL Tryd.f3.ntmps noG [] (f3_l5_D p5_11) (f3_l5_E p5_11)) (f3_l5_t p5_11 x) := by
 unfold f3_l5_t
 exact (oAsk (fun h0 => (oNeed fun h1 => (oSure h0 (oNeed fun h2 => (oLeaf (relN (wk_tw [] [0, 3, 4] [] (by kernel_rfl) (by kernel_rfl))))))))
 (fun h0 => (oLeaf (relE rfl (wk_tw [] [0, 3] [] (by kernel_rfl) (by kernel_rfl))))))
noncomputable def f3_l5_m (p5_11 : List ByteArray) (x : ByteArray × Int) : Option (ByteArray) := lrun (fun x => mod (f3_l5_t p5_11 x)) x
theorem f3_l5_e (p5_11 : List ByteArray) (x : ByteArray × Int) : mod (f3_l5_t p5_11 x) =
 (sel (ilt (Prod.snd x) (llen p5_11))
 (sel (ile 0 (Prod.snd x))
 (sel (nle (ByteArray.size (Prod.fst x) + ByteArray.size (gd K.str p5_11 (Int.toNat (Prod.snd x)))) 9223372036854775807)
 (some ((.inl ((sapp (Prod.fst x) (gd K.str p5_11 (Int.toNat (Prod.snd x))), iadd IntKind.i64 (Prod.snd x) 1))))) none) none)
 (some ((.inr (Prod.fst x))))) := by kernel_rfl
theorem f3_l5_s0 (d : Nat) {p5_11 : List ByteArray} {σ : St} {x : ByteArray × Int} {z : ByteArray} (h : f3_l5_m p5_11 x = some z) (hw : Wk Tryd.f3.ntmps noG [] σ (f3_l5_D p5_11 x)) : Lp P noG Tryd.f3.ntmps [] f3_hn (d + 1) (loopOf Tryd.f3 5) σ (Ex.exit 0) (f3_l5_E0 p5_11 z) :=
 lp_tree (D := f3_l5_D p5_11) (E := f3_l5_E p5_11) (f3_l5_v p5_11) (f3_l5_o d p5_11) h hw
def f3_R (a0 : List ByteArray) : Bool → SV × Hp
  | z => (SV.av (AV.one (Lf.v (Value.bool z))), [])
noncomputable def f3_t (a0 : List ByteArray) : DT (SV × Hp) (Bool) :=
 (.call 6 [AV.one (Lf.dat (K.sl K.str) a0), AV.one (Lf.v (Value.int IntKind.i64 500))] [] (f6_m a0 500) (fun z86 => SV.av (AV.one (Lf.v (Value.bool z86)))) (fun z86 => []) fun z86 =>
 (.ask (z86)
 (.call 7 [] [] (f7_m) (fun z88 => SV.av (AV.one (Lf.v (Value.bool z88)))) (fun z88 => []) fun z88 =>
 (.leaf (SV.av (AV.one (Lf.v (Value.bool z88))), []) (z88)))
 (.loop (loopOf Tryd.f3 5) (St.mk [(0, SV.av (AV.one (Lf.dat (K.sl K.str) a0))), (3, SV.av (AV.one (Lf.v (Value.string (ByteArray.mk #[]))))), (4, SV.av (AV.one (Lf.v (Value.int IntKind.i64 0))))] []) (f3_l5_m a0 (ByteArray.mk #[], 0)) (Ex.exit 0) (f3_l5_E0 a0) fun z89 =>
 (.pick true (.sure (true) true
 (.sure (true) true
 (.need (nle (List.length (List.append [] a0)) 9223372036854775807) true
 (.need (nle (List.length (List.append [] a0) * 16) 140737488355328) true
 (.pick true (.sure (nEq (List.length (List.append [] a0)) (List.length (List.append [] a0))) true
 (.call 8 [AV.one (Lf.dat (K.sl K.str) (List.append [] a0))] [] (f8_m (List.append [] a0)) (fun z94 => SV.av (AV.one (Lf.dat (K.arr 32 (K.int IntKind.u8)) z94))) (fun z94 => []) fun z94 =>
 (.call 9 [AV.one (Lf.v (Value.string z89))] [] (f9_m z89) (fun z99 => SV.av (AV.one (Lf.dat (K.arr 32 (K.int IntKind.u8)) z99))) (fun z99 => []) fun z99 =>
 (.ask (lieq z94 z99)
 (.sure (lieq z94 z99) true
 (.sure (lieq z94 z99) true
 (.pick true (.sure (nEq (List.length (List.append [] a0)) (List.length (List.append [] a0))) true
 (.call 10 [AV.one (Lf.dat (K.sl K.str) (List.append [] a0)), AV.one (Lf.dat (K.sl K.str) a0)] [] (f10_m (List.append [] a0) a0) (fun z107 => SV.av (AV.one (Lf.v (Value.bool z107)))) (fun z107 => []) fun z107 =>
 (.sure (lieq z94 z99) true
 (.ask (z107)
 (.call 7 [] [] (f7_m) (fun z109 => SV.av (AV.one (Lf.v (Value.bool z109)))) (fun z109 => []) fun z109 =>
 (.sure (z107) true
 (.leaf (SV.av (AV.one (Lf.v (Value.bool z109))), [(21, Blk.dead), (23, Blk.row 9 K.str (List.append [] a0))]) (z109))))
 (.sure (z107) false
 (.leaf (SV.av (AV.one (Lf.v (Value.bool false))), [(21, Blk.dead), (23, Blk.row 9 K.str (List.append [] a0))]) (false))))))))))
 (.sure (lieq z94 z99) false
 (.sure (lieq z94 z99) false
 (.sure (lieq z94 z99) false
 (.sure (false) false
 (.sure (false) false
 (.leaf (SV.av (AV.one (Lf.v (Value.bool false))), [(21, Blk.dead), (23, Blk.row 9 K.str (List.append [] a0))]) (false))))))))))))))))))))
theorem f3_v (a0 : List ByteArray) : vc (runR P noG Tryd.f3 f3_hn [AV.one (Lf.dat (K.sl K.str) a0)] []) (f3_t a0) = vcT (f3_t a0) := by kernel_rfl
theorem f3_o (a0 : List ByteArray) : obl (Snd P noG) (Lp P noG Tryd.f3.ntmps [] f3_hn 1) (RelF [] (f3_R a0)) (f3_t a0) := by
 unfold f3_t
 exact (oCall (fun _ e => f6_s e) fun z86 _ =>
 (oAsk (fun h0 => (oCall (fun _ e => f7_s e) fun z88 _ =>
 (oLeaf (wks_tw [] [] (by kernel_rfl) (by kernel_rfl)))))
 (fun h0 => (oLoop (fun _ e => f3_l5_s0 0 e (wk_tw [] [0, 3, 4] [] (by kernel_rfl) (by kernel_rfl))) fun z89 _ =>
 (oPick (oSure rfl (oSure rfl (oNeed fun h1 => (oNeed fun h2 => (oPick (oSure (nEq_t.2 rfl) (oCall (fun _ e => f8_s e) fun z94 _ =>
 (oCall (fun _ e => f9_s e) fun z99 _ =>
 (oAsk (fun h3 => (oSure h3 (oSure h3 (oPick (oSure (nEq_t.2 rfl) (oCall (fun _ e => f10_s e) fun z107 _ =>
 (oSure h3 (oAsk (fun h4 => (oCall (fun _ e => f7_s e) fun z109 _ =>
 (oSure h4 (oLeaf (wks_tw [] [] (by kernel_rfl) (by kernel_rfl))))))
 (fun h4 => (oSure h4 (oLeaf (wks_tw [] [] (by kernel_rfl) (by kernel_rfl)))))))))))))
 (fun h3 => (oSure h3 (oSure h3 (oSure h3 (oSure rfl (oSure rfl (oLeaf (wks_tw [] [] (by kernel_rfl) (by kernel_rfl)))))))))))))))))))))))
noncomputable def f3_m (a0 : List ByteArray) : Option (Bool) := mod (f3_t a0)
theorem f3_e (a0 : List ByteArray) : f3_m a0 =
 (Option.bind (f6_m a0 500) fun z86 =>
 (sel (z86)
 (Option.bind (f7_m) fun z88 =>
 (some ((z88))))
 (Option.bind (f3_l5_m a0 (ByteArray.mk #[], 0)) fun z89 =>
 (sel (nle (List.length (List.append [] a0)) 9223372036854775807)
 (sel (nle (List.length (List.append [] a0) * 16) 140737488355328)
 (Option.bind (f8_m (List.append [] a0)) fun z94 =>
 (Option.bind (f9_m z89) fun z99 =>
 (sel (lieq z94 z99)
 (Option.bind (f10_m (List.append [] a0) a0) fun z107 =>
 (sel (z107)
 (Option.bind (f7_m) fun z109 =>
 (some ((z109))))
 (some ((false)))))
 (some ((false)))))) none) none)))) := by kernel_rfl
theorem f3_s {a0 : List ByteArray} {z : Bool} (h : f3_m a0 = some z) : Snd P noG 3 [AV.one (Lf.dat (K.sl K.str) a0)] [] (SV.av (AV.one (Lf.v (Value.bool z)))) [] :=
 snd_tree (hn := f3_hn) 1 (f3_R a0) mixed (by kernel_rfl) (by kernel_rfl) (by kernel_rfl) (by kernel_rfl) (by kernel_rfl) (f3_v a0) (f3_o a0) h
def f4_hn : Hn := Hn.mk [(5011, [(1000000, 39)]), (5014, [(1000000, 42)])] [] [] [] []
def f4_s0 (a0 : ByteArray) (a1 : Int) (a2 : Int) : ByteArray := scut a0 (Int.toNat (irem (icv IntKind.i64 a1) (iadd IntKind.i64 (ssz a0) 1))) (Int.toNat (iadd IntKind.i64 (irem (icv IntKind.i64 a1) (iadd IntKind.i64 (ssz a0) 1)) (irem (icv IntKind.i64 a2) (iadd IntKind.i64 (isub IntKind.i64 (ssz a0) (irem (icv IntKind.i64 a1) (iadd IntKind.i64 (ssz a0) 1))) 1))))
def f4_s1 (a1 : Int) (a0 : ByteArray) (a2 : Int) : Bool := ile (irem (icv IntKind.i64 a1) (iadd IntKind.i64 (ssz a0) 1)) (iadd IntKind.i64 (irem (icv IntKind.i64 a1) (iadd IntKind.i64 (ssz a0) 1)) (irem (icv IntKind.i64 a2) (iadd IntKind.i64 (isub IntKind.i64 (ssz a0) (irem (icv IntKind.i64 a1) (iadd IntKind.i64 (ssz a0) 1))) 1)))
def f4_R (a0 : ByteArray) (a1 : Int) (a2 : Int) : Bool → SV × Hp
  | z => (SV.av (AV.one (Lf.v (Value.bool z))), [])
noncomputable def f4_t (a0 : ByteArray) (a1 : Int) (a2 : Int) : DT (SV × Hp) (Bool) :=
 (.ask (ilt 400 (ssz a0))
 (.call 7 [] [] (f7_m) (fun z30 => SV.av (AV.one (Lf.v (Value.bool z30)))) (fun z30 => []) fun z30 =>
 (.leaf (SV.av (AV.one (Lf.v (Value.bool z30))), []) (z30)))
 (.need (bno (ieq (iadd IntKind.i64 (ssz a0) 1) 0)) true
 (.need (bno (ieq (iadd IntKind.i64 (isub IntKind.i64 (ssz a0) (irem (icv IntKind.i64 a1) (iadd IntKind.i64 (ssz a0) 1))) 1) 0)) true
 (.sure (true) true
 (.need (ile 0 (irem (icv IntKind.i64 a1) (iadd IntKind.i64 (ssz a0) 1))) true
 (.need (ile (irem (icv IntKind.i64 a1) (iadd IntKind.i64 (ssz a0) 1)) (ssz a0)) true
 (.sure (ile 0 (irem (icv IntKind.i64 a1) (iadd IntKind.i64 (ssz a0) 1))) true
 (.need (f4_s1 a1 a0 a2) true
 (.need (ile (iadd IntKind.i64 (irem (icv IntKind.i64 a1) (iadd IntKind.i64 (ssz a0) 1)) (irem (icv IntKind.i64 a2) (iadd IntKind.i64 (isub IntKind.i64 (ssz a0) (irem (icv IntKind.i64 a1) (iadd IntKind.i64 (ssz a0) 1))) 1))) (ssz a0)) true
 (.need (ile 0 (iadd IntKind.i64 (irem (icv IntKind.i64 a1) (iadd IntKind.i64 (ssz a0) 1)) (irem (icv IntKind.i64 a2) (iadd IntKind.i64 (isub IntKind.i64 (ssz a0) (irem (icv IntKind.i64 a1) (iadd IntKind.i64 (ssz a0) 1))) 1)))) true
 (.sure (ile (iadd IntKind.i64 (irem (icv IntKind.i64 a1) (iadd IntKind.i64 (ssz a0) 1)) (irem (icv IntKind.i64 a2) (iadd IntKind.i64 (isub IntKind.i64 (ssz a0) (irem (icv IntKind.i64 a1) (iadd IntKind.i64 (ssz a0) 1))) 1))) (ssz a0)) true
 (.pick true (.sure (true) true
 (.call 8 [AV.one (Lf.dat (K.sl K.str) [scut a0 0 (Int.toNat (irem (icv IntKind.i64 a1) (iadd IntKind.i64 (ssz a0) 1))), ByteArray.mk #[], f4_s0 a0 a1 a2, scut a0 (Int.toNat (iadd IntKind.i64 (irem (icv IntKind.i64 a1) (iadd IntKind.i64 (ssz a0) 1)) (irem (icv IntKind.i64 a2) (iadd IntKind.i64 (isub IntKind.i64 (ssz a0) (irem (icv IntKind.i64 a1) (iadd IntKind.i64 (ssz a0) 1))) 1)))) (ByteArray.size a0)])] [] (f8_m [scut a0 0 (Int.toNat (irem (icv IntKind.i64 a1) (iadd IntKind.i64 (ssz a0) 1))), ByteArray.mk #[], f4_s0 a0 a1 a2, scut a0 (Int.toNat (iadd IntKind.i64 (irem (icv IntKind.i64 a1) (iadd IntKind.i64 (ssz a0) 1)) (irem (icv IntKind.i64 a2) (iadd IntKind.i64 (isub IntKind.i64 (ssz a0) (irem (icv IntKind.i64 a1) (iadd IntKind.i64 (ssz a0) 1))) 1)))) (ByteArray.size a0)]) (fun z35 => SV.av (AV.one (Lf.dat (K.arr 32 (K.int IntKind.u8)) z35))) (fun z35 => []) fun z35 =>
 (.pick true (.sure (true) true
 (.call 8 [AV.one (Lf.dat (K.sl K.str) [a0])] [] (f8_m [a0]) (fun z40 => SV.av (AV.one (Lf.dat (K.arr 32 (K.int IntKind.u8)) z40))) (fun z40 => []) fun z40 =>
 (.ask (lieq z35 z40)
 (.call 7 [] [] (f7_m) (fun z42 => SV.av (AV.one (Lf.v (Value.bool z42)))) (fun z42 => []) fun z42 =>
 (.sure (lieq z35 z40) true
 (.leaf (SV.av (AV.one (Lf.v (Value.bool z42))), [(39, Blk.row 9 K.str [scut a0 0 (Int.toNat (irem (icv IntKind.i64 a1) (iadd IntKind.i64 (ssz a0) 1))), ByteArray.mk #[], f4_s0 a0 a1 a2, scut a0 (Int.toNat (iadd IntKind.i64 (irem (icv IntKind.i64 a1) (iadd IntKind.i64 (ssz a0) 1)) (irem (icv IntKind.i64 a2) (iadd IntKind.i64 (isub IntKind.i64 (ssz a0) (irem (icv IntKind.i64 a1) (iadd IntKind.i64 (ssz a0) 1))) 1)))) (ByteArray.size a0)]), (42, Blk.row 9 K.str [a0])]) (z42))))
 (.sure (lieq z35 z40) false
 (.leaf (SV.av (AV.one (Lf.v (Value.bool false))), [(39, Blk.row 9 K.str [scut a0 0 (Int.toNat (irem (icv IntKind.i64 a1) (iadd IntKind.i64 (ssz a0) 1))), ByteArray.mk #[], f4_s0 a0 a1 a2, scut a0 (Int.toNat (iadd IntKind.i64 (irem (icv IntKind.i64 a1) (iadd IntKind.i64 (ssz a0) 1)) (irem (icv IntKind.i64 a2) (iadd IntKind.i64 (isub IntKind.i64 (ssz a0) (irem (icv IntKind.i64 a1) (iadd IntKind.i64 (ssz a0) 1))) 1)))) (ByteArray.size a0)]), (42, Blk.row 9 K.str [a0])]) (false)))))))))))))))))))))
theorem f4_v (a0 : ByteArray) (a1 : Int) (a2 : Int) : vc (runR P noG Tryd.f4 f4_hn [AV.one (Lf.v (Value.string a0)), AV.one (Lf.v (Value.int IntKind.u8 a1)), AV.one (Lf.v (Value.int IntKind.u8 a2))] []) (f4_t a0 a1 a2) = vcT (f4_t a0 a1 a2) := by kernel_rfl
theorem f4_o (a0 : ByteArray) (a1 : Int) (a2 : Int) : obl (Snd P noG) (Lp P noG Tryd.f4.ntmps [] f4_hn 1) (RelF [] (f4_R a0 a1 a2)) (f4_t a0 a1 a2) := by
 unfold f4_t
 exact (oAsk (fun h0 => (oCall (fun _ e => f7_s e) fun z30 _ =>
 (oLeaf (wks_tw [] [] (by kernel_rfl) (by kernel_rfl)))))
 (fun h0 => (oNeed fun h1 => (oNeed fun h2 => (oSure rfl (oNeed fun h3 => (oNeed fun h4 => (oSure h3 (oNeed fun h5 => (oNeed fun h6 => (oNeed fun h7 => (oSure h6 (oPick (oSure rfl (oCall (fun _ e => f8_s e) fun z35 _ =>
 (oPick (oSure rfl (oCall (fun _ e => f8_s e) fun z40 _ =>
 (oAsk (fun h8 => (oCall (fun _ e => f7_s e) fun z42 _ =>
 (oSure h8 (oLeaf (wks_tw [] [] (by kernel_rfl) (by kernel_rfl))))))
 (fun h8 => (oSure h8 (oLeaf (wks_tw [] [] (by kernel_rfl) (by kernel_rfl))))))))))))))))))))))))
noncomputable def f4_m (a0 : ByteArray) (a1 : Int) (a2 : Int) : Option (Bool) := mod (f4_t a0 a1 a2)
theorem f4_e (a0 : ByteArray) (a1 : Int) (a2 : Int) : f4_m a0 a1 a2 =
 (sel (ilt 400 (ssz a0))
 (Option.bind (f7_m) fun z30 =>
 (some ((z30))))
 (sel (bno (ieq (iadd IntKind.i64 (ssz a0) 1) 0))
 (sel (bno (ieq (iadd IntKind.i64 (isub IntKind.i64 (ssz a0) (irem (icv IntKind.i64 a1) (iadd IntKind.i64 (ssz a0) 1))) 1) 0))
 (sel (ile 0 (irem (icv IntKind.i64 a1) (iadd IntKind.i64 (ssz a0) 1)))
 (sel (ile (irem (icv IntKind.i64 a1) (iadd IntKind.i64 (ssz a0) 1)) (ssz a0))
 (sel (f4_s1 a1 a0 a2)
 (sel (ile (iadd IntKind.i64 (irem (icv IntKind.i64 a1) (iadd IntKind.i64 (ssz a0) 1)) (irem (icv IntKind.i64 a2) (iadd IntKind.i64 (isub IntKind.i64 (ssz a0) (irem (icv IntKind.i64 a1) (iadd IntKind.i64 (ssz a0) 1))) 1))) (ssz a0))
 (sel (ile 0 (iadd IntKind.i64 (irem (icv IntKind.i64 a1) (iadd IntKind.i64 (ssz a0) 1)) (irem (icv IntKind.i64 a2) (iadd IntKind.i64 (isub IntKind.i64 (ssz a0) (irem (icv IntKind.i64 a1) (iadd IntKind.i64 (ssz a0) 1))) 1))))
 (Option.bind (f8_m [scut a0 0 (Int.toNat (irem (icv IntKind.i64 a1) (iadd IntKind.i64 (ssz a0) 1))), ByteArray.mk #[], f4_s0 a0 a1 a2, scut a0 (Int.toNat (iadd IntKind.i64 (irem (icv IntKind.i64 a1) (iadd IntKind.i64 (ssz a0) 1)) (irem (icv IntKind.i64 a2) (iadd IntKind.i64 (isub IntKind.i64 (ssz a0) (irem (icv IntKind.i64 a1) (iadd IntKind.i64 (ssz a0) 1))) 1)))) (ByteArray.size a0)]) fun z35 =>
 (Option.bind (f8_m [a0]) fun z40 =>
 (sel (lieq z35 z40)
 (Option.bind (f7_m) fun z42 =>
 (some ((z42))))
 (some ((false)))))) none) none) none) none) none) none) none)) := by kernel_rfl
theorem f4_s {a0 : ByteArray} {a1 : Int} {a2 : Int} {z : Bool} (h : f4_m a0 a1 a2 = some z) : Snd P noG 4 [AV.one (Lf.v (Value.string a0)), AV.one (Lf.v (Value.int IntKind.u8 a1)), AV.one (Lf.v (Value.int IntKind.u8 a2))] [] (SV.av (AV.one (Lf.v (Value.bool z)))) [] :=
 snd_tree (hn := f4_hn) 1 (f4_R a0 a1 a2) mixed (by kernel_rfl) (by kernel_rfl) (by kernel_rfl) (by kernel_rfl) (by kernel_rfl) (f4_v a0 a1 a2) (f4_o a0 a1 a2) h
def f5_hn : Hn := Hn.mk [(7003, [(1000000, 25)])] [] [] [] [(4, [1, 5, 6])]
def f5_l3_D (p3_0 : Int) (p3_1 : Nat) (x : List Int × Int) : St := St.mk [(1, SV.av (AV.one (Lf.v (Value.int IntKind.u8 p3_0)))), (5, SV.av (AV.one (Lf.own 30300 0 0 p3_1 1))), (6, SV.av (AV.one (Lf.v (Value.int IntKind.i64 (Prod.snd x)))))] [(30300, Blk.row 5 (K.int IntKind.u8) (Prod.fst x))]
def f5_l3_E0 (p3_0 : Int) (p3_1 : Nat) (y : List Int) : St := St.mk [(5, SV.av (AV.one (Lf.own 60300 0 0 p3_1 1)))] [(60300, Blk.row 5 (K.int IntKind.u8) y)]
def f5_l3_E (p3_0 : Int) (p3_1 : Nat) : List Int → Ex × St
  | y => (Ex.exit 0, f5_l3_E0 p3_0 p3_1 y)
noncomputable def f5_l3_t (p3_0 : Int) (p3_1 : Nat) (x : List Int × Int) : DT (Ex × St) ((List Int × Int) ⊕ (List Int)) :=
 (.ask (ilt (Prod.snd x) ↑p3_1)
 (.need (ile 0 (Prod.snd x)) true
 (.sure (ilt (Prod.snd x) ↑p3_1) true
 (.need (nlt (0 + Int.toNat (Prod.snd x)) (List.length (Prod.fst x))) true
 (.leaf (Vam.Ex.normal, St.mk [(1, SV.av (AV.one (Lf.v (Value.int IntKind.u8 p3_0)))), (5, SV.av (AV.one (Lf.own 30300 0 0 p3_1 1))), (6, SV.av (AV.one (Lf.v (Value.int IntKind.i64 (iadd IntKind.i64 (Prod.snd x) 1)))))] [(30300, Blk.row 5 (K.int IntKind.u8) (List.set (Prod.fst x) (0 + Int.toNat (Prod.snd x)) p3_0))]) (.inl ((List.set (Prod.fst x) (0 + Int.toNat (Prod.snd x)) p3_0, iadd IntKind.i64 (Prod.snd x) 1)))))))
 (.leaf (Ex.exit 0, St.mk [(1, SV.av (AV.one (Lf.v (Value.int IntKind.u8 p3_0)))), (5, SV.av (AV.one (Lf.own 30300 0 0 p3_1 1))), (6, SV.av (AV.one (Lf.v (Value.int IntKind.i64 (Prod.snd x)))))] [(30300, Blk.row 5 (K.int IntKind.u8) (Prod.fst x))]) (.inr (Prod.fst x))))
theorem f5_l3_v (p3_0 : Int) (p3_1 : Nat) (x : List Int × Int) : vc (execK P noG Tryd.f5.ntmps f5_hn [1, 5, 6] (loopOf Tryd.f5 3) (f5_l3_D p3_0 p3_1 x)) (f5_l3_t p3_0 p3_1 x) = vcT (f5_l3_t p3_0 p3_1 x) := by kernel_rfl
theorem f5_l3_o (d : Nat) (p3_0 : Int) (p3_1 : Nat) (x : List Int × Int) : obl (Snd P noG) (Lp P noG Tryd.f5.ntmps [] f5_hn d) (RelL Tryd.f5.ntmps noG [] (f5_l3_D p3_0 p3_1) (f5_l3_E p3_0 p3_1)) (f5_l3_t p3_0 p3_1 x) := by
 unfold f5_l3_t
 exact (oAsk (fun h0 => (oNeed fun h1 => (oSure h0 (oNeed fun h2 => (oLeaf (relN (wk_tw [(30300, 30300)] [1, 5, 6] [] (by kernel_rfl) (by kernel_rfl))))))))
 (fun h0 => (oLeaf (relE rfl (wk_tw [(30300, 60300)] [5] [] (by kernel_rfl) (by kernel_rfl))))))
noncomputable def f5_l3_m (p3_0 : Int) (p3_1 : Nat) (x : List Int × Int) : Option (List Int) := lrun (fun x => mod (f5_l3_t p3_0 p3_1 x)) x
theorem f5_l3_e (p3_0 : Int) (p3_1 : Nat) (x : List Int × Int) : mod (f5_l3_t p3_0 p3_1 x) =
 (sel (ilt (Prod.snd x) ↑p3_1)
 (sel (ile 0 (Prod.snd x))
 (sel (nlt (0 + Int.toNat (Prod.snd x)) (List.length (Prod.fst x)))
 (some ((.inl ((List.set (Prod.fst x) (0 + Int.toNat (Prod.snd x)) p3_0, iadd IntKind.i64 (Prod.snd x) 1))))) none) none)
 (some ((.inr (Prod.fst x))))) := by kernel_rfl
theorem f5_l3_s0 (d : Nat) {p3_0 : Int} {p3_1 : Nat} {σ : St} {x : List Int × Int} {z : List Int} (h : f5_l3_m p3_0 p3_1 x = some z) (hw : Wk Tryd.f5.ntmps noG [] σ (f5_l3_D p3_0 p3_1 x)) : Lp P noG Tryd.f5.ntmps [] f5_hn (d + 1) (loopOf Tryd.f5 3) σ (Ex.exit 0) (f5_l3_E0 p3_0 p3_1 z) :=
 lp_tree (D := f5_l3_D p3_0 p3_1) (E := f5_l3_E p3_0 p3_1) (f5_l3_v p3_0 p3_1) (f5_l3_o d p3_0 p3_1) h hw
def f5_R (a0 : Int) (a1 : Int) : Bool → SV × Hp
  | z => (SV.av (AV.one (Lf.v (Value.bool z))), [])
noncomputable def f5_t (a0 : Int) (a1 : Int) : DT (SV × Hp) (Bool) :=
 (.need (ile 0 a0) true
 (.sure (ile a0 a0) true
 (.need (ile (Int.mul 1 a0) 281474976710656) true
 (.loop (loopOf Tryd.f5 3) (St.mk [(1, SV.av (AV.one (Lf.v (Value.int IntKind.u8 a1)))), (5, SV.av (AV.one (Lf.own 9 0 0 (Int.toNat a0) 1))), (6, SV.av (AV.one (Lf.v (Value.int IntKind.i64 0))))] [(9, Blk.row 5 (K.int IntKind.u8) (List.replicate (Int.toNat a0) (0 : Int)))]) (f5_l3_m a1 (Int.toNat a0) (List.replicate (Int.toNat a0) 0, 0)) (Ex.exit 0) (f5_l3_E0 a1 (Int.toNat a0)) fun z33 =>
 (.pick false (.need (nle (0 + Int.toNat a0) (List.length z33)) true
 (.call 9 [AV.one (Lf.v (Value.string (strOfNums (List.take (Int.toNat a0) (List.drop 0 z33)))))] [] (f9_m (strOfNums (List.take (Int.toNat a0) (List.drop 0 z33)))) (fun z38 => SV.av (AV.one (Lf.dat (K.arr 32 (K.int IntKind.u8)) z38))) (fun z38 => []) fun z38 =>
 (.pick false (.sure (nle (0 + Int.toNat a0) (List.length z33)) true
 (.pick true (.sure (true) true
 (.call 8 [AV.one (Lf.dat (K.sl K.str) [strOfNums (List.take (Int.toNat a0) (List.drop 0 z33))])] [] (f8_m [strOfNums (List.take (Int.toNat a0) (List.drop 0 z33))]) (fun z43 => SV.av (AV.one (Lf.dat (K.arr 32 (K.int IntKind.u8)) z43))) (fun z43 => []) fun z43 =>
 (.ask (lieq z43 z38)
 (.call 7 [] [] (f7_m) (fun z45 => SV.av (AV.one (Lf.v (Value.bool z45)))) (fun z45 => []) fun z45 =>
 (.sure (lieq z43 z38) true
 (.leaf (SV.av (AV.one (Lf.v (Value.bool z45))), [(7, Blk.cells 26 [Lf.dat (K.arr 32 (K.int IntKind.u8)) z38]), (25, Blk.row 9 K.str [strOfNums (List.take (Int.toNat a0) (List.drop 0 z33))]), (60300, Blk.row 5 (K.int IntKind.u8) z33)]) (z45))))
 (.sure (lieq z43 z38) false
 (.leaf (SV.av (AV.one (Lf.v (Value.bool false))), [(7, Blk.cells 26 [Lf.dat (K.arr 32 (K.int IntKind.u8)) z38]), (25, Blk.row 9 K.str [strOfNums (List.take (Int.toNat a0) (List.drop 0 z33))]), (60300, Blk.row 5 (K.int IntKind.u8) z33)]) (false))))))))))))))))
theorem f5_v (a0 : Int) (a1 : Int) : vc (runR P noG Tryd.f5 f5_hn [AV.one (Lf.v (Value.int IntKind.u8 a0)), AV.one (Lf.v (Value.int IntKind.u8 a1))] []) (f5_t a0 a1) = vcT (f5_t a0 a1) := by kernel_rfl
theorem f5_o (a0 : Int) (a1 : Int) : obl (Snd P noG) (Lp P noG Tryd.f5.ntmps [] f5_hn 1) (RelF [] (f5_R a0 a1)) (f5_t a0 a1) := by
 unfold f5_t
 exact (oNeed fun h0 => (oSure (ile_t.2 (Int.le_refl _)) (oNeed fun h1 => (oLoop (fun _ e => f5_l3_s0 0 e (wk_tw [(9, 30300)] [1, 5, 6] [] (by kernel_rfl) (by kernel_rfl))) fun z33 _ =>
 (oPick (oNeed fun h2 => (oCall (fun _ e => f9_s e) fun z38 _ =>
 (oPick (oSure h2 (oPick (oSure rfl (oCall (fun _ e => f8_s e) fun z43 _ =>
 (oAsk (fun h3 => (oCall (fun _ e => f7_s e) fun z45 _ =>
 (oSure h3 (oLeaf (wks_tw [] [] (by kernel_rfl) (by kernel_rfl))))))
 (fun h3 => (oSure h3 (oLeaf (wks_tw [] [] (by kernel_rfl) (by kernel_rfl))))))))))))))))))
noncomputable def f5_m (a0 : Int) (a1 : Int) : Option (Bool) := mod (f5_t a0 a1)
theorem f5_e (a0 : Int) (a1 : Int) : f5_m a0 a1 =
 (sel (ile 0 a0)
 (sel (ile (Int.mul 1 a0) 281474976710656)
 (Option.bind (f5_l3_m a1 (Int.toNat a0) (List.replicate (Int.toNat a0) 0, 0)) fun z33 =>
 (sel (nle (0 + Int.toNat a0) (List.length z33))
 (Option.bind (f9_m (strOfNums (List.take (Int.toNat a0) (List.drop 0 z33)))) fun z38 =>
 (Option.bind (f8_m [strOfNums (List.take (Int.toNat a0) (List.drop 0 z33))]) fun z43 =>
 (sel (lieq z43 z38)
 (Option.bind (f7_m) fun z45 =>
 (some ((z45))))
 (some ((false)))))) none)) none) none) := by kernel_rfl
theorem f5_s {a0 : Int} {a1 : Int} {z : Bool} (h : f5_m a0 a1 = some z) : Snd P noG 5 [AV.one (Lf.v (Value.int IntKind.u8 a0)), AV.one (Lf.v (Value.int IntKind.u8 a1))] [] (SV.av (AV.one (Lf.v (Value.bool z)))) [] :=
 snd_tree (hn := f5_hn) 1 (f5_R a0 a1) mixed (by kernel_rfl) (by kernel_rfl) (by kernel_rfl) (by kernel_rfl) (by kernel_rfl) (f5_v a0 a1) (f5_o a0 a1) h

end Go.Proofs.YtihbhmeigijmiaaDoor
