/- A part of the proof that the laws of this seat hold for every input; no conditions of its own. -/
import Derived.Test.YtjpnpdidgaeegaaOS
open Go Vam Vam.Pg Go.Proofs
set_option linter.unusedVariables false
set_option maxRecDepth 100000
namespace Go.Proofs.Ytjpnpdidgaeegaa
def f9_hn : Hn := Hn.mk [] [] [] [] []
def f9_R (a0 : ByteArray) : Unit → SV × Hp
  | z => (SV.av (AV.one (Lf.ptr 100 0 0 0 0)), [(100, Blk.cells 55 [Lf.v (Value.string a0), Lf.v (Value.int IntKind.i64 0)])])
noncomputable def f9_t (a0 : ByteArray) : DT (SV × Hp) (Unit) :=
 (.leaf (SV.av (AV.one (Lf.ptr 5 0 0 0 0)), [(5, Blk.cells 55 [Lf.v (Value.string a0), Lf.v (Value.int IntKind.i64 0)])]) (()))
theorem f9_v (a0 : ByteArray) : vc (runR P noG Try.f9 f9_hn [AV.one (Lf.v (Value.string a0))] []) (f9_t a0) = vcT (f9_t a0) := by kernel_rfl
theorem f9_o (a0 : ByteArray) : obl (Snd P noG) (Lp P noG Try.f9.ntmps [] f9_hn 1) (RelF [] (f9_R a0)) (f9_t a0) := by
 unfold f9_t
 exact (oLeaf (wks_tw [(5, 100)] [] (by kernel_rfl) (by kernel_rfl)))
noncomputable def f9_m (a0 : ByteArray) : Option (Unit) := mod (f9_t a0)
theorem f9_e (a0 : ByteArray) : f9_m a0 =
 (some ((()))) := by kernel_rfl
theorem f9_s {a0 : ByteArray} {z : Unit} (h : f9_m a0 = some z) : Snd P noG 9 [AV.one (Lf.v (Value.string a0))] [] (SV.av (AV.one (Lf.ptr 100 0 0 0 0))) [(100, Blk.cells 55 [Lf.v (Value.string a0), Lf.v (Value.int IntKind.i64 0)])] :=
 snd_tree (hn := f9_hn) 1 (f9_R a0) mixed (by kernel_rfl) (by kernel_rfl) (by kernel_rfl) (by kernel_rfl) (by kernel_rfl) (f9_v a0) (f9_o a0) h
def f22_hn : Hn := Hn.mk [] [] [] [] []
def f22_R (a0 : Int) : Bool → SV × Hp
  | z => (SV.av (AV.one (Lf.v (Value.bool z))), [])
noncomputable def f22_t (a0 : Int) : DT (SV × Hp) (Bool) :=
 (.ask (ile 1 a0)
 (.sure (ile 1 a0) true
 (.sure (ile 1 a0) true
 (.leaf (SV.av (AV.one (Lf.v (Value.bool (ile a0 16)))), []) (ile a0 16))))
 (.sure (ile 1 a0) false
 (.sure (ile 1 a0) false
 (.leaf (SV.av (AV.one (Lf.v (Value.bool false))), []) (false)))))
theorem f22_v (a0 : Int) : vc (runR P noG Try.f22 f22_hn [AV.one (Lf.v (Value.int IntKind.i64 a0))] []) (f22_t a0) = vcT (f22_t a0) := by kernel_rfl
theorem f22_o (a0 : Int) : obl (Snd P noG) (Lp P noG Try.f22.ntmps [] f22_hn 1) (RelF [] (f22_R a0)) (f22_t a0) := by
 unfold f22_t
 exact (oAsk (fun h0 => (oSure h0 (oSure h0 (oLeaf (wks_tw [] [] (by kernel_rfl) (by kernel_rfl))))))
 (fun h0 => (oSure h0 (oSure h0 (oLeaf (wks_tw [] [] (by kernel_rfl) (by kernel_rfl)))))))
noncomputable def f22_m (a0 : Int) : Option (Bool) := mod (f22_t a0)
theorem f22_e (a0 : Int) : f22_m a0 =
 (sel (ile 1 a0)
 (some ((ile a0 16)))
 (some ((false)))) := by kernel_rfl
theorem f22_s {a0 : Int} {z : Bool} (h : f22_m a0 = some z) : Snd P noG 22 [AV.one (Lf.v (Value.int IntKind.i64 a0))] [] (SV.av (AV.one (Lf.v (Value.bool z)))) [] :=
 snd_tree (hn := f22_hn) 1 (f22_R a0) mixed (by kernel_rfl) (by kernel_rfl) (by kernel_rfl) (by kernel_rfl) (by kernel_rfl) (f22_v a0) (f22_o a0) h
def f23_hn : Hn := Hn.mk [] [] [] [] []
def f23_R (a0_0 : ByteArray) (a0_1 : Int) (a1 : Int) : Int × ByteArray → SV × Hp
  | z => (SV.av (AV.one (Lf.v (Value.string (Prod.snd z)))), [(0, Blk.cells 55 [Lf.v (Value.string a0_0), Lf.v (Value.int IntKind.i64 (Prod.fst z))])])
noncomputable def f23_t (a0_0 : ByteArray) (a0_1 : Int) (a1 : Int) : DT (SV × Hp) (Int × ByteArray) :=
 (.sure (false) false
 (.sure (false) false
 (.sure (false) false
 (.ask (ilt a1 0)
 (.sure (ilt a1 0) true
 (.sure (ilt a1 0) true
 (.sure (true) true
 (.leaf (SV.av (AV.one (Lf.v (Value.string (ByteArray.mk #[])))), [(0, Blk.cells 55 [Lf.v (Value.string a0_0), Lf.v (Value.int IntKind.i64 a0_1)])]) ((a0_1, ByteArray.mk #[]))))))
 (.sure (ilt a1 0) false
 (.sure (ilt a1 0) false
 (.ask (ilt 65536 a1)
 (.leaf (SV.av (AV.one (Lf.v (Value.string (ByteArray.mk #[])))), [(0, Blk.cells 55 [Lf.v (Value.string a0_0), Lf.v (Value.int IntKind.i64 a0_1)])]) ((a0_1, ByteArray.mk #[])))
 (.need (ile 0 a1) true
 (.sure (ile a1 a1) true
 (.need (ile (Int.mul 1 a1) 281474976710656) true
 (.ask (ilt a0_1 (ssz a0_0))
 (.need (ile 0 a0_1) true
 (.need (ile a0_1 (ssz a0_0)) true
 (.need (nle (0 + Int.toNat a1) (List.length (List.replicate (Int.toNat a1) (0 : Int)))) true
 (.ask (nle (List.length (nums (scut a0_0 (Int.toNat a0_1) (ByteArray.size a0_0)))) (Int.toNat a1))
 (.pick false (.need (nle (0 + Int.toNat a1) (List.length (over (List.replicate (Int.toNat a1) (0 : Int)) 0 (nums (scut a0_0 (Int.toNat a0_1) (ByteArray.size a0_0)))))) true
 (.leaf (SV.av (AV.one (Lf.v (Value.string (strOfNums (List.take (Int.toNat a1) (List.drop 0 (over (List.replicate (Int.toNat a1) (0 : Int)) 0 (nums (scut a0_0 (Int.toNat a0_1) (ByteArray.size a0_0)))))))))), [(0, Blk.cells 55 [Lf.v (Value.string a0_0), Lf.v (Value.int IntKind.i64 (iadd IntKind.i64 a0_1 a1))]), (17, Blk.row 5 (K.int IntKind.u8) (over (List.replicate (Int.toNat a1) (0 : Int)) 0 (nums (scut a0_0 (Int.toNat a0_1) (ByteArray.size a0_0)))))]) ((iadd IntKind.i64 a0_1 a1, strOfNums (List.take (Int.toNat a1) (List.drop 0 (over (List.replicate (Int.toNat a1) (0 : Int)) 0 (nums (scut a0_0 (Int.toNat a0_1) (ByteArray.size a0_0)))))))))))
 (.pick false (.need (nle (0 + Int.toNat a1) (List.length (over (List.replicate (Int.toNat a1) (0 : Int)) 0 (List.take (Int.toNat a1) (nums (scut a0_0 (Int.toNat a0_1) (ByteArray.size a0_0))))))) true
 (.leaf (SV.av (AV.one (Lf.v (Value.string (strOfNums (List.take (Int.toNat a1) (List.drop 0 (over (List.replicate (Int.toNat a1) (0 : Int)) 0 (List.take (Int.toNat a1) (nums (scut a0_0 (Int.toNat a0_1) (ByteArray.size a0_0))))))))))), [(0, Blk.cells 55 [Lf.v (Value.string a0_0), Lf.v (Value.int IntKind.i64 (iadd IntKind.i64 a0_1 a1))]), (17, Blk.row 5 (K.int IntKind.u8) (over (List.replicate (Int.toNat a1) (0 : Int)) 0 (List.take (Int.toNat a1) (nums (scut a0_0 (Int.toNat a0_1) (ByteArray.size a0_0))))))]) ((iadd IntKind.i64 a0_1 a1, strOfNums (List.take (Int.toNat a1) (List.drop 0 (over (List.replicate (Int.toNat a1) (0 : Int)) 0 (List.take (Int.toNat a1) (nums (scut a0_0 (Int.toNat a0_1) (ByteArray.size a0_0))))))))))))))))
 (.pick false (.need (nle (0 + Int.toNat a1) (List.length (List.replicate (Int.toNat a1) (0 : Int)))) true
 (.leaf (SV.av (AV.one (Lf.v (Value.string (strOfNums (List.take (Int.toNat a1) (List.drop 0 (List.replicate (Int.toNat a1) (0 : Int)))))))), [(0, Blk.cells 55 [Lf.v (Value.string a0_0), Lf.v (Value.int IntKind.i64 (iadd IntKind.i64 a0_1 a1))]), (17, Blk.row 5 (K.int IntKind.u8) (List.replicate (Int.toNat a1) (0 : Int)))]) ((iadd IntKind.i64 a0_1 a1, strOfNums (List.take (Int.toNat a1) (List.drop 0 (List.replicate (Int.toNat a1) (0 : Int))))))))))))))))))))
theorem f23_v (a0_0 : ByteArray) (a0_1 : Int) (a1 : Int) : vc (runR P noG Try.f23 f23_hn [AV.one (Lf.ptr 0 0 0 0 0), AV.one (Lf.v (Value.int IntKind.i64 a1))] [(0, Blk.cells 55 [Lf.v (Value.string a0_0), Lf.v (Value.int IntKind.i64 a0_1)])]) (f23_t a0_0 a0_1 a1) = vcT (f23_t a0_0 a0_1 a1) := by kernel_rfl
theorem f23_o (a0_0 : ByteArray) (a0_1 : Int) (a1 : Int) : obl (Snd P noG) (Lp P noG Try.f23.ntmps [0] f23_hn 1) (RelF [0] (f23_R a0_0 a0_1 a1)) (f23_t a0_0 a0_1 a1) := by
 unfold f23_t
 exact (oSure rfl (oSure rfl (oSure rfl (oAsk (fun h0 => (oSure h0 (oSure h0 (oSure rfl (oLeaf (wks_tw [(0, 0)] [] (by kernel_rfl) (by kernel_rfl)))))))
 (fun h0 => (oSure h0 (oSure h0 (oAsk (fun h1 => (oLeaf (wks_tw [(0, 0)] [] (by kernel_rfl) (by kernel_rfl))))
 (fun h1 => (oNeed fun h2 => (oSure (ile_t.2 (Int.le_refl _)) (oNeed fun h3 => (oAsk (fun h4 => (oNeed fun h5 => (oNeed fun h6 => (oNeed fun h7 => (oAsk (fun h8 => (oPick (oNeed fun h9 => (oLeaf (wks_tw [(0, 0)] [] (by kernel_rfl) (by kernel_rfl))))))
 (fun h8 => (oPick (oNeed fun h9 => (oLeaf (wks_tw [(0, 0)] [] (by kernel_rfl) (by kernel_rfl)))))))))))
 (fun h4 => (oPick (oNeed fun h5 => (oLeaf (wks_tw [(0, 0)] [] (by kernel_rfl) (by kernel_rfl)))))))))))))))))))
noncomputable def f23_m (a0_0 : ByteArray) (a0_1 : Int) (a1 : Int) : Option (Int × ByteArray) := mod (f23_t a0_0 a0_1 a1)
theorem f23_e (a0_0 : ByteArray) (a0_1 : Int) (a1 : Int) : f23_m a0_0 a0_1 a1 =
 (sel (ilt a1 0)
 (some (((a0_1, ByteArray.mk #[]))))
 (sel (ilt 65536 a1)
 (some (((a0_1, ByteArray.mk #[]))))
 (sel (ile 0 a1)
 (sel (ile (Int.mul 1 a1) 281474976710656)
 (sel (ilt a0_1 (ssz a0_0))
 (sel (ile 0 a0_1)
 (sel (ile a0_1 (ssz a0_0))
 (sel (nle (0 + Int.toNat a1) (List.length (List.replicate (Int.toNat a1) (0 : Int))))
 (sel (nle (List.length (nums (scut a0_0 (Int.toNat a0_1) (ByteArray.size a0_0)))) (Int.toNat a1))
 (sel (nle (0 + Int.toNat a1) (List.length (over (List.replicate (Int.toNat a1) (0 : Int)) 0 (nums (scut a0_0 (Int.toNat a0_1) (ByteArray.size a0_0))))))
 (some (((iadd IntKind.i64 a0_1 a1, strOfNums (List.take (Int.toNat a1) (List.drop 0 (over (List.replicate (Int.toNat a1) (0 : Int)) 0 (nums (scut a0_0 (Int.toNat a0_1) (ByteArray.size a0_0)))))))))) none)
 (sel (nle (0 + Int.toNat a1) (List.length (over (List.replicate (Int.toNat a1) (0 : Int)) 0 (List.take (Int.toNat a1) (nums (scut a0_0 (Int.toNat a0_1) (ByteArray.size a0_0)))))))
 (some (((iadd IntKind.i64 a0_1 a1, strOfNums (List.take (Int.toNat a1) (List.drop 0 (over (List.replicate (Int.toNat a1) (0 : Int)) 0 (List.take (Int.toNat a1) (nums (scut a0_0 (Int.toNat a0_1) (ByteArray.size a0_0))))))))))) none)) none) none) none)
 (sel (nle (0 + Int.toNat a1) (List.length (List.replicate (Int.toNat a1) (0 : Int))))
 (some (((iadd IntKind.i64 a0_1 a1, strOfNums (List.take (Int.toNat a1) (List.drop 0 (List.replicate (Int.toNat a1) (0 : Int)))))))) none)) none) none))) := by kernel_rfl
theorem f23_s {a0_0 : ByteArray} {a0_1 : Int} {a1 : Int} {z : Int × ByteArray} (h : f23_m a0_0 a0_1 a1 = some z) : Snd P noG 23 [AV.one (Lf.ptr 0 0 0 0 0), AV.one (Lf.v (Value.int IntKind.i64 a1))] [(0, Blk.cells 55 [Lf.v (Value.string a0_0), Lf.v (Value.int IntKind.i64 a0_1)])] (SV.av (AV.one (Lf.v (Value.string (Prod.snd z))))) [(0, Blk.cells 55 [Lf.v (Value.string a0_0), Lf.v (Value.int IntKind.i64 (Prod.fst z))])] :=
 snd_tree (hn := f23_hn) 1 (f23_R a0_0 a0_1 a1) mixed (by kernel_rfl) (by kernel_rfl) (by kernel_rfl) (by kernel_rfl) (by kernel_rfl) (f23_v a0_0 a0_1 a1) (f23_o a0_0 a0_1 a1) h
def f19_hn : Hn := Hn.mk [(5001, [(0, 0)])] [] [] [] [(5, [0, 1, 25, 26])]
def f19_l4_D (p4_5 : Int) (p4_6 : Int) (p4_7 : ByteArray) (x : Int × Int) : St := St.mk [(0, SV.av (AV.one (Lf.ptr 0 0 0 0 0))), (1, SV.av (AV.one (Lf.v (Value.int IntKind.i64 p4_5)))), (25, SV.av (AV.one (Lf.v (Value.int IntKind.i64 p4_6)))), (26, SV.av (AV.one (Lf.v (Value.int IntKind.i64 (Prod.snd x)))))] [(0, Blk.cells 55 [Lf.v (Value.string p4_7), Lf.v (Value.int IntKind.i64 (Prod.fst x))])]
def f19_l4_E0 (p4_5 : Int) (p4_6 : Int) (p4_7 : ByteArray) (y : Int × Int) : St := St.mk [(6, SV.av (AV.one (Lf.v (Value.int IntKind.i64 (Prod.fst y))))), (7, SV.av (AV.one (Lf.v (Value.int IntKind.i64 0))))] [(0, Blk.cells 55 [Lf.v (Value.string p4_7), Lf.v (Value.int IntKind.i64 (Prod.snd y))])]
def f19_l4_E1 (p4_5 : Int) (p4_6 : Int) (p4_7 : ByteArray) (y : Int) : St := St.mk [] [(0, Blk.cells 55 [Lf.v (Value.string p4_7), Lf.v (Value.int IntKind.i64 y)])]
def f19_l4_E (p4_5 : Int) (p4_6 : Int) (p4_7 : ByteArray) : Int × Int ⊕ Int → Ex × St
  | (.inl y) => (Ex.ret, f19_l4_E0 p4_5 p4_6 p4_7 y)
  | (.inr y) => (Ex.exit 0, f19_l4_E1 p4_5 p4_6 p4_7 y)
noncomputable def f19_l4_t (p4_5 : Int) (p4_6 : Int) (p4_7 : ByteArray) (x : Int × Int) : DT (Ex × St) ((Int × Int) ⊕ (Int × Int ⊕ Int)) :=
 (.ask (ilt (Prod.snd x) p4_6)
 (.call 23 [AV.one (Lf.ptr 0 0 0 0 0), AV.one (Lf.v (Value.int IntKind.i64 2))] [(0, Blk.cells 55 [Lf.v (Value.string p4_7), Lf.v (Value.int IntKind.i64 (Prod.fst x))])] (f23_m p4_7 (Prod.fst x) 2) (fun z78 => SV.av (AV.one (Lf.v (Value.string (Prod.snd z78))))) (fun z78 => [(0, Blk.cells 55 [Lf.v (Value.string p4_7), Lf.v (Value.int IntKind.i64 (Prod.fst z78))])]) fun z78 =>
 (.sure (true) true
 (.need (ilt 0 (ssz (Prod.snd z78))) true
 (.sure (true) true
 (.need (ilt 1 (ssz (Prod.snd z78))) true
 (.sure (true) true
 (.need (bno (ieq p4_5 0)) true
 (.ask (ilt (ior IntKind.i64 (icv IntKind.i64 (bt (Prod.snd z78) 0)) (shl IntKind.i64 (icv IntKind.i64 (bt (Prod.snd z78) 1)) 8)) (isub IntKind.i64 65536 (irem 65536 p4_5)))
 (.sure (bno (ieq p4_5 0)) true
 (.leaf (Ex.ret, St.mk [(0, SV.av (AV.one (Lf.ptr 0 0 0 0 0))), (1, SV.av (AV.one (Lf.v (Value.int IntKind.i64 p4_5)))), (6, SV.av (AV.one (Lf.v (Value.int IntKind.i64 (irem (ior IntKind.i64 (icv IntKind.i64 (bt (Prod.snd z78) 0)) (shl IntKind.i64 (icv IntKind.i64 (bt (Prod.snd z78) 1)) 8)) p4_5))))), (7, SV.av (AV.one (Lf.v (Value.int IntKind.i64 0)))), (25, SV.av (AV.one (Lf.v (Value.int IntKind.i64 p4_6)))), (26, SV.av (AV.one (Lf.v (Value.int IntKind.i64 (Prod.snd x)))))] [(0, Blk.cells 55 [Lf.v (Value.string p4_7), Lf.v (Value.int IntKind.i64 (Prod.fst z78))])]) (.inr (.inl ((irem (ior IntKind.i64 (icv IntKind.i64 (bt (Prod.snd z78) 0)) (shl IntKind.i64 (icv IntKind.i64 (bt (Prod.snd z78) 1)) 8)) p4_5, Prod.fst z78))))))
 (.leaf (Vam.Ex.normal, St.mk [(0, SV.av (AV.one (Lf.ptr 0 0 0 0 0))), (1, SV.av (AV.one (Lf.v (Value.int IntKind.i64 p4_5)))), (25, SV.av (AV.one (Lf.v (Value.int IntKind.i64 p4_6)))), (26, SV.av (AV.one (Lf.v (Value.int IntKind.i64 (iadd IntKind.i64 (Prod.snd x) 1)))))] [(0, Blk.cells 55 [Lf.v (Value.string p4_7), Lf.v (Value.int IntKind.i64 (Prod.fst z78))])]) (.inl ((Prod.fst z78, iadd IntKind.i64 (Prod.snd x) 1))))))))))))
 (.leaf (Ex.exit 0, St.mk [(0, SV.av (AV.one (Lf.ptr 0 0 0 0 0))), (1, SV.av (AV.one (Lf.v (Value.int IntKind.i64 p4_5)))), (25, SV.av (AV.one (Lf.v (Value.int IntKind.i64 p4_6)))), (26, SV.av (AV.one (Lf.v (Value.int IntKind.i64 (Prod.snd x)))))] [(0, Blk.cells 55 [Lf.v (Value.string p4_7), Lf.v (Value.int IntKind.i64 (Prod.fst x))])]) (.inr (.inr (Prod.fst x)))))
theorem f19_l4_v (p4_5 : Int) (p4_6 : Int) (p4_7 : ByteArray) (x : Int × Int) : vc (execK P noG Try.f19.ntmps f19_hn [0, 1, 6, 7, 25, 26] (loopOf Try.f19 4) (f19_l4_D p4_5 p4_6 p4_7 x)) (f19_l4_t p4_5 p4_6 p4_7 x) = vcT (f19_l4_t p4_5 p4_6 p4_7 x) := by kernel_rfl
theorem f19_l4_o (d : Nat) (p4_5 : Int) (p4_6 : Int) (p4_7 : ByteArray) (x : Int × Int) : obl (Snd P noG) (Lp P noG Try.f19.ntmps [0] f19_hn d) (RelL Try.f19.ntmps noG [0] (f19_l4_D p4_5 p4_6 p4_7) (f19_l4_E p4_5 p4_6 p4_7)) (f19_l4_t p4_5 p4_6 p4_7 x) := by
 unfold f19_l4_t
 exact (oAsk (fun h0 => (oCall (fun _ e => f23_s e) fun z78 _ =>
 (oSure rfl (oNeed fun h1 => (oSure rfl (oNeed fun h2 => (oSure rfl (oNeed fun h3 => (oAsk (fun h4 => (oSure h3 (oLeaf (relR rfl (wk_tw [(0, 0)] [6, 7] [] (by kernel_rfl) (by kernel_rfl))))))
 (fun h4 => (oLeaf (relN (wk_tw [(0, 0)] [0, 1, 25, 26] [] (by kernel_rfl) (by kernel_rfl))))))))))))))
 (fun h0 => (oLeaf (relE rfl (wk_tw [(0, 0)] [] [] (by kernel_rfl) (by kernel_rfl))))))
noncomputable def f19_l4_m (p4_5 : Int) (p4_6 : Int) (p4_7 : ByteArray) (x : Int × Int) : Option (Int × Int ⊕ Int) := lrun (fun x => mod (f19_l4_t p4_5 p4_6 p4_7 x)) x
theorem f19_l4_e (p4_5 : Int) (p4_6 : Int) (p4_7 : ByteArray) (x : Int × Int) : mod (f19_l4_t p4_5 p4_6 p4_7 x) =
 (sel (ilt (Prod.snd x) p4_6)
 (Option.bind (f23_m p4_7 (Prod.fst x) 2) fun z78 =>
 (sel (ilt 0 (ssz (Prod.snd z78)))
 (sel (ilt 1 (ssz (Prod.snd z78)))
 (sel (bno (ieq p4_5 0))
 (sel (ilt (ior IntKind.i64 (icv IntKind.i64 (bt (Prod.snd z78) 0)) (shl IntKind.i64 (icv IntKind.i64 (bt (Prod.snd z78) 1)) 8)) (isub IntKind.i64 65536 (irem 65536 p4_5)))
 (some ((.inr (.inl ((irem (ior IntKind.i64 (icv IntKind.i64 (bt (Prod.snd z78) 0)) (shl IntKind.i64 (icv IntKind.i64 (bt (Prod.snd z78) 1)) 8)) p4_5, Prod.fst z78))))))
 (some ((.inl ((Prod.fst z78, iadd IntKind.i64 (Prod.snd x) 1)))))) none) none) none))
 (some ((.inr (.inr (Prod.fst x)))))) := by kernel_rfl
theorem f19_l4_s0 (d : Nat) {p4_5 : Int} {p4_6 : Int} {p4_7 : ByteArray} {σ : St} {x : Int × Int} {z : Int × Int} (h : f19_l4_m p4_5 p4_6 p4_7 x = some (.inl z)) (hw : Wk Try.f19.ntmps noG [0] σ (f19_l4_D p4_5 p4_6 p4_7 x)) : Lp P noG Try.f19.ntmps [0] f19_hn (d + 1) (loopOf Try.f19 4) σ (Ex.ret) (f19_l4_E0 p4_5 p4_6 p4_7 z) :=
 lp_tree (D := f19_l4_D p4_5 p4_6 p4_7) (E := f19_l4_E p4_5 p4_6 p4_7) (f19_l4_v p4_5 p4_6 p4_7) (f19_l4_o d p4_5 p4_6 p4_7) h hw
theorem f19_l4_s1 (d : Nat) {p4_5 : Int} {p4_6 : Int} {p4_7 : ByteArray} {σ : St} {x : Int × Int} {z : Int} (h : f19_l4_m p4_5 p4_6 p4_7 x = some (.inr z)) (hw : Wk Try.f19.ntmps noG [0] σ (f19_l4_D p4_5 p4_6 p4_7 x)) : Lp P noG Try.f19.ntmps [0] f19_hn (d + 1) (loopOf Try.f19 4) σ (Ex.exit 0) (f19_l4_E1 p4_5 p4_6 p4_7 z) :=
 lp_tree (D := f19_l4_D p4_5 p4_6 p4_7) (E := f19_l4_E p4_5 p4_6 p4_7) (f19_l4_v p4_5 p4_6 p4_7) (f19_l4_o d p4_5 p4_6 p4_7) h hw
def f19_R (a0_0 : ByteArray) (a0_1 : Int) (a1 : Int) (a2 : Int) : Int × Int × Int → SV × Hp
  | z => (SV.tup [AV.one (Lf.v (Value.int IntKind.i64 (Prod.fst (Prod.snd z)))), AV.one (Lf.v (Value.int IntKind.i64 (Prod.snd (Prod.snd z))))], [(0, Blk.cells 55 [Lf.v (Value.string a0_0), Lf.v (Value.int IntKind.i64 (Prod.fst z))])])
noncomputable def f19_t (a0_0 : ByteArray) (a0_1 : Int) (a1 : Int) (a2 : Int) : DT (SV × Hp) (Int × Int × Int) :=
 (.sure (false) false
 (.sure (false) false
 (.sure (false) false
 (.ask (ilt a1 1)
 (.sure (ilt a1 1) true
 (.sure (ilt a1 1) true
 (.sure (true) true
 (.sure (true) true
 (.sure (true) true
 (.sure (true) true
 (.sure (true) true
 (.leaf (SV.tup [AV.one (Lf.v (Value.int IntKind.i64 0)), AV.one (Lf.v (Value.int IntKind.i64 1))], [(0, Blk.cells 55 [Lf.v (Value.string a0_0), Lf.v (Value.int IntKind.i64 a0_1)])]) ((a0_1, 0, 1))))))))))
 (.sure (ilt a1 1) false
 (.sure (ilt a1 1) false
 (.ask (ilt 65536 a1)
 (.sure (ilt 65536 a1) true
 (.sure (ilt 65536 a1) true
 (.sure (ilt 65536 a1) true
 (.sure (true) true
 (.leaf (SV.tup [AV.one (Lf.v (Value.int IntKind.i64 0)), AV.one (Lf.v (Value.int IntKind.i64 1))], [(0, Blk.cells 55 [Lf.v (Value.string a0_0), Lf.v (Value.int IntKind.i64 a0_1)])]) ((a0_1, 0, 1)))))))
 (.sure (ilt 65536 a1) false
 (.call 22 [AV.one (Lf.v (Value.int IntKind.i64 a2))] [] (f22_m a2) (fun z83 => SV.av (AV.one (Lf.v (Value.bool z83)))) (fun z83 => []) fun z83 =>
 (.sure (ilt 65536 a1) false
 (.sure (ilt 65536 a1) false
 (.ask (bno z83)
 (.leaf (SV.tup [AV.one (Lf.v (Value.int IntKind.i64 0)), AV.one (Lf.v (Value.int IntKind.i64 1))], [(0, Blk.cells 55 [Lf.v (Value.string a0_0), Lf.v (Value.int IntKind.i64 a0_1)])]) ((a0_1, 0, 1)))
 (.loop2 (loopOf Try.f19 4) (St.mk [(0, SV.av (AV.one (Lf.ptr 0 0 0 0 0))), (1, SV.av (AV.one (Lf.v (Value.int IntKind.i64 a1)))), (25, SV.av (AV.one (Lf.v (Value.int IntKind.i64 a2)))), (26, SV.av (AV.one (Lf.v (Value.int IntKind.i64 0))))] [(0, Blk.cells 55 [Lf.v (Value.string a0_0), Lf.v (Value.int IntKind.i64 a0_1)])]) (f19_l4_m a1 a2 a0_0 (a0_1, 0)) (Ex.ret) (f19_l4_E0 a1 a2 a0_0) (Ex.exit 0) (f19_l4_E1 a1 a2 a0_0) (fun z84 =>
 (.leaf (SV.tup [AV.one (Lf.v (Value.int IntKind.i64 (Prod.fst z84))), AV.one (Lf.v (Value.int IntKind.i64 0))], [(0, Blk.cells 55 [Lf.v (Value.string a0_0), Lf.v (Value.int IntKind.i64 (Prod.snd z84))])]) ((Prod.snd z84, Prod.fst z84, 0)))) fun z85 =>
 (.leaf (SV.tup [AV.one (Lf.v (Value.int IntKind.i64 0)), AV.one (Lf.v (Value.int IntKind.i64 3))], [(0, Blk.cells 55 [Lf.v (Value.string a0_0), Lf.v (Value.int IntKind.i64 z85)])]) ((z85, 0, 3))))))))))))))))
theorem f19_v (a0_0 : ByteArray) (a0_1 : Int) (a1 : Int) (a2 : Int) : vc (runR P noG Try.f19 f19_hn [AV.one (Lf.ptr 0 0 0 0 0), AV.one (Lf.v (Value.int IntKind.i64 a1)), AV.one (Lf.v (Value.int IntKind.i64 a2))] [(0, Blk.cells 55 [Lf.v (Value.string a0_0), Lf.v (Value.int IntKind.i64 a0_1)])]) (f19_t a0_0 a0_1 a1 a2) = vcT (f19_t a0_0 a0_1 a1 a2) := by kernel_rfl
theorem f19_o (a0_0 : ByteArray) (a0_1 : Int) (a1 : Int) (a2 : Int) : obl (Snd P noG) (Lp P noG Try.f19.ntmps [0] f19_hn 1) (RelF [0] (f19_R a0_0 a0_1 a1 a2)) (f19_t a0_0 a0_1 a1 a2) := by
 unfold f19_t
 exact (oSure rfl (oSure rfl (oSure rfl (oAsk (fun h0 => (oSure h0 (oSure h0 (oSure rfl (oSure rfl (oSure rfl (oSure rfl (oSure rfl (oLeaf (wks_tw [(0, 0)] [] (by kernel_rfl) (by kernel_rfl)))))))))))
 (fun h0 => (oSure h0 (oSure h0 (oAsk (fun h1 => (oSure h1 (oSure h1 (oSure h1 (oSure rfl (oLeaf (wks_tw [(0, 0)] [] (by kernel_rfl) (by kernel_rfl))))))))
 (fun h1 => (oSure h1 (oCall (fun _ e => f22_s e) fun z83 _ =>
 (oSure h1 (oSure h1 (oAsk (fun h2 => (oLeaf (wks_tw [(0, 0)] [] (by kernel_rfl) (by kernel_rfl))))
 (fun h2 => (oLoop2 (fun _ e => f19_l4_s0 0 e (wk_tw [(0, 0)] [0, 1, 25, 26] [] (by kernel_rfl) (by kernel_rfl))) (fun _ e => f19_l4_s1 0 e (wk_tw [(0, 0)] [0, 1, 25, 26] [] (by kernel_rfl) (by kernel_rfl))) (fun z84 _ =>
 (oLeaf (wks_tw [(0, 0)] [] (by kernel_rfl) (by kernel_rfl)))) fun z85 _ =>
 (oLeaf (wks_tw [(0, 0)] [] (by kernel_rfl) (by kernel_rfl)))))))))))))))))))
noncomputable def f19_m (a0_0 : ByteArray) (a0_1 : Int) (a1 : Int) (a2 : Int) : Option (Int × Int × Int) := mod (f19_t a0_0 a0_1 a1 a2)
theorem f19_e (a0_0 : ByteArray) (a0_1 : Int) (a1 : Int) (a2 : Int) : f19_m a0_0 a0_1 a1 a2 =
 (sel (ilt a1 1)
 (some (((a0_1, 0, 1))))
 (sel (ilt 65536 a1)
 (some (((a0_1, 0, 1))))
 (Option.bind (f22_m a2) fun z83 =>
 (sel (bno z83)
 (some (((a0_1, 0, 1))))
 (Option.bind (f19_l4_m a1 a2 a0_0 (a0_1, 0)) (Sum.elim (fun z84 =>
 (some (((Prod.snd z84, Prod.fst z84, 0))))) fun z85 =>
 (some (((z85, 0, 3)))))))))) := by kernel_rfl
theorem f19_s {a0_0 : ByteArray} {a0_1 : Int} {a1 : Int} {a2 : Int} {z : Int × Int × Int} (h : f19_m a0_0 a0_1 a1 a2 = some z) : Snd P noG 19 [AV.one (Lf.ptr 0 0 0 0 0), AV.one (Lf.v (Value.int IntKind.i64 a1)), AV.one (Lf.v (Value.int IntKind.i64 a2))] [(0, Blk.cells 55 [Lf.v (Value.string a0_0), Lf.v (Value.int IntKind.i64 a0_1)])] (SV.tup [AV.one (Lf.v (Value.int IntKind.i64 (Prod.fst (Prod.snd z)))), AV.one (Lf.v (Value.int IntKind.i64 (Prod.snd (Prod.snd z))))]) [(0, Blk.cells 55 [Lf.v (Value.string a0_0), Lf.v (Value.int IntKind.i64 (Prod.fst z))])] :=
 snd_tree (hn := f19_hn) 1 (f19_R a0_0 a0_1 a1 a2) mixed (by kernel_rfl) (by kernel_rfl) (by kernel_rfl) (by kernel_rfl) (by kernel_rfl) (f19_v a0_0 a0_1 a1 a2) (f19_o a0_0 a0_1 a1 a2) h
def f8_hn : Hn := Hn.mk [(12004, [(0, 0)])] [(15013, [31000])] [] [61010] [(6, [0, 1, 2, 8, 34, 35]), (11, [0, 2, 8, 10])]
def f8_l5_D (p5_0 : Int) (p5_1 : Int) (p5_2 : Nat) (p5_3 : Int) (p5_4 : ByteArray) (p5_5 : Int) (x : List Int × Int) : St := St.mk [(0, SV.av (AV.one (Lf.ptr 0 0 0 0 0))), (1, SV.av (AV.one (Lf.v (Value.int IntKind.i64 p5_0)))), (2, SV.av (AV.one (Lf.v (Value.int IntKind.i64 p5_1)))), (8, SV.av (AV.one (Lf.own 30500 0 0 p5_2 1))), (34, SV.av (AV.one (Lf.v (Value.int IntKind.i64 p5_3)))), (35, SV.av (AV.one (Lf.v (Value.int IntKind.i64 (Prod.snd x)))))] [(0, Blk.cells 55 [Lf.v (Value.string p5_4), Lf.v (Value.int IntKind.i64 p5_5)]), (30500, Blk.row 3 (K.int IntKind.i64) (Prod.fst x))]
def f8_l5_E0 (p5_0 : Int) (p5_1 : Int) (p5_2 : Nat) (p5_3 : Int) (p5_4 : ByteArray) (p5_5 : Int) (y : List Int) : St := St.mk [(0, SV.av (AV.one (Lf.ptr 0 0 0 0 0))), (1, SV.av (AV.one (Lf.v (Value.int IntKind.i64 p5_0)))), (2, SV.av (AV.one (Lf.v (Value.int IntKind.i64 p5_1)))), (8, SV.av (AV.one (Lf.own 60500 0 0 p5_2 1)))] [(0, Blk.cells 55 [Lf.v (Value.string p5_4), Lf.v (Value.int IntKind.i64 p5_5)]), (60500, Blk.row 3 (K.int IntKind.i64) y)]
def f8_l5_E (p5_0 : Int) (p5_1 : Int) (p5_2 : Nat) (p5_3 : Int) (p5_4 : ByteArray) (p5_5 : Int) : List Int → Ex × St
  | y => (Ex.exit 0, f8_l5_E0 p5_0 p5_1 p5_2 p5_3 p5_4 p5_5 y)
noncomputable def f8_l5_t (p5_0 : Int) (p5_1 : Int) (p5_2 : Nat) (p5_3 : Int) (p5_4 : ByteArray) (p5_5 : Int) (x : List Int × Int) : DT (Ex × St) ((List Int × Int) ⊕ (List Int)) :=
 (.ask (ilt (Prod.snd x) p5_3)
 (.need (ile 0 (Prod.snd x)) true
 (.need (ilt (Prod.snd x) ↑p5_2) true
 (.need (nlt (0 + Int.toNat (Prod.snd x)) (List.length (Prod.fst x))) true
 (.leaf (Vam.Ex.normal, St.mk [(0, SV.av (AV.one (Lf.ptr 0 0 0 0 0))), (1, SV.av (AV.one (Lf.v (Value.int IntKind.i64 p5_0)))), (2, SV.av (AV.one (Lf.v (Value.int IntKind.i64 p5_1)))), (8, SV.av (AV.one (Lf.own 30500 0 0 p5_2 1))), (34, SV.av (AV.one (Lf.v (Value.int IntKind.i64 p5_3)))), (35, SV.av (AV.one (Lf.v (Value.int IntKind.i64 (iadd IntKind.i64 (Prod.snd x) 1)))))] [(0, Blk.cells 55 [Lf.v (Value.string p5_4), Lf.v (Value.int IntKind.i64 p5_5)]), (30500, Blk.row 3 (K.int IntKind.i64) (List.set (Prod.fst x) (0 + Int.toNat (Prod.snd x)) (Prod.snd x)))]) (.inl ((List.set (Prod.fst x) (0 + Int.toNat (Prod.snd x)) (Prod.snd x), iadd IntKind.i64 (Prod.snd x) 1)))))))
 (.leaf (Ex.exit 0, St.mk [(0, SV.av (AV.one (Lf.ptr 0 0 0 0 0))), (1, SV.av (AV.one (Lf.v (Value.int IntKind.i64 p5_0)))), (2, SV.av (AV.one (Lf.v (Value.int IntKind.i64 p5_1)))), (8, SV.av (AV.one (Lf.own 30500 0 0 p5_2 1))), (34, SV.av (AV.one (Lf.v (Value.int IntKind.i64 p5_3)))), (35, SV.av (AV.one (Lf.v (Value.int IntKind.i64 (Prod.snd x)))))] [(0, Blk.cells 55 [Lf.v (Value.string p5_4), Lf.v (Value.int IntKind.i64 p5_5)]), (30500, Blk.row 3 (K.int IntKind.i64) (Prod.fst x))]) (.inr (Prod.fst x))))
theorem f8_l5_v (p5_0 : Int) (p5_1 : Int) (p5_2 : Nat) (p5_3 : Int) (p5_4 : ByteArray) (p5_5 : Int) (x : List Int × Int) : vc (execK P noG Try.f8.ntmps f8_hn [0, 1, 2, 8, 34, 35] (loopOf Try.f8 5) (f8_l5_D p5_0 p5_1 p5_2 p5_3 p5_4 p5_5 x)) (f8_l5_t p5_0 p5_1 p5_2 p5_3 p5_4 p5_5 x) = vcT (f8_l5_t p5_0 p5_1 p5_2 p5_3 p5_4 p5_5 x) := by kernel_rfl
theorem f8_l5_o (d : Nat) (p5_0 : Int) (p5_1 : Int) (p5_2 : Nat) (p5_3 : Int) (p5_4 : ByteArray) (p5_5 : Int) (x : List Int × Int) : obl (Snd P noG) (Lp P noG Try.f8.ntmps [0] f8_hn d) (RelL Try.f8.ntmps noG [0] (f8_l5_D p5_0 p5_1 p5_2 p5_3 p5_4 p5_5) (f8_l5_E p5_0 p5_1 p5_2 p5_3 p5_4 p5_5)) (f8_l5_t p5_0 p5_1 p5_2 p5_3 p5_4 p5_5 x) := by
 unfold f8_l5_t
 exact (oAsk (fun h0 => (oNeed fun h1 => (oNeed fun h2 => (oNeed fun h3 => (oLeaf (relN (wk_tw [(30500, 30500), (0, 0)] [0, 1, 2, 8, 34, 35] [] (by kernel_rfl) (by kernel_rfl))))))))
 (fun h0 => (oLeaf (relE rfl (wk_tw [(30500, 60500), (0, 0)] [0, 1, 2, 8] [] (by kernel_rfl) (by kernel_rfl))))))
noncomputable def f8_l5_m (p5_0 : Int) (p5_1 : Int) (p5_2 : Nat) (p5_3 : Int) (p5_4 : ByteArray) (p5_5 : Int) (x : List Int × Int) : Option (List Int) := lrun (fun x => mod (f8_l5_t p5_0 p5_1 p5_2 p5_3 p5_4 p5_5 x)) x
theorem f8_l5_e (p5_0 : Int) (p5_1 : Int) (p5_2 : Nat) (p5_3 : Int) (p5_4 : ByteArray) (p5_5 : Int) (x : List Int × Int) : mod (f8_l5_t p5_0 p5_1 p5_2 p5_3 p5_4 p5_5 x) =
 (sel (ilt (Prod.snd x) p5_3)
 (sel (ile 0 (Prod.snd x))
 (sel (ilt (Prod.snd x) ↑p5_2)
 (sel (nlt (0 + Int.toNat (Prod.snd x)) (List.length (Prod.fst x)))
 (some ((.inl ((List.set (Prod.fst x) (0 + Int.toNat (Prod.snd x)) (Prod.snd x), iadd IntKind.i64 (Prod.snd x) 1))))) none) none) none)
 (some ((.inr (Prod.fst x))))) := by kernel_rfl
theorem f8_l5_s0 (d : Nat) {p5_0 : Int} {p5_1 : Int} {p5_2 : Nat} {p5_3 : Int} {p5_4 : ByteArray} {p5_5 : Int} {σ : St} {x : List Int × Int} {z : List Int} (h : f8_l5_m p5_0 p5_1 p5_2 p5_3 p5_4 p5_5 x = some z) (hw : Wk Try.f8.ntmps noG [0] σ (f8_l5_D p5_0 p5_1 p5_2 p5_3 p5_4 p5_5 x)) : Lp P noG Try.f8.ntmps [0] f8_hn (d + 1) (loopOf Try.f8 5) σ (Ex.exit 0) (f8_l5_E0 p5_0 p5_1 p5_2 p5_3 p5_4 p5_5 z) :=
 lp_tree (D := f8_l5_D p5_0 p5_1 p5_2 p5_3 p5_4 p5_5) (E := f8_l5_E p5_0 p5_1 p5_2 p5_3 p5_4 p5_5) (f8_l5_v p5_0 p5_1 p5_2 p5_3 p5_4 p5_5) (f8_l5_o d p5_0 p5_1 p5_2 p5_3 p5_4 p5_5) h hw
def f8_l10_D (p10_10 : Int) (p10_11 : Nat) (p10_13 : ByteArray) (x : Int × List Int × Int) : St := St.mk [(0, SV.av (AV.one (Lf.ptr 0 0 0 0 0))), (2, SV.av (AV.one (Lf.v (Value.int IntKind.i64 p10_10)))), (8, SV.av (AV.one (Lf.own 31000 0 0 p10_11 1))), (10, SV.av (AV.one (Lf.v (Value.int IntKind.i64 (Prod.snd (Prod.snd x))))))] [(0, Blk.cells 55 [Lf.v (Value.string p10_13), Lf.v (Value.int IntKind.i64 (Prod.fst x))]), (31000, Blk.row 3 (K.int IntKind.i64) (Prod.fst (Prod.snd x)))]
def f8_l10_E0 (p10_10 : Int) (p10_11 : Nat) (p10_13 : ByteArray) (y : Int × Int) : St := St.mk [(6, SV.av (AV.one (Lf.v (Value.slice none 0 0)))), (7, SV.av (AV.one (Lf.v (Value.int IntKind.i64 (Prod.fst y)))))] [(0, Blk.cells 55 [Lf.v (Value.string p10_13), Lf.v (Value.int IntKind.i64 (Prod.snd y))])]
def f8_l10_E1 (p10_10 : Int) (p10_11 : Nat) (p10_13 : ByteArray) (y : Int × List Int) : St := St.mk [(8, SV.av (AV.one (Lf.own 61010 0 0 p10_11 1)))] [(0, Blk.cells 55 [Lf.v (Value.string p10_13), Lf.v (Value.int IntKind.i64 (Prod.fst y))]), (61010, Blk.row 3 (K.int IntKind.i64) (Prod.snd y))]
def f8_l10_E (p10_10 : Int) (p10_11 : Nat) (p10_13 : ByteArray) : Int × Int ⊕ Int × List Int → Ex × St
  | (.inl y) => (Ex.ret, f8_l10_E0 p10_10 p10_11 p10_13 y)
  | (.inr y) => (Ex.exit 2, f8_l10_E1 p10_10 p10_11 p10_13 y)
def f8_s0 (x : Int × List Int × Int) (z117 : Int × Int × Int) : List Int := List.set (List.set (Prod.fst (Prod.snd x)) (0 + Int.toNat (Prod.snd (Prod.snd x))) (gd (K.int IntKind.i64) (Prod.fst (Prod.snd x)) (0 + Int.toNat (Prod.fst (Prod.snd z117))))) (0 + Int.toNat (Prod.fst (Prod.snd z117))) (gd (K.int IntKind.i64) (Prod.fst (Prod.snd x)) (0 + Int.toNat (Prod.snd (Prod.snd x))))
noncomputable def f8_l10_t (p10_10 : Int) (p10_11 : Nat) (p10_13 : ByteArray) (x : Int × List Int × Int) : DT (Ex × St) ((Int × List Int × Int) ⊕ (Int × Int ⊕ Int × List Int)) :=
 (.ask (ile 1 (Prod.snd (Prod.snd x)))
 (.call 19 [AV.one (Lf.ptr 0 0 0 0 0), AV.one (Lf.v (Value.int IntKind.i64 (iadd IntKind.i64 (Prod.snd (Prod.snd x)) 1))), AV.one (Lf.v (Value.int IntKind.i64 p10_10))] [(0, Blk.cells 55 [Lf.v (Value.string p10_13), Lf.v (Value.int IntKind.i64 (Prod.fst x))])] (f19_m p10_13 (Prod.fst x) (iadd IntKind.i64 (Prod.snd (Prod.snd x)) 1) p10_10) (fun z117 => SV.tup [AV.one (Lf.v (Value.int IntKind.i64 (Prod.fst (Prod.snd z117)))), AV.one (Lf.v (Value.int IntKind.i64 (Prod.snd (Prod.snd z117))))]) (fun z117 => [(0, Blk.cells 55 [Lf.v (Value.string p10_13), Lf.v (Value.int IntKind.i64 (Prod.fst z117))])]) fun z117 =>
 (.ask (bno (ieq (Prod.snd (Prod.snd z117)) 0))
 (.leaf (Ex.ret, St.mk [(0, SV.av (AV.one (Lf.ptr 0 0 0 0 0))), (2, SV.av (AV.one (Lf.v (Value.int IntKind.i64 p10_10)))), (6, SV.av (AV.one (Lf.v (Value.slice none 0 0)))), (7, SV.av (AV.one (Lf.v (Value.int IntKind.i64 (Prod.snd (Prod.snd z117)))))), (8, SV.av (AV.one (Lf.own 31000 0 0 p10_11 1))), (10, SV.av (AV.one (Lf.v (Value.int IntKind.i64 (Prod.snd (Prod.snd x))))))] [(0, Blk.cells 55 [Lf.v (Value.string p10_13), Lf.v (Value.int IntKind.i64 (Prod.fst z117))]), (31000, Blk.row 3 (K.int IntKind.i64) (Prod.fst (Prod.snd x)))]) (.inr (.inl ((Prod.snd (Prod.snd z117), Prod.fst z117)))))
 (.need (ile 0 (Prod.fst (Prod.snd z117))) true
 (.need (ilt (Prod.fst (Prod.snd z117)) ↑p10_11) true
 (.need (nlt (0 + Int.toNat (Prod.fst (Prod.snd z117))) (List.length (Prod.fst (Prod.snd x)))) true
 (.need (ile 0 (Prod.snd (Prod.snd x))) true
 (.need (ilt (Prod.snd (Prod.snd x)) ↑p10_11) true
 (.need (nlt (0 + Int.toNat (Prod.snd (Prod.snd x))) (List.length (Prod.fst (Prod.snd x)))) true
 (.sure (ile 0 (Prod.snd (Prod.snd x))) true
 (.sure (ilt (Prod.snd (Prod.snd x)) ↑p10_11) true
 (.sure (nlt (0 + Int.toNat (Prod.snd (Prod.snd x))) (List.length (Prod.fst (Prod.snd x)))) true
 (.sure (ile 0 (Prod.fst (Prod.snd z117))) true
 (.sure (ilt (Prod.fst (Prod.snd z117)) ↑p10_11) true
 (.need (nlt (0 + Int.toNat (Prod.fst (Prod.snd z117))) (List.length (List.set (Prod.fst (Prod.snd x)) (0 + Int.toNat (Prod.snd (Prod.snd x))) (gd (K.int IntKind.i64) (Prod.fst (Prod.snd x)) (0 + Int.toNat (Prod.fst (Prod.snd z117))))))) true
 (.leaf (Vam.Ex.normal, St.mk [(0, SV.av (AV.one (Lf.ptr 0 0 0 0 0))), (2, SV.av (AV.one (Lf.v (Value.int IntKind.i64 p10_10)))), (8, SV.av (AV.one (Lf.own 31000 0 0 p10_11 1))), (10, SV.av (AV.one (Lf.v (Value.int IntKind.i64 (isub IntKind.i64 (Prod.snd (Prod.snd x)) 1)))))] [(0, Blk.cells 55 [Lf.v (Value.string p10_13), Lf.v (Value.int IntKind.i64 (Prod.fst z117))]), (31000, Blk.row 3 (K.int IntKind.i64) (f8_s0 x z117))]) (.inl ((Prod.fst z117, f8_s0 x z117, isub IntKind.i64 (Prod.snd (Prod.snd x)) 1))))))))))))))))))
 (.leaf (Ex.exit 2, St.mk [(0, SV.av (AV.one (Lf.ptr 0 0 0 0 0))), (2, SV.av (AV.one (Lf.v (Value.int IntKind.i64 p10_10)))), (8, SV.av (AV.one (Lf.own 31000 0 0 p10_11 1))), (10, SV.av (AV.one (Lf.v (Value.int IntKind.i64 (Prod.snd (Prod.snd x))))))] [(0, Blk.cells 55 [Lf.v (Value.string p10_13), Lf.v (Value.int IntKind.i64 (Prod.fst x))]), (31000, Blk.row 3 (K.int IntKind.i64) (Prod.fst (Prod.snd x)))]) (.inr (.inr ((Prod.fst x, Prod.fst (Prod.snd x)))))))
theorem f8_l10_v (p10_10 : Int) (p10_11 : Nat) (p10_13 : ByteArray) (x : Int × List Int × Int) : vc (execK P noG Try.f8.ntmps f8_hn [0, 2, 6, 7, 8, 10] (loopOf Try.f8 10) (f8_l10_D p10_10 p10_11 p10_13 x)) (f8_l10_t p10_10 p10_11 p10_13 x) = vcT (f8_l10_t p10_10 p10_11 p10_13 x) := by kernel_rfl
theorem f8_l10_o (d : Nat) (p10_10 : Int) (p10_11 : Nat) (p10_13 : ByteArray) (x : Int × List Int × Int) : obl (Snd P noG) (Lp P noG Try.f8.ntmps [0] f8_hn d) (RelL Try.f8.ntmps noG [0] (f8_l10_D p10_10 p10_11 p10_13) (f8_l10_E p10_10 p10_11 p10_13)) (f8_l10_t p10_10 p10_11 p10_13 x) := by
 unfold f8_l10_t
 exact (oAsk (fun h0 => (oCall (fun _ e => f19_s e) fun z117 _ =>
 (oAsk (fun h1 => (oLeaf (relR rfl (wk_tw [(0, 0)] [6, 7] [] (by kernel_rfl) (by kernel_rfl)))))
 (fun h1 => (oNeed fun h2 => (oNeed fun h3 => (oNeed fun h4 => (oNeed fun h5 => (oNeed fun h6 => (oNeed fun h7 => (oSure h5 (oSure h6 (oSure h7 (oSure h2 (oSure h3 (oNeed fun h8 => (oLeaf (relN (wk_tw [(31000, 31000), (0, 0)] [0, 2, 8, 10] [] (by kernel_rfl) (by kernel_rfl))))))))))))))))))))
 (fun h0 => (oLeaf (relE rfl (wk_tw [(31000, 61010), (0, 0)] [8] [] (by kernel_rfl) (by kernel_rfl))))))
noncomputable def f8_l10_m (p10_10 : Int) (p10_11 : Nat) (p10_13 : ByteArray) (x : Int × List Int × Int) : Option (Int × Int ⊕ Int × List Int) := lrun (fun x => mod (f8_l10_t p10_10 p10_11 p10_13 x)) x
theorem f8_l10_e (p10_10 : Int) (p10_11 : Nat) (p10_13 : ByteArray) (x : Int × List Int × Int) : mod (f8_l10_t p10_10 p10_11 p10_13 x) =
 (sel (ile 1 (Prod.snd (Prod.snd x)))
 (Option.bind (f19_m p10_13 (Prod.fst x) (iadd IntKind.i64 (Prod.snd (Prod.snd x)) 1) p10_10) fun z117 =>
 (sel (bno (ieq (Prod.snd (Prod.snd z117)) 0))
 (some ((.inr (.inl ((Prod.snd (Prod.snd z117), Prod.fst z117))))))
 (sel (ile 0 (Prod.fst (Prod.snd z117)))
 (sel (ilt (Prod.fst (Prod.snd z117)) ↑p10_11)
 (sel (nlt (0 + Int.toNat (Prod.fst (Prod.snd z117))) (List.length (Prod.fst (Prod.snd x))))
 (sel (ile 0 (Prod.snd (Prod.snd x)))
 (sel (ilt (Prod.snd (Prod.snd x)) ↑p10_11)
 (sel (nlt (0 + Int.toNat (Prod.snd (Prod.snd x))) (List.length (Prod.fst (Prod.snd x))))
 (sel (nlt (0 + Int.toNat (Prod.fst (Prod.snd z117))) (List.length (List.set (Prod.fst (Prod.snd x)) (0 + Int.toNat (Prod.snd (Prod.snd x))) (gd (K.int IntKind.i64) (Prod.fst (Prod.snd x)) (0 + Int.toNat (Prod.fst (Prod.snd z117)))))))
 (some ((.inl ((Prod.fst z117, f8_s0 x z117, isub IntKind.i64 (Prod.snd (Prod.snd x)) 1))))) none) none) none) none) none) none) none)))
 (some ((.inr (.inr ((Prod.fst x, Prod.fst (Prod.snd x)))))))) := by kernel_rfl
theorem f8_l10_s0 (d : Nat) {p10_10 : Int} {p10_11 : Nat} {p10_13 : ByteArray} {σ : St} {x : Int × List Int × Int} {z : Int × Int} (h : f8_l10_m p10_10 p10_11 p10_13 x = some (.inl z)) (hw : Wk Try.f8.ntmps noG [0] σ (f8_l10_D p10_10 p10_11 p10_13 x)) : Lp P noG Try.f8.ntmps [0] f8_hn (d + 1) (loopOf Try.f8 10) σ (Ex.ret) (f8_l10_E0 p10_10 p10_11 p10_13 z) :=
 lp_tree (D := f8_l10_D p10_10 p10_11 p10_13) (E := f8_l10_E p10_10 p10_11 p10_13) (f8_l10_v p10_10 p10_11 p10_13) (f8_l10_o d p10_10 p10_11 p10_13) h hw
theorem f8_l10_s1 (d : Nat) {p10_10 : Int} {p10_11 : Nat} {p10_13 : ByteArray} {σ : St} {x : Int × List Int × Int} {z : Int × List Int} (h : f8_l10_m p10_10 p10_11 p10_13 x = some (.inr z)) (hw : Wk Try.f8.ntmps noG [0] σ (f8_l10_D p10_10 p10_11 p10_13 x)) : Lp P noG Try.f8.ntmps [0] f8_hn (d + 1) (loopOf Try.f8 10) σ (Ex.exit 2) (f8_l10_E1 p10_10 p10_11 p10_13 z) :=
 lp_tree (D := f8_l10_D p10_10 p10_11 p10_13) (E := f8_l10_E p10_10 p10_11 p10_13) (f8_l10_v p10_10 p10_11 p10_13) (f8_l10_o d p10_10 p10_11 p10_13) h hw
def f8_R (a0_0 : ByteArray) (a0_1 : Int) (a1 : Int) (a2 : Int) : Int × Int × List Int → SV × Hp
  | z => (SV.tup [AV.one (Lf.dat (K.sl (K.int IntKind.i64)) (Prod.snd (Prod.snd z))), AV.one (Lf.v (Value.int IntKind.i64 (Prod.fst (Prod.snd z))))], [(0, Blk.cells 55 [Lf.v (Value.string a0_0), Lf.v (Value.int IntKind.i64 (Prod.fst z))])])
noncomputable def f8_t (a0_0 : ByteArray) (a0_1 : Int) (a1 : Int) (a2 : Int) : DT (SV × Hp) (Int × Int × List Int) :=
 (.sure (false) false
 (.sure (false) false
 (.sure (false) false
 (.ask (ilt a1 0)
 (.sure (ilt a1 0) true
 (.sure (ilt a1 0) true
 (.sure (true) true
 (.sure (true) true
 (.sure (true) true
 (.sure (true) true
 (.sure (true) true
 (.sure (true) true
 (.sure (true) true
 (.leaf (SV.tup [AV.one (Lf.v (Value.slice none 0 0)), AV.one (Lf.v (Value.int IntKind.i64 1))], [(0, Blk.cells 55 [Lf.v (Value.string a0_0), Lf.v (Value.int IntKind.i64 a0_1)])]) ((a0_1, 1, []))))))))))))
 (.sure (ilt a1 0) false
 (.sure (ilt a1 0) false
 (.ask (ilt 64 a1)
 (.sure (ilt 64 a1) true
 (.sure (ilt 64 a1) true
 (.sure (true) true
 (.sure (true) true
 (.sure (true) true
 (.sure (true) true
 (.leaf (SV.tup [AV.one (Lf.v (Value.slice none 0 0)), AV.one (Lf.v (Value.int IntKind.i64 1))], [(0, Blk.cells 55 [Lf.v (Value.string a0_0), Lf.v (Value.int IntKind.i64 a0_1)])]) ((a0_1, 1, [])))))))))
 (.sure (ilt 64 a1) false
 (.sure (ilt 64 a1) false
 (.ask (ilt a2 1)
 (.sure (ilt a2 1) true
 (.sure (ilt a2 1) true
 (.sure (true) true
 (.leaf (SV.tup [AV.one (Lf.v (Value.slice none 0 0)), AV.one (Lf.v (Value.int IntKind.i64 1))], [(0, Blk.cells 55 [Lf.v (Value.string a0_0), Lf.v (Value.int IntKind.i64 a0_1)])]) ((a0_1, 1, []))))))
 (.sure (ilt a2 1) false
 (.sure (ilt a2 1) false
 (.ask (ilt 16 a2)
 (.leaf (SV.tup [AV.one (Lf.v (Value.slice none 0 0)), AV.one (Lf.v (Value.int IntKind.i64 1))], [(0, Blk.cells 55 [Lf.v (Value.string a0_0), Lf.v (Value.int IntKind.i64 a0_1)])]) ((a0_1, 1, [])))
 (.need (ile 0 a1) true
 (.sure (ile a1 a1) true
 (.need (ile (Int.mul 8 a1) 281474976710656) true
 (.loop (loopOf Try.f8 5) (St.mk [(0, SV.av (AV.one (Lf.ptr 0 0 0 0 0))), (1, SV.av (AV.one (Lf.v (Value.int IntKind.i64 a1)))), (2, SV.av (AV.one (Lf.v (Value.int IntKind.i64 a2)))), (8, SV.av (AV.one (Lf.own 32 0 0 (Int.toNat a1) 1))), (34, SV.av (AV.one (Lf.v (Value.int IntKind.i64 ↑(Int.toNat a1))))), (35, SV.av (AV.one (Lf.v (Value.int IntKind.i64 0))))] [(0, Blk.cells 55 [Lf.v (Value.string a0_0), Lf.v (Value.int IntKind.i64 a0_1)]), (32, Blk.row 3 (K.int IntKind.i64) (List.replicate (Int.toNat a1) (0 : Int)))]) (f8_l5_m a1 a2 (Int.toNat a1) (↑(Int.toNat a1)) a0_0 a0_1 (List.replicate (Int.toNat a1) 0, 0)) (Ex.exit 0) (f8_l5_E0 a1 a2 (Int.toNat a1) (↑(Int.toNat a1)) a0_0 a0_1) fun z118 =>
 (.loop2 (loopOf Try.f8 10) (St.mk [(0, SV.av (AV.one (Lf.ptr 0 0 0 0 0))), (2, SV.av (AV.one (Lf.v (Value.int IntKind.i64 a2)))), (8, SV.av (AV.one (Lf.own 60500 0 0 (Int.toNat a1) 1))), (10, SV.av (AV.one (Lf.v (Value.int IntKind.i64 (isub IntKind.i64 a1 1)))))] [(0, Blk.cells 55 [Lf.v (Value.string a0_0), Lf.v (Value.int IntKind.i64 a0_1)]), (60500, Blk.row 3 (K.int IntKind.i64) z118)]) (f8_l10_m a2 (Int.toNat a1) a0_0 (a0_1, z118, isub IntKind.i64 a1 1)) (Ex.ret) (f8_l10_E0 a2 (Int.toNat a1) a0_0) (Ex.exit 2) (f8_l10_E1 a2 (Int.toNat a1) a0_0) (fun z119 =>
 (.leaf (SV.tup [AV.one (Lf.v (Value.slice none 0 0)), AV.one (Lf.v (Value.int IntKind.i64 (Prod.fst z119)))], [(0, Blk.cells 55 [Lf.v (Value.string a0_0), Lf.v (Value.int IntKind.i64 (Prod.snd z119))])]) ((Prod.snd z119, Prod.fst z119, [])))) fun z120 =>
 (.pick false (.need (nle (0 + Int.toNat a1) (List.length (Prod.snd z120))) true
 (.leaf (SV.tup [AV.one (Lf.dat (K.sl (K.int IntKind.i64)) (List.take (Int.toNat a1) (List.drop 0 (Prod.snd z120)))), AV.one (Lf.v (Value.int IntKind.i64 0))], [(0, Blk.cells 55 [Lf.v (Value.string a0_0), Lf.v (Value.int IntKind.i64 (Prod.fst z120))]), (61010, Blk.dead)]) ((Prod.fst z120, 0, List.take (Int.toNat a1) (List.drop 0 (Prod.snd z120)))))))))))))))))))))))))
theorem f8_v (a0_0 : ByteArray) (a0_1 : Int) (a1 : Int) (a2 : Int) : vc (runR P noG Try.f8 f8_hn [AV.one (Lf.ptr 0 0 0 0 0), AV.one (Lf.v (Value.int IntKind.i64 a1)), AV.one (Lf.v (Value.int IntKind.i64 a2))] [(0, Blk.cells 55 [Lf.v (Value.string a0_0), Lf.v (Value.int IntKind.i64 a0_1)])]) (f8_t a0_0 a0_1 a1 a2) = vcT (f8_t a0_0 a0_1 a1 a2) := by kernel_rfl
theorem f8_o (a0_0 : ByteArray) (a0_1 : Int) (a1 : Int) (a2 : Int) : obl (Snd P noG) (Lp P noG Try.f8.ntmps [0] f8_hn 1) (RelF [0] (f8_R a0_0 a0_1 a1 a2)) (f8_t a0_0 a0_1 a1 a2) := by
 unfold f8_t
 exact (oSure rfl (oSure rfl (oSure rfl (oAsk (fun h0 => (oSure h0 (oSure h0 (oSure rfl (oSure rfl (oSure rfl (oSure rfl (oSure rfl (oSure rfl (oSure rfl (oLeaf (wks_tw [(0, 0)] [] (by kernel_rfl) (by kernel_rfl)))))))))))))
 (fun h0 => (oSure h0 (oSure h0 (oAsk (fun h1 => (oSure h1 (oSure h1 (oSure rfl (oSure rfl (oSure rfl (oSure rfl (oLeaf (wks_tw [(0, 0)] [] (by kernel_rfl) (by kernel_rfl))))))))))
 (fun h1 => (oSure h1 (oSure h1 (oAsk (fun h2 => (oSure h2 (oSure h2 (oSure rfl (oLeaf (wks_tw [(0, 0)] [] (by kernel_rfl) (by kernel_rfl)))))))
 (fun h2 => (oSure h2 (oSure h2 (oAsk (fun h3 => (oLeaf (wks_tw [(0, 0)] [] (by kernel_rfl) (by kernel_rfl))))
 (fun h3 => (oNeed fun h4 => (oSure (ile_t.2 (Int.le_refl _)) (oNeed fun h5 => (oLoop (fun _ e => f8_l5_s0 0 e (wk_tw [(32, 30500), (0, 0)] [0, 1, 2, 8, 34, 35] [] (by kernel_rfl) (by kernel_rfl))) fun z118 _ =>
 (oLoop2 (fun _ e => f8_l10_s0 0 e (wk_tw [(60500, 31000), (0, 0)] [0, 2, 8, 10] [] (by kernel_rfl) (by kernel_rfl))) (fun _ e => f8_l10_s1 0 e (wk_tw [(60500, 31000), (0, 0)] [0, 2, 8, 10] [] (by kernel_rfl) (by kernel_rfl))) (fun z119 _ =>
 (oLeaf (wks_tw [(0, 0)] [] (by kernel_rfl) (by kernel_rfl)))) fun z120 _ =>
 (oPick (oNeed fun h6 => (oLeaf (wks_tw [(0, 0)] [] (by kernel_rfl) (by kernel_rfl)))))))))))))))))))))))))))
noncomputable def f8_m (a0_0 : ByteArray) (a0_1 : Int) (a1 : Int) (a2 : Int) : Option (Int × Int × List Int) := mod (f8_t a0_0 a0_1 a1 a2)
theorem f8_e (a0_0 : ByteArray) (a0_1 : Int) (a1 : Int) (a2 : Int) : f8_m a0_0 a0_1 a1 a2 =
 (sel (ilt a1 0)
 (some (((a0_1, 1, []))))
 (sel (ilt 64 a1)
 (some (((a0_1, 1, []))))
 (sel (ilt a2 1)
 (some (((a0_1, 1, []))))
 (sel (ilt 16 a2)
 (some (((a0_1, 1, []))))
 (sel (ile 0 a1)
 (sel (ile (Int.mul 8 a1) 281474976710656)
 (Option.bind (f8_l5_m a1 a2 (Int.toNat a1) (↑(Int.toNat a1)) a0_0 a0_1 (List.replicate (Int.toNat a1) 0, 0)) fun z118 =>
 (Option.bind (f8_l10_m a2 (Int.toNat a1) a0_0 (a0_1, z118, isub IntKind.i64 a1 1)) (Sum.elim (fun z119 =>
 (some (((Prod.snd z119, Prod.fst z119, []))))) fun z120 =>
 (sel (nle (0 + Int.toNat a1) (List.length (Prod.snd z120)))
 (some (((Prod.fst z120, 0, List.take (Int.toNat a1) (List.drop 0 (Prod.snd z120)))))) none)))) none) none))))) := by kernel_rfl
theorem f8_s {a0_0 : ByteArray} {a0_1 : Int} {a1 : Int} {a2 : Int} {z : Int × Int × List Int} (h : f8_m a0_0 a0_1 a1 a2 = some z) : Snd P noG 8 [AV.one (Lf.ptr 0 0 0 0 0), AV.one (Lf.v (Value.int IntKind.i64 a1)), AV.one (Lf.v (Value.int IntKind.i64 a2))] [(0, Blk.cells 55 [Lf.v (Value.string a0_0), Lf.v (Value.int IntKind.i64 a0_1)])] (SV.tup [AV.one (Lf.dat (K.sl (K.int IntKind.i64)) (Prod.snd (Prod.snd z))), AV.one (Lf.v (Value.int IntKind.i64 (Prod.fst (Prod.snd z))))]) [(0, Blk.cells 55 [Lf.v (Value.string a0_0), Lf.v (Value.int IntKind.i64 (Prod.fst z))])] :=
 snd_tree (hn := f8_hn) 1 (f8_R a0_0 a0_1 a1 a2) mixed (by kernel_rfl) (by kernel_rfl) (by kernel_rfl) (by kernel_rfl) (by kernel_rfl) (f8_v a0_0 a0_1 a1 a2) (f8_o a0_0 a0_1 a1 a2) h
def f10_hn : Hn := Hn.mk [] [] [] [60410] [(5, [0, 4, 5, 14, 15, 16])]
def f10_l4_D (p4_0 : List Int) (p4_1 : Nat) (p4_2 : Int) (x : List Int × List Bool × Int) : St := St.mk [(0, SV.av (AV.one (Lf.dat (K.sl (K.int IntKind.i64)) p4_0))), (4, SV.av (AV.one (Lf.own 30400 0 0 p4_1 1))), (5, SV.av (AV.one (Lf.own 30401 0 0 p4_1 1))), (14, SV.av (AV.one (Lf.dat (K.sl (K.int IntKind.i64)) p4_0))), (15, SV.av (AV.one (Lf.v (Value.int IntKind.i64 p4_2)))), (16, SV.av (AV.one (Lf.v (Value.int IntKind.i64 (Prod.snd (Prod.snd x))))))] [(30400, Blk.row 3 (K.int IntKind.i64) (Prod.fst x)), (30401, Blk.row 4 K.bool (Prod.fst (Prod.snd x)))]
def f10_l4_E0 (p4_0 : List Int) (p4_1 : Nat) (p4_2 : Int) (y : Unit) : St := St.mk [(2, SV.av (AV.one (Lf.v (Value.slice none 0 0)))), (3, SV.av (AV.one (Lf.v (Value.bool false))))] []
def f10_l4_E1 (p4_0 : List Int) (p4_1 : Nat) (p4_2 : Int) (y : List Int) : St := St.mk [(4, SV.av (AV.one (Lf.own 60410 0 0 p4_1 1)))] [(60410, Blk.row 3 (K.int IntKind.i64) y)]
def f10_l4_E (p4_0 : List Int) (p4_1 : Nat) (p4_2 : Int) : Unit ⊕ List Int → Ex × St
  | (.inl y) => (Ex.ret, f10_l4_E0 p4_0 p4_1 p4_2 y)
  | (.inr y) => (Ex.exit 0, f10_l4_E1 p4_0 p4_1 p4_2 y)
noncomputable def f10_l4_t (p4_0 : List Int) (p4_1 : Nat) (p4_2 : Int) (x : List Int × List Bool × Int) : DT (Ex × St) ((List Int × List Bool × Int) ⊕ (Unit ⊕ List Int)) :=
 (.ask (ilt (Prod.snd (Prod.snd x)) p4_2)
 (.need (ile 0 (Prod.snd (Prod.snd x))) true
 (.need (ilt (Prod.snd (Prod.snd x)) (llen p4_0)) true
 (.ask (ilt (gd (K.int IntKind.i64) p4_0 (Int.toNat (Prod.snd (Prod.snd x)))) 0)
 (.sure (ilt (gd (K.int IntKind.i64) p4_0 (Int.toNat (Prod.snd (Prod.snd x)))) 0) true
 (.sure (ilt (gd (K.int IntKind.i64) p4_0 (Int.toNat (Prod.snd (Prod.snd x)))) 0) true
 (.sure (ilt (gd (K.int IntKind.i64) p4_0 (Int.toNat (Prod.snd (Prod.snd x)))) 0) true
 (.sure (ilt (gd (K.int IntKind.i64) p4_0 (Int.toNat (Prod.snd (Prod.snd x)))) 0) true
 (.sure (true) true
 (.sure (true) true
 (.sure (true) true
 (.sure (true) true
 (.sure (true) true
 (.sure (true) true
 (.leaf (Ex.ret, St.mk [(0, SV.av (AV.one (Lf.dat (K.sl (K.int IntKind.i64)) p4_0))), (2, SV.av (AV.one (Lf.v (Value.slice none 0 0)))), (3, SV.av (AV.one (Lf.v (Value.bool false)))), (4, SV.av (AV.one (Lf.own 30400 0 0 p4_1 1))), (5, SV.av (AV.one (Lf.own 30401 0 0 p4_1 1))), (14, SV.av (AV.one (Lf.dat (K.sl (K.int IntKind.i64)) p4_0))), (15, SV.av (AV.one (Lf.v (Value.int IntKind.i64 p4_2)))), (16, SV.av (AV.one (Lf.v (Value.int IntKind.i64 (Prod.snd (Prod.snd x))))))] [(30400, Blk.row 3 (K.int IntKind.i64) (Prod.fst x)), (30401, Blk.row 4 K.bool (Prod.fst (Prod.snd x)))]) (.inr (.inl (()))))))))))))))
 (.sure (ilt (gd (K.int IntKind.i64) p4_0 (Int.toNat (Prod.snd (Prod.snd x)))) 0) false
 (.sure (ilt (gd (K.int IntKind.i64) p4_0 (Int.toNat (Prod.snd (Prod.snd x)))) 0) false
 (.sure (ilt (gd (K.int IntKind.i64) p4_0 (Int.toNat (Prod.snd (Prod.snd x)))) 0) false
 (.sure (ilt (gd (K.int IntKind.i64) p4_0 (Int.toNat (Prod.snd (Prod.snd x)))) 0) false
 (.ask (ile (llen p4_0) (gd (K.int IntKind.i64) p4_0 (Int.toNat (Prod.snd (Prod.snd x)))))
 (.sure (ile (llen p4_0) (gd (K.int IntKind.i64) p4_0 (Int.toNat (Prod.snd (Prod.snd x))))) true
 (.sure (ile (llen p4_0) (gd (K.int IntKind.i64) p4_0 (Int.toNat (Prod.snd (Prod.snd x))))) true
 (.sure (ile (llen p4_0) (gd (K.int IntKind.i64) p4_0 (Int.toNat (Prod.snd (Prod.snd x))))) true
 (.sure (ile (llen p4_0) (gd (K.int IntKind.i64) p4_0 (Int.toNat (Prod.snd (Prod.snd x))))) true
 (.sure (true) true
 (.leaf (Ex.ret, St.mk [(0, SV.av (AV.one (Lf.dat (K.sl (K.int IntKind.i64)) p4_0))), (2, SV.av (AV.one (Lf.v (Value.slice none 0 0)))), (3, SV.av (AV.one (Lf.v (Value.bool false)))), (4, SV.av (AV.one (Lf.own 30400 0 0 p4_1 1))), (5, SV.av (AV.one (Lf.own 30401 0 0 p4_1 1))), (14, SV.av (AV.one (Lf.dat (K.sl (K.int IntKind.i64)) p4_0))), (15, SV.av (AV.one (Lf.v (Value.int IntKind.i64 p4_2)))), (16, SV.av (AV.one (Lf.v (Value.int IntKind.i64 (Prod.snd (Prod.snd x))))))] [(30400, Blk.row 3 (K.int IntKind.i64) (Prod.fst x)), (30401, Blk.row 4 K.bool (Prod.fst (Prod.snd x)))]) (.inr (.inl (())))))))))
 (.sure (ile (llen p4_0) (gd (K.int IntKind.i64) p4_0 (Int.toNat (Prod.snd (Prod.snd x))))) false
 (.sure (ile (llen p4_0) (gd (K.int IntKind.i64) p4_0 (Int.toNat (Prod.snd (Prod.snd x))))) false
 (.need (ile 0 (gd (K.int IntKind.i64) p4_0 (Int.toNat (Prod.snd (Prod.snd x))))) true
 (.need (ilt (gd (K.int IntKind.i64) p4_0 (Int.toNat (Prod.snd (Prod.snd x)))) ↑p4_1) true
 (.sure (ile (llen p4_0) (gd (K.int IntKind.i64) p4_0 (Int.toNat (Prod.snd (Prod.snd x))))) false
 (.need (nlt (0 + Int.toNat (gd (K.int IntKind.i64) p4_0 (Int.toNat (Prod.snd (Prod.snd x))))) (List.length (Prod.fst (Prod.snd x)))) true
 (.sure (ile (llen p4_0) (gd (K.int IntKind.i64) p4_0 (Int.toNat (Prod.snd (Prod.snd x))))) false
 (.ask (gd K.bool (Prod.fst (Prod.snd x)) (0 + Int.toNat (gd (K.int IntKind.i64) p4_0 (Int.toNat (Prod.snd (Prod.snd x))))))
 (.leaf (Ex.ret, St.mk [(0, SV.av (AV.one (Lf.dat (K.sl (K.int IntKind.i64)) p4_0))), (2, SV.av (AV.one (Lf.v (Value.slice none 0 0)))), (3, SV.av (AV.one (Lf.v (Value.bool false)))), (4, SV.av (AV.one (Lf.own 30400 0 0 p4_1 1))), (5, SV.av (AV.one (Lf.own 30401 0 0 p4_1 1))), (14, SV.av (AV.one (Lf.dat (K.sl (K.int IntKind.i64)) p4_0))), (15, SV.av (AV.one (Lf.v (Value.int IntKind.i64 p4_2)))), (16, SV.av (AV.one (Lf.v (Value.int IntKind.i64 (Prod.snd (Prod.snd x))))))] [(30400, Blk.row 3 (K.int IntKind.i64) (Prod.fst x)), (30401, Blk.row 4 K.bool (Prod.fst (Prod.snd x)))]) (.inr (.inl (()))))
 (.sure (ile 0 (gd (K.int IntKind.i64) p4_0 (Int.toNat (Prod.snd (Prod.snd x))))) true
 (.sure (ilt (gd (K.int IntKind.i64) p4_0 (Int.toNat (Prod.snd (Prod.snd x)))) ↑p4_1) true
 (.need (nlt (0 + Int.toNat (gd (K.int IntKind.i64) p4_0 (Int.toNat (Prod.snd (Prod.snd x))))) (List.length (Prod.fst x))) true
 (.sure (ile 0 (gd (K.int IntKind.i64) p4_0 (Int.toNat (Prod.snd (Prod.snd x))))) true
 (.sure (ilt (gd (K.int IntKind.i64) p4_0 (Int.toNat (Prod.snd (Prod.snd x)))) ↑p4_1) true
 (.sure (nlt (0 + Int.toNat (gd (K.int IntKind.i64) p4_0 (Int.toNat (Prod.snd (Prod.snd x))))) (List.length (Prod.fst (Prod.snd x)))) true
 (.leaf (Vam.Ex.normal, St.mk [(0, SV.av (AV.one (Lf.dat (K.sl (K.int IntKind.i64)) p4_0))), (4, SV.av (AV.one (Lf.own 30400 0 0 p4_1 1))), (5, SV.av (AV.one (Lf.own 30401 0 0 p4_1 1))), (14, SV.av (AV.one (Lf.dat (K.sl (K.int IntKind.i64)) p4_0))), (15, SV.av (AV.one (Lf.v (Value.int IntKind.i64 p4_2)))), (16, SV.av (AV.one (Lf.v (Value.int IntKind.i64 (iadd IntKind.i64 (Prod.snd (Prod.snd x)) 1)))))] [(30400, Blk.row 3 (K.int IntKind.i64) (List.set (Prod.fst x) (0 + Int.toNat (gd (K.int IntKind.i64) p4_0 (Int.toNat (Prod.snd (Prod.snd x))))) (Prod.snd (Prod.snd x)))), (30401, Blk.row 4 K.bool (List.set (Prod.fst (Prod.snd x)) (0 + Int.toNat (gd (K.int IntKind.i64) p4_0 (Int.toNat (Prod.snd (Prod.snd x))))) true))]) (.inl ((List.set (Prod.fst x) (0 + Int.toNat (gd (K.int IntKind.i64) p4_0 (Int.toNat (Prod.snd (Prod.snd x))))) (Prod.snd (Prod.snd x)), List.set (Prod.fst (Prod.snd x)) (0 + Int.toNat (gd (K.int IntKind.i64) p4_0 (Int.toNat (Prod.snd (Prod.snd x))))) true, iadd IntKind.i64 (Prod.snd (Prod.snd x)) 1))))))))))))))))))))))))))
 (.leaf (Ex.exit 0, St.mk [(0, SV.av (AV.one (Lf.dat (K.sl (K.int IntKind.i64)) p4_0))), (4, SV.av (AV.one (Lf.own 30400 0 0 p4_1 1))), (5, SV.av (AV.one (Lf.own 30401 0 0 p4_1 1))), (14, SV.av (AV.one (Lf.dat (K.sl (K.int IntKind.i64)) p4_0))), (15, SV.av (AV.one (Lf.v (Value.int IntKind.i64 p4_2)))), (16, SV.av (AV.one (Lf.v (Value.int IntKind.i64 (Prod.snd (Prod.snd x))))))] [(30400, Blk.row 3 (K.int IntKind.i64) (Prod.fst x)), (30401, Blk.row 4 K.bool (Prod.fst (Prod.snd x)))]) (.inr (.inr (Prod.fst x)))))
theorem f10_l4_v (p4_0 : List Int) (p4_1 : Nat) (p4_2 : Int) (x : List Int × List Bool × Int) : vc (execK P noG Try.f10.ntmps f10_hn [0, 2, 3, 4, 5, 14, 15, 16] (loopOf Try.f10 4) (f10_l4_D p4_0 p4_1 p4_2 x)) (f10_l4_t p4_0 p4_1 p4_2 x) = vcT (f10_l4_t p4_0 p4_1 p4_2 x) := by kernel_rfl
theorem f10_l4_o (d : Nat) (p4_0 : List Int) (p4_1 : Nat) (p4_2 : Int) (x : List Int × List Bool × Int) : obl (Snd P noG) (Lp P noG Try.f10.ntmps [] f10_hn d) (RelL Try.f10.ntmps noG [] (f10_l4_D p4_0 p4_1 p4_2) (f10_l4_E p4_0 p4_1 p4_2)) (f10_l4_t p4_0 p4_1 p4_2 x) := by
 unfold f10_l4_t
 exact (oAsk (fun h0 => (oNeed fun h1 => (oNeed fun h2 => (oAsk (fun h3 => (oSure h3 (oSure h3 (oSure h3 (oSure h3 (oSure rfl (oSure rfl (oSure rfl (oSure rfl (oSure rfl (oSure rfl (oLeaf (relR rfl (wk_tw [] [2, 3] [] (by kernel_rfl) (by kernel_rfl)))))))))))))))
 (fun h3 => (oSure h3 (oSure h3 (oSure h3 (oSure h3 (oAsk (fun h4 => (oSure h4 (oSure h4 (oSure h4 (oSure h4 (oSure rfl (oLeaf (relR rfl (wk_tw [] [2, 3] [] (by kernel_rfl) (by kernel_rfl))))))))))
 (fun h4 => (oSure h4 (oSure h4 (oNeed fun h5 => (oNeed fun h6 => (oSure h4 (oNeed fun h7 => (oSure h4 (oAsk (fun h8 => (oLeaf (relR rfl (wk_tw [] [2, 3] [] (by kernel_rfl) (by kernel_rfl)))))
 (fun h8 => (oSure h5 (oSure h6 (oNeed fun h9 => (oSure h5 (oSure h6 (oSure h7 (oLeaf (relN (wk_tw [(30401, 30401), (30400, 30400)] [0, 4, 5, 14, 15, 16] [] (by kernel_rfl) (by kernel_rfl))))))))))))))))))))))))))))))
 (fun h0 => (oLeaf (relE rfl (wk_tw [(30400, 60410)] [4] [] (by kernel_rfl) (by kernel_rfl))))))
noncomputable def f10_l4_m (p4_0 : List Int) (p4_1 : Nat) (p4_2 : Int) (x : List Int × List Bool × Int) : Option (Unit ⊕ List Int) := lrun (fun x => mod (f10_l4_t p4_0 p4_1 p4_2 x)) x
theorem f10_l4_e (p4_0 : List Int) (p4_1 : Nat) (p4_2 : Int) (x : List Int × List Bool × Int) : mod (f10_l4_t p4_0 p4_1 p4_2 x) =
 (sel (ilt (Prod.snd (Prod.snd x)) p4_2)
 (sel (ile 0 (Prod.snd (Prod.snd x)))
 (sel (ilt (Prod.snd (Prod.snd x)) (llen p4_0))
 (sel (ilt (gd (K.int IntKind.i64) p4_0 (Int.toNat (Prod.snd (Prod.snd x)))) 0)
 (some ((.inr (.inl (())))))
 (sel (ile (llen p4_0) (gd (K.int IntKind.i64) p4_0 (Int.toNat (Prod.snd (Prod.snd x)))))
 (some ((.inr (.inl (())))))
 (sel (ile 0 (gd (K.int IntKind.i64) p4_0 (Int.toNat (Prod.snd (Prod.snd x)))))
 (sel (ilt (gd (K.int IntKind.i64) p4_0 (Int.toNat (Prod.snd (Prod.snd x)))) ↑p4_1)
 (sel (nlt (0 + Int.toNat (gd (K.int IntKind.i64) p4_0 (Int.toNat (Prod.snd (Prod.snd x))))) (List.length (Prod.fst (Prod.snd x))))
 (sel (gd K.bool (Prod.fst (Prod.snd x)) (0 + Int.toNat (gd (K.int IntKind.i64) p4_0 (Int.toNat (Prod.snd (Prod.snd x))))))
 (some ((.inr (.inl (())))))
 (sel (nlt (0 + Int.toNat (gd (K.int IntKind.i64) p4_0 (Int.toNat (Prod.snd (Prod.snd x))))) (List.length (Prod.fst x)))
 (some ((.inl ((List.set (Prod.fst x) (0 + Int.toNat (gd (K.int IntKind.i64) p4_0 (Int.toNat (Prod.snd (Prod.snd x))))) (Prod.snd (Prod.snd x)), List.set (Prod.fst (Prod.snd x)) (0 + Int.toNat (gd (K.int IntKind.i64) p4_0 (Int.toNat (Prod.snd (Prod.snd x))))) true, iadd IntKind.i64 (Prod.snd (Prod.snd x)) 1))))) none)) none) none) none))) none) none)
 (some ((.inr (.inr (Prod.fst x)))))) := by kernel_rfl
theorem f10_l4_s0 (d : Nat) {p4_0 : List Int} {p4_1 : Nat} {p4_2 : Int} {σ : St} {x : List Int × List Bool × Int} {z : Unit} (h : f10_l4_m p4_0 p4_1 p4_2 x = some (.inl z)) (hw : Wk Try.f10.ntmps noG [] σ (f10_l4_D p4_0 p4_1 p4_2 x)) : Lp P noG Try.f10.ntmps [] f10_hn (d + 1) (loopOf Try.f10 4) σ (Ex.ret) (f10_l4_E0 p4_0 p4_1 p4_2 z) :=
 lp_tree (D := f10_l4_D p4_0 p4_1 p4_2) (E := f10_l4_E p4_0 p4_1 p4_2) (f10_l4_v p4_0 p4_1 p4_2) (f10_l4_o d p4_0 p4_1 p4_2) h hw
theorem f10_l4_s1 (d : Nat) {p4_0 : List Int} {p4_1 : Nat} {p4_2 : Int} {σ : St} {x : List Int × List Bool × Int} {z : List Int} (h : f10_l4_m p4_0 p4_1 p4_2 x = some (.inr z)) (hw : Wk Try.f10.ntmps noG [] σ (f10_l4_D p4_0 p4_1 p4_2 x)) : Lp P noG Try.f10.ntmps [] f10_hn (d + 1) (loopOf Try.f10 4) σ (Ex.exit 0) (f10_l4_E1 p4_0 p4_1 p4_2 z) :=
 lp_tree (D := f10_l4_D p4_0 p4_1 p4_2) (E := f10_l4_E p4_0 p4_1 p4_2) (f10_l4_v p4_0 p4_1 p4_2) (f10_l4_o d p4_0 p4_1 p4_2) h hw
def f10_R (a0 : List Int) : List Int × Bool → SV × Hp
  | z => (SV.tup [AV.one (Lf.dat (K.sl (K.int IntKind.i64)) (Prod.fst z)), AV.one (Lf.v (Value.bool (Prod.snd z)))], [])
noncomputable def f10_t (a0 : List Int) : DT (SV × Hp) (List Int × Bool) :=
 (.need (ile 0 (llen a0)) true
 (.sure (ile (llen a0) (llen a0)) true
 (.need (ile (Int.mul 8 (llen a0)) 281474976710656) true
 (.sure (ile 0 (llen a0)) true
 (.sure (ile (llen a0) (llen a0)) true
 (.need (ile (Int.mul 1 (llen a0)) 281474976710656) true
 (.loop2 (loopOf Try.f10 4) (St.mk [(0, SV.av (AV.one (Lf.dat (K.sl (K.int IntKind.i64)) a0))), (4, SV.av (AV.one (Lf.own 10 0 0 (Int.toNat (llen a0)) 1))), (5, SV.av (AV.one (Lf.own 13 0 0 (Int.toNat (llen a0)) 1))), (14, SV.av (AV.one (Lf.dat (K.sl (K.int IntKind.i64)) a0))), (15, SV.av (AV.one (Lf.v (Value.int IntKind.i64 (llen a0))))), (16, SV.av (AV.one (Lf.v (Value.int IntKind.i64 0))))] [(10, Blk.row 3 (K.int IntKind.i64) (List.replicate (Int.toNat (llen a0)) (0 : Int))), (13, Blk.row 4 K.bool (List.replicate (Int.toNat (llen a0)) false))]) (f10_l4_m a0 (Int.toNat (llen a0)) (llen a0) (List.replicate (Int.toNat (llen a0)) 0, List.replicate (Int.toNat (llen a0)) false, 0)) (Ex.ret) (f10_l4_E0 a0 (Int.toNat (llen a0)) (llen a0)) (Ex.exit 0) (f10_l4_E1 a0 (Int.toNat (llen a0)) (llen a0)) (fun z17 =>
 (.leaf (SV.tup [AV.one (Lf.v (Value.slice none 0 0)), AV.one (Lf.v (Value.bool false))], []) (([], false)))) fun z18 =>
 (.pick false (.need (nle (0 + Int.toNat (llen a0)) (List.length z18)) true
 (.leaf (SV.tup [AV.one (Lf.dat (K.sl (K.int IntKind.i64)) (List.take (Int.toNat (llen a0)) (List.drop 0 z18))), AV.one (Lf.v (Value.bool true))], [(60410, Blk.dead)]) ((List.take (Int.toNat (llen a0)) (List.drop 0 z18), true))))))))))))
theorem f10_v (a0 : List Int) : vc (runR P noG Try.f10 f10_hn [AV.one (Lf.dat (K.sl (K.int IntKind.i64)) a0)] []) (f10_t a0) = vcT (f10_t a0) := by kernel_rfl
theorem f10_o (a0 : List Int) : obl (Snd P noG) (Lp P noG Try.f10.ntmps [] f10_hn 1) (RelF [] (f10_R a0)) (f10_t a0) := by
 unfold f10_t
 exact (oNeed fun h0 => (oSure (ile_t.2 (Int.le_refl _)) (oNeed fun h1 => (oSure h0 (oSure (ile_t.2 (Int.le_refl _)) (oNeed fun h2 => (oLoop2 (fun _ e => f10_l4_s0 0 e (wk_tw [(13, 30401), (10, 30400)] [0, 4, 5, 14, 15, 16] [] (by kernel_rfl) (by kernel_rfl))) (fun _ e => f10_l4_s1 0 e (wk_tw [(13, 30401), (10, 30400)] [0, 4, 5, 14, 15, 16] [] (by kernel_rfl) (by kernel_rfl))) (fun z17 _ =>
 (oLeaf (wks_tw [] [] (by kernel_rfl) (by kernel_rfl)))) fun z18 _ =>
 (oPick (oNeed fun h3 => (oLeaf (wks_tw [] [] (by kernel_rfl) (by kernel_rfl))))))))))))
noncomputable def f10_m (a0 : List Int) : Option (List Int × Bool) := mod (f10_t a0)
theorem f10_e (a0 : List Int) : f10_m a0 =
 (sel (ile 0 (llen a0))
 (sel (ile (Int.mul 8 (llen a0)) 281474976710656)
 (sel (ile (Int.mul 1 (llen a0)) 281474976710656)
 (Option.bind (f10_l4_m a0 (Int.toNat (llen a0)) (llen a0) (List.replicate (Int.toNat (llen a0)) 0, List.replicate (Int.toNat (llen a0)) false, 0)) (Sum.elim (fun z17 =>
 (some ((([], false))))) fun z18 =>
 (sel (nle (0 + Int.toNat (llen a0)) (List.length z18))
 (some (((List.take (Int.toNat (llen a0)) (List.drop 0 z18), true)))) none))) none) none) none) := by kernel_rfl
theorem f10_s {a0 : List Int} {z : List Int × Bool} (h : f10_m a0 = some z) : Snd P noG 10 [AV.one (Lf.dat (K.sl (K.int IntKind.i64)) a0)] [] (SV.tup [AV.one (Lf.dat (K.sl (K.int IntKind.i64)) (Prod.fst z)), AV.one (Lf.v (Value.bool (Prod.snd z)))]) [] :=
 snd_tree (hn := f10_hn) 1 (f10_R a0) mixed (by kernel_rfl) (by kernel_rfl) (by kernel_rfl) (by kernel_rfl) (by kernel_rfl) (f10_v a0) (f10_o a0) h
def f11_hn : Hn := Hn.mk [] [] [] [60600] [(7, [1, 8, 28, 29, 30])]
def f11_l6_D (p6_6 : List ByteArray) (p6_7 : Nat) (p6_8 : List Int) (p6_9 : Int) (x : List ByteArray × Int) : St := St.mk [(1, SV.av (AV.one (Lf.dat (K.sl K.str) p6_6))), (8, SV.av (AV.one (Lf.own 30600 0 0 p6_7 1))), (28, SV.av (AV.one (Lf.dat (K.sl (K.int IntKind.i64)) p6_8))), (29, SV.av (AV.one (Lf.v (Value.int IntKind.i64 p6_9)))), (30, SV.av (AV.one (Lf.v (Value.int IntKind.i64 (Prod.snd x)))))] [(30600, Blk.row 9 K.str (Prod.fst x))]
def f11_l6_E0 (p6_6 : List ByteArray) (p6_7 : Nat) (p6_8 : List Int) (p6_9 : Int) (y : List ByteArray) : St := St.mk [(8, SV.av (AV.one (Lf.own 60600 0 0 p6_7 1)))] [(60600, Blk.row 9 K.str y)]
def f11_l6_E (p6_6 : List ByteArray) (p6_7 : Nat) (p6_8 : List Int) (p6_9 : Int) : List ByteArray → Ex × St
  | y => (Ex.exit 0, f11_l6_E0 p6_6 p6_7 p6_8 p6_9 y)
noncomputable def f11_l6_t (p6_6 : List ByteArray) (p6_7 : Nat) (p6_8 : List Int) (p6_9 : Int) (x : List ByteArray × Int) : DT (Ex × St) ((List ByteArray × Int) ⊕ (List ByteArray)) :=
 (.ask (ilt (Prod.snd x) p6_9)
 (.need (ile 0 (Prod.snd x)) true
 (.need (ilt (Prod.snd x) (llen p6_8)) true
 (.need (ile 0 (gd (K.int IntKind.i64) p6_8 (Int.toNat (Prod.snd x)))) true
 (.need (ilt (gd (K.int IntKind.i64) p6_8 (Int.toNat (Prod.snd x))) (llen p6_6)) true
 (.sure (ile 0 (Prod.snd x)) true
 (.need (ilt (Prod.snd x) ↑p6_7) true
 (.need (nlt (0 + Int.toNat (Prod.snd x)) (List.length (Prod.fst x))) true
 (.leaf (Vam.Ex.normal, St.mk [(1, SV.av (AV.one (Lf.dat (K.sl K.str) p6_6))), (8, SV.av (AV.one (Lf.own 30600 0 0 p6_7 1))), (28, SV.av (AV.one (Lf.dat (K.sl (K.int IntKind.i64)) p6_8))), (29, SV.av (AV.one (Lf.v (Value.int IntKind.i64 p6_9)))), (30, SV.av (AV.one (Lf.v (Value.int IntKind.i64 (iadd IntKind.i64 (Prod.snd x) 1)))))] [(30600, Blk.row 9 K.str (List.set (Prod.fst x) (0 + Int.toNat (Prod.snd x)) (gd K.str p6_6 (Int.toNat (gd (K.int IntKind.i64) p6_8 (Int.toNat (Prod.snd x)))))))]) (.inl ((List.set (Prod.fst x) (0 + Int.toNat (Prod.snd x)) (gd K.str p6_6 (Int.toNat (gd (K.int IntKind.i64) p6_8 (Int.toNat (Prod.snd x))))), iadd IntKind.i64 (Prod.snd x) 1)))))))))))
 (.leaf (Ex.exit 0, St.mk [(1, SV.av (AV.one (Lf.dat (K.sl K.str) p6_6))), (8, SV.av (AV.one (Lf.own 30600 0 0 p6_7 1))), (28, SV.av (AV.one (Lf.dat (K.sl (K.int IntKind.i64)) p6_8))), (29, SV.av (AV.one (Lf.v (Value.int IntKind.i64 p6_9)))), (30, SV.av (AV.one (Lf.v (Value.int IntKind.i64 (Prod.snd x)))))] [(30600, Blk.row 9 K.str (Prod.fst x))]) (.inr (Prod.fst x))))
theorem f11_l6_v (p6_6 : List ByteArray) (p6_7 : Nat) (p6_8 : List Int) (p6_9 : Int) (x : List ByteArray × Int) : vc (execK P noG Try.f11.ntmps f11_hn [1, 8, 28, 29, 30] (loopOf Try.f11 6) (f11_l6_D p6_6 p6_7 p6_8 p6_9 x)) (f11_l6_t p6_6 p6_7 p6_8 p6_9 x) = vcT (f11_l6_t p6_6 p6_7 p6_8 p6_9 x) := by kernel_rfl
theorem f11_l6_o (d : Nat) (p6_6 : List ByteArray) (p6_7 : Nat) (p6_8 : List Int) (p6_9 : Int) (x : List ByteArray × Int) : obl (Snd P noG) (Lp P noG Try.f11.ntmps [] f11_hn d) (RelL Try.f11.ntmps noG [] (f11_l6_D p6_6 p6_7 p6_8 p6_9) (f11_l6_E p6_6 p6_7 p6_8 p6_9)) (f11_l6_t p6_6 p6_7 p6_8 p6_9 x) := by
 unfold f11_l6_t
 exact (oAsk (fun h0 => (oNeed fun h1 => (oNeed fun h2 => (oNeed fun h3 => (oNeed fun h4 => (oSure h1 (oNeed fun h5 => (oNeed fun h6 => (oLeaf (relN (wk_tw [(30600, 30600)] [1, 8, 28, 29, 30] [] (by kernel_rfl) (by kernel_rfl))))))))))))
 (fun h0 => (oLeaf (relE rfl (wk_tw [(30600, 60600)] [8] [] (by kernel_rfl) (by kernel_rfl))))))
noncomputable def f11_l6_m (p6_6 : List ByteArray) (p6_7 : Nat) (p6_8 : List Int) (p6_9 : Int) (x : List ByteArray × Int) : Option (List ByteArray) := lrun (fun x => mod (f11_l6_t p6_6 p6_7 p6_8 p6_9 x)) x
theorem f11_l6_e (p6_6 : List ByteArray) (p6_7 : Nat) (p6_8 : List Int) (p6_9 : Int) (x : List ByteArray × Int) : mod (f11_l6_t p6_6 p6_7 p6_8 p6_9 x) =
 (sel (ilt (Prod.snd x) p6_9)
 (sel (ile 0 (Prod.snd x))
 (sel (ilt (Prod.snd x) (llen p6_8))
 (sel (ile 0 (gd (K.int IntKind.i64) p6_8 (Int.toNat (Prod.snd x))))
 (sel (ilt (gd (K.int IntKind.i64) p6_8 (Int.toNat (Prod.snd x))) (llen p6_6))
 (sel (ilt (Prod.snd x) ↑p6_7)
 (sel (nlt (0 + Int.toNat (Prod.snd x)) (List.length (Prod.fst x)))
 (some ((.inl ((List.set (Prod.fst x) (0 + Int.toNat (Prod.snd x)) (gd K.str p6_6 (Int.toNat (gd (K.int IntKind.i64) p6_8 (Int.toNat (Prod.snd x))))), iadd IntKind.i64 (Prod.snd x) 1))))) none) none) none) none) none) none)
 (some ((.inr (Prod.fst x))))) := by kernel_rfl
theorem f11_l6_s0 (d : Nat) {p6_6 : List ByteArray} {p6_7 : Nat} {p6_8 : List Int} {p6_9 : Int} {σ : St} {x : List ByteArray × Int} {z : List ByteArray} (h : f11_l6_m p6_6 p6_7 p6_8 p6_9 x = some z) (hw : Wk Try.f11.ntmps noG [] σ (f11_l6_D p6_6 p6_7 p6_8 p6_9 x)) : Lp P noG Try.f11.ntmps [] f11_hn (d + 1) (loopOf Try.f11 6) σ (Ex.exit 0) (f11_l6_E0 p6_6 p6_7 p6_8 p6_9 z) :=
 lp_tree (D := f11_l6_D p6_6 p6_7 p6_8 p6_9) (E := f11_l6_E p6_6 p6_7 p6_8 p6_9) (f11_l6_v p6_6 p6_7 p6_8 p6_9) (f11_l6_o d p6_6 p6_7 p6_8 p6_9) h hw
def f11_R (a0 : List Int) (a1 : List ByteArray) : List ByteArray × Bool → SV × Hp
  | z => (SV.tup [AV.one (Lf.dat (K.sl K.str) (Prod.fst z)), AV.one (Lf.v (Value.bool (Prod.snd z)))], [])
noncomputable def f11_t (a0 : List Int) (a1 : List ByteArray) : DT (SV × Hp) (List ByteArray × Bool) :=
 (.call 10 [AV.one (Lf.dat (K.sl (K.int IntKind.i64)) a0)] [] (f10_m a0) (fun z42 => SV.tup [AV.one (Lf.dat (K.sl (K.int IntKind.i64)) (Prod.fst z42)), AV.one (Lf.v (Value.bool (Prod.snd z42)))]) (fun z42 => []) fun z42 =>
 (.ask (bno (Prod.snd z42))
 (.sure (bno (Prod.snd z42)) true
 (.sure (bno (Prod.snd z42)) true
 (.sure (bno (Prod.snd z42)) true
 (.sure (bno (Prod.snd z42)) true
 (.sure (bno (Prod.snd z42)) true
 (.sure (true) true
 (.leaf (SV.tup [AV.one (Lf.v (Value.slice none 0 0)), AV.one (Lf.v (Value.bool false))], []) (([], false)))))))))
 (.sure (bno (Prod.snd z42)) false
 (.sure (bno (Prod.snd z42)) false
 (.sure (bno (Prod.snd z42)) false
 (.sure (bno (Prod.snd z42)) false
 (.sure (bno (Prod.snd z42)) false
 (.ask (bno (ieq (llen a1) (llen a0)))
 (.leaf (SV.tup [AV.one (Lf.v (Value.slice none 0 0)), AV.one (Lf.v (Value.bool false))], []) (([], false)))
 (.need (ile 0 (llen a0)) true
 (.sure (ile (llen a0) (llen a0)) true
 (.need (ile (Int.mul 16 (llen a0)) 281474976710656) true
 (.loop (loopOf Try.f11 6) (St.mk [(1, SV.av (AV.one (Lf.dat (K.sl K.str) a1))), (8, SV.av (AV.one (Lf.own 27 0 0 (Int.toNat (llen a0)) 1))), (28, SV.av (AV.one (Lf.dat (K.sl (K.int IntKind.i64)) a0))), (29, SV.av (AV.one (Lf.v (Value.int IntKind.i64 (llen a0))))), (30, SV.av (AV.one (Lf.v (Value.int IntKind.i64 0))))] [(27, Blk.row 9 K.str (List.replicate (Int.toNat (llen a0)) (ByteArray.mk #[])))]) (f11_l6_m a1 (Int.toNat (llen a0)) a0 (llen a0) (List.replicate (Int.toNat (llen a0)) (ByteArray.mk #[]), 0)) (Ex.exit 0) (f11_l6_E0 a1 (Int.toNat (llen a0)) a0 (llen a0)) fun z43 =>
 (.pick false (.need (nle (0 + Int.toNat (llen a0)) (List.length z43)) true
 (.leaf (SV.tup [AV.one (Lf.dat (K.sl K.str) (List.take (Int.toNat (llen a0)) (List.drop 0 z43))), AV.one (Lf.v (Value.bool true))], [(60600, Blk.dead)]) ((List.take (Int.toNat (llen a0)) (List.drop 0 z43), true)))))))))))))))))
theorem f11_v (a0 : List Int) (a1 : List ByteArray) : vc (runR P noG Try.f11 f11_hn [AV.one (Lf.dat (K.sl (K.int IntKind.i64)) a0), AV.one (Lf.dat (K.sl K.str) a1)] []) (f11_t a0 a1) = vcT (f11_t a0 a1) := by kernel_rfl
theorem f11_o (a0 : List Int) (a1 : List ByteArray) : obl (Snd P noG) (Lp P noG Try.f11.ntmps [] f11_hn 1) (RelF [] (f11_R a0 a1)) (f11_t a0 a1) := by
 unfold f11_t
 exact (oCall (fun _ e => f10_s e) fun z42 _ =>
 (oAsk (fun h0 => (oSure h0 (oSure h0 (oSure h0 (oSure h0 (oSure h0 (oSure rfl (oLeaf (wks_tw [] [] (by kernel_rfl) (by kernel_rfl))))))))))
 (fun h0 => (oSure h0 (oSure h0 (oSure h0 (oSure h0 (oSure h0 (oAsk (fun h1 => (oLeaf (wks_tw [] [] (by kernel_rfl) (by kernel_rfl))))
 (fun h1 => (oNeed fun h2 => (oSure (ile_t.2 (Int.le_refl _)) (oNeed fun h3 => (oLoop (fun _ e => f11_l6_s0 0 e (wk_tw [(27, 30600)] [1, 8, 28, 29, 30] [] (by kernel_rfl) (by kernel_rfl))) fun z43 _ =>
 (oPick (oNeed fun h4 => (oLeaf (wks_tw [] [] (by kernel_rfl) (by kernel_rfl)))))))))))))))))))
noncomputable def f11_m (a0 : List Int) (a1 : List ByteArray) : Option (List ByteArray × Bool) := mod (f11_t a0 a1)
theorem f11_e (a0 : List Int) (a1 : List ByteArray) : f11_m a0 a1 =
 (Option.bind (f10_m a0) fun z42 =>
 (sel (bno (Prod.snd z42))
 (some ((([], false))))
 (sel (bno (ieq (llen a1) (llen a0)))
 (some ((([], false))))
 (sel (ile 0 (llen a0))
 (sel (ile (Int.mul 16 (llen a0)) 281474976710656)
 (Option.bind (f11_l6_m a1 (Int.toNat (llen a0)) a0 (llen a0) (List.replicate (Int.toNat (llen a0)) (ByteArray.mk #[]), 0)) fun z43 =>
 (sel (nle (0 + Int.toNat (llen a0)) (List.length z43))
 (some (((List.take (Int.toNat (llen a0)) (List.drop 0 z43), true)))) none)) none) none)))) := by kernel_rfl
theorem f11_s {a0 : List Int} {a1 : List ByteArray} {z : List ByteArray × Bool} (h : f11_m a0 a1 = some z) : Snd P noG 11 [AV.one (Lf.dat (K.sl (K.int IntKind.i64)) a0), AV.one (Lf.dat (K.sl K.str) a1)] [] (SV.tup [AV.one (Lf.dat (K.sl K.str) (Prod.fst z)), AV.one (Lf.v (Value.bool (Prod.snd z)))]) [] :=
 snd_tree (hn := f11_hn) 1 (f11_R a0 a1) mixed (by kernel_rfl) (by kernel_rfl) (by kernel_rfl) (by kernel_rfl) (by kernel_rfl) (f11_v a0 a1) (f11_o a0 a1) h
def f12_hn : Hn := Hn.mk [] [] [] [] [(5, [0, 1, 5])]
def f12_l4_D (p4_0 : List Int) (p4_1 : List Int) (x : Int) : St := St.mk [(0, SV.av (AV.one (Lf.dat (K.sl (K.int IntKind.i64)) p4_0))), (1, SV.av (AV.one (Lf.dat (K.sl (K.int IntKind.i64)) p4_1))), (5, SV.av (AV.one (Lf.v (Value.int IntKind.i64 x))))] []
def f12_l4_E0 (p4_0 : List Int) (p4_1 : List Int) (y : Unit) : St := St.mk [(4, SV.av (AV.one (Lf.v (Value.bool false))))] []
def f12_l4_E1 (p4_0 : List Int) (p4_1 : List Int) (y : Unit) : St := St.mk [] []
def f12_l4_E (p4_0 : List Int) (p4_1 : List Int) : Unit ⊕ Unit → Ex × St
  | (.inl y) => (Ex.ret, f12_l4_E0 p4_0 p4_1 y)
  | (.inr y) => (Ex.exit 0, f12_l4_E1 p4_0 p4_1 y)
noncomputable def f12_l4_t (p4_0 : List Int) (p4_1 : List Int) (x : Int) : DT (Ex × St) ((Int) ⊕ (Unit ⊕ Unit)) :=
 (.ask (ilt x (llen p4_0))
 (.need (ile 0 x) true
 (.sure (ilt x (llen p4_0)) true
 (.sure (ile 0 x) true
 (.need (ilt x (llen p4_1)) true
 (.ask (bno (ieq (gd (K.int IntKind.i64) p4_0 (Int.toNat x)) (gd (K.int IntKind.i64) p4_1 (Int.toNat x))))
 (.leaf (Ex.ret, St.mk [(0, SV.av (AV.one (Lf.dat (K.sl (K.int IntKind.i64)) p4_0))), (1, SV.av (AV.one (Lf.dat (K.sl (K.int IntKind.i64)) p4_1))), (4, SV.av (AV.one (Lf.v (Value.bool false)))), (5, SV.av (AV.one (Lf.v (Value.int IntKind.i64 x))))] []) (.inr (.inl (()))))
 (.leaf (Vam.Ex.normal, St.mk [(0, SV.av (AV.one (Lf.dat (K.sl (K.int IntKind.i64)) p4_0))), (1, SV.av (AV.one (Lf.dat (K.sl (K.int IntKind.i64)) p4_1))), (5, SV.av (AV.one (Lf.v (Value.int IntKind.i64 (iadd IntKind.i64 x 1)))))] []) (.inl (iadd IntKind.i64 x 1))))))))
 (.leaf (Ex.exit 0, St.mk [(0, SV.av (AV.one (Lf.dat (K.sl (K.int IntKind.i64)) p4_0))), (1, SV.av (AV.one (Lf.dat (K.sl (K.int IntKind.i64)) p4_1))), (5, SV.av (AV.one (Lf.v (Value.int IntKind.i64 x))))] []) (.inr (.inr (())))))
theorem f12_l4_v (p4_0 : List Int) (p4_1 : List Int) (x : Int) : vc (execK P noG Try.f12.ntmps f12_hn [0, 1, 4, 5] (loopOf Try.f12 4) (f12_l4_D p4_0 p4_1 x)) (f12_l4_t p4_0 p4_1 x) = vcT (f12_l4_t p4_0 p4_1 x) := by kernel_rfl
theorem f12_l4_o (d : Nat) (p4_0 : List Int) (p4_1 : List Int) (x : Int) : obl (Snd P noG) (Lp P noG Try.f12.ntmps [] f12_hn d) (RelL Try.f12.ntmps noG [] (f12_l4_D p4_0 p4_1) (f12_l4_E p4_0 p4_1)) (f12_l4_t p4_0 p4_1 x) := by
 unfold f12_l4_t
 exact (oAsk (fun h0 => (oNeed fun h1 => (oSure h0 (oSure h1 (oNeed fun h2 => (oAsk (fun h3 => (oLeaf (relR rfl (wk_tw [] [4] [] (by kernel_rfl) (by kernel_rfl)))))
 (fun h3 => (oLeaf (relN (wk_tw [] [0, 1, 5] [] (by kernel_rfl) (by kernel_rfl)))))))))))
 (fun h0 => (oLeaf (relE rfl (wk_tw [] [] [] (by kernel_rfl) (by kernel_rfl))))))
noncomputable def f12_l4_m (p4_0 : List Int) (p4_1 : List Int) (x : Int) : Option (Unit ⊕ Unit) := lrun (fun x => mod (f12_l4_t p4_0 p4_1 x)) x
theorem f12_l4_e (p4_0 : List Int) (p4_1 : List Int) (x : Int) : mod (f12_l4_t p4_0 p4_1 x) =
 (sel (ilt x (llen p4_0))
 (sel (ile 0 x)
 (sel (ilt x (llen p4_1))
 (sel (bno (ieq (gd (K.int IntKind.i64) p4_0 (Int.toNat x)) (gd (K.int IntKind.i64) p4_1 (Int.toNat x))))
 (some ((.inr (.inl (())))))
 (some ((.inl (iadd IntKind.i64 x 1))))) none) none)
 (some ((.inr (.inr (())))))) := by kernel_rfl
theorem f12_l4_s0 (d : Nat) {p4_0 : List Int} {p4_1 : List Int} {σ : St} {x : Int} {z : Unit} (h : f12_l4_m p4_0 p4_1 x = some (.inl z)) (hw : Wk Try.f12.ntmps noG [] σ (f12_l4_D p4_0 p4_1 x)) : Lp P noG Try.f12.ntmps [] f12_hn (d + 1) (loopOf Try.f12 4) σ (Ex.ret) (f12_l4_E0 p4_0 p4_1 z) :=
 lp_tree (D := f12_l4_D p4_0 p4_1) (E := f12_l4_E p4_0 p4_1) (f12_l4_v p4_0 p4_1) (f12_l4_o d p4_0 p4_1) h hw
theorem f12_l4_s1 (d : Nat) {p4_0 : List Int} {p4_1 : List Int} {σ : St} {x : Int} {z : Unit} (h : f12_l4_m p4_0 p4_1 x = some (.inr z)) (hw : Wk Try.f12.ntmps noG [] σ (f12_l4_D p4_0 p4_1 x)) : Lp P noG Try.f12.ntmps [] f12_hn (d + 1) (loopOf Try.f12 4) σ (Ex.exit 0) (f12_l4_E1 p4_0 p4_1 z) :=
 lp_tree (D := f12_l4_D p4_0 p4_1) (E := f12_l4_E p4_0 p4_1) (f12_l4_v p4_0 p4_1) (f12_l4_o d p4_0 p4_1) h hw
def f12_R (a0 : List Int) (a1 : List Int) : Bool → SV × Hp
  | z => (SV.av (AV.one (Lf.v (Value.bool z))), [])
noncomputable def f12_t (a0 : List Int) (a1 : List Int) : DT (SV × Hp) (Bool) :=
 (.ask (bno (ieq (llen a0) (llen a1)))
 (.leaf (SV.av (AV.one (Lf.v (Value.bool false))), []) (false))
 (.loop2 (loopOf Try.f12 4) (St.mk [(0, SV.av (AV.one (Lf.dat (K.sl (K.int IntKind.i64)) a0))), (1, SV.av (AV.one (Lf.dat (K.sl (K.int IntKind.i64)) a1))), (5, SV.av (AV.one (Lf.v (Value.int IntKind.i64 0))))] []) (f12_l4_m a0 a1 0) (Ex.ret) (f12_l4_E0 a0 a1) (Ex.exit 0) (f12_l4_E1 a0 a1) (fun z8 =>
 (.leaf (SV.av (AV.one (Lf.v (Value.bool false))), []) (false))) fun z9 =>
 (.leaf (SV.av (AV.one (Lf.v (Value.bool true))), []) (true))))
theorem f12_v (a0 : List Int) (a1 : List Int) : vc (runR P noG Try.f12 f12_hn [AV.one (Lf.dat (K.sl (K.int IntKind.i64)) a0), AV.one (Lf.dat (K.sl (K.int IntKind.i64)) a1)] []) (f12_t a0 a1) = vcT (f12_t a0 a1) := by kernel_rfl
theorem f12_o (a0 : List Int) (a1 : List Int) : obl (Snd P noG) (Lp P noG Try.f12.ntmps [] f12_hn 1) (RelF [] (f12_R a0 a1)) (f12_t a0 a1) := by
 unfold f12_t
 exact (oAsk (fun h0 => (oLeaf (wks_tw [] [] (by kernel_rfl) (by kernel_rfl))))
 (fun h0 => (oLoop2 (fun _ e => f12_l4_s0 0 e (wk_tw [] [0, 1, 5] [] (by kernel_rfl) (by kernel_rfl))) (fun _ e => f12_l4_s1 0 e (wk_tw [] [0, 1, 5] [] (by kernel_rfl) (by kernel_rfl))) (fun z8 _ =>
 (oLeaf (wks_tw [] [] (by kernel_rfl) (by kernel_rfl)))) fun z9 _ =>
 (oLeaf (wks_tw [] [] (by kernel_rfl) (by kernel_rfl))))))
noncomputable def f12_m (a0 : List Int) (a1 : List Int) : Option (Bool) := mod (f12_t a0 a1)
theorem f12_e (a0 : List Int) (a1 : List Int) : f12_m a0 a1 =
 (sel (bno (ieq (llen a0) (llen a1)))
 (some ((false)))
 (Option.bind (f12_l4_m a0 a1 0) (Sum.elim (fun z8 =>
 (some ((false)))) fun z9 =>
 (some ((true)))))) := by kernel_rfl
theorem f12_s {a0 : List Int} {a1 : List Int} {z : Bool} (h : f12_m a0 a1 = some z) : Snd P noG 12 [AV.one (Lf.dat (K.sl (K.int IntKind.i64)) a0), AV.one (Lf.dat (K.sl (K.int IntKind.i64)) a1)] [] (SV.av (AV.one (Lf.v (Value.bool z)))) [] :=
 snd_tree (hn := f12_hn) 1 (f12_R a0 a1) mixed (by kernel_rfl) (by kernel_rfl) (by kernel_rfl) (by kernel_rfl) (by kernel_rfl) (f12_v a0 a1) (f12_o a0 a1) h
def f13_hn : Hn := Hn.mk [] [] [] [] [(5, [0, 1, 5])]
def f13_l4_D (p4_0 : List ByteArray) (p4_1 : List ByteArray) (x : Int) : St := St.mk [(0, SV.av (AV.one (Lf.dat (K.sl K.str) p4_0))), (1, SV.av (AV.one (Lf.dat (K.sl K.str) p4_1))), (5, SV.av (AV.one (Lf.v (Value.int IntKind.i64 x))))] []
def f13_l4_E0 (p4_0 : List ByteArray) (p4_1 : List ByteArray) (y : Unit) : St := St.mk [(4, SV.av (AV.one (Lf.v (Value.bool false))))] []
def f13_l4_E1 (p4_0 : List ByteArray) (p4_1 : List ByteArray) (y : Unit) : St := St.mk [] []
def f13_l4_E (p4_0 : List ByteArray) (p4_1 : List ByteArray) : Unit ⊕ Unit → Ex × St
  | (.inl y) => (Ex.ret, f13_l4_E0 p4_0 p4_1 y)
  | (.inr y) => (Ex.exit 0, f13_l4_E1 p4_0 p4_1 y)
noncomputable def f13_l4_t (p4_0 : List ByteArray) (p4_1 : List ByteArray) (x : Int) : DT (Ex × St) ((Int) ⊕ (Unit ⊕ Unit)) :=
 (.ask (ilt x (llen p4_0))
 (.need (ile 0 x) true
 (.sure (ilt x (llen p4_0)) true
 (.sure (ile 0 x) true
 (.need (ilt x (llen p4_1)) true
 (.ask (bno (seq (gd K.str p4_0 (Int.toNat x)) (gd K.str p4_1 (Int.toNat x))))
 (.leaf (Ex.ret, St.mk [(0, SV.av (AV.one (Lf.dat (K.sl K.str) p4_0))), (1, SV.av (AV.one (Lf.dat (K.sl K.str) p4_1))), (4, SV.av (AV.one (Lf.v (Value.bool false)))), (5, SV.av (AV.one (Lf.v (Value.int IntKind.i64 x))))] []) (.inr (.inl (()))))
 (.leaf (Vam.Ex.normal, St.mk [(0, SV.av (AV.one (Lf.dat (K.sl K.str) p4_0))), (1, SV.av (AV.one (Lf.dat (K.sl K.str) p4_1))), (5, SV.av (AV.one (Lf.v (Value.int IntKind.i64 (iadd IntKind.i64 x 1)))))] []) (.inl (iadd IntKind.i64 x 1))))))))
 (.leaf (Ex.exit 0, St.mk [(0, SV.av (AV.one (Lf.dat (K.sl K.str) p4_0))), (1, SV.av (AV.one (Lf.dat (K.sl K.str) p4_1))), (5, SV.av (AV.one (Lf.v (Value.int IntKind.i64 x))))] []) (.inr (.inr (())))))
theorem f13_l4_v (p4_0 : List ByteArray) (p4_1 : List ByteArray) (x : Int) : vc (execK P noG Try.f13.ntmps f13_hn [0, 1, 4, 5] (loopOf Try.f13 4) (f13_l4_D p4_0 p4_1 x)) (f13_l4_t p4_0 p4_1 x) = vcT (f13_l4_t p4_0 p4_1 x) := by kernel_rfl
theorem f13_l4_o (d : Nat) (p4_0 : List ByteArray) (p4_1 : List ByteArray) (x : Int) : obl (Snd P noG) (Lp P noG Try.f13.ntmps [] f13_hn d) (RelL Try.f13.ntmps noG [] (f13_l4_D p4_0 p4_1) (f13_l4_E p4_0 p4_1)) (f13_l4_t p4_0 p4_1 x) := by
 unfold f13_l4_t
 exact (oAsk (fun h0 => (oNeed fun h1 => (oSure h0 (oSure h1 (oNeed fun h2 => (oAsk (fun h3 => (oLeaf (relR rfl (wk_tw [] [4] [] (by kernel_rfl) (by kernel_rfl)))))
 (fun h3 => (oLeaf (relN (wk_tw [] [0, 1, 5] [] (by kernel_rfl) (by kernel_rfl)))))))))))
 (fun h0 => (oLeaf (relE rfl (wk_tw [] [] [] (by kernel_rfl) (by kernel_rfl))))))
noncomputable def f13_l4_m (p4_0 : List ByteArray) (p4_1 : List ByteArray) (x : Int) : Option (Unit ⊕ Unit) := lrun (fun x => mod (f13_l4_t p4_0 p4_1 x)) x
theorem f13_l4_e (p4_0 : List ByteArray) (p4_1 : List ByteArray) (x : Int) : mod (f13_l4_t p4_0 p4_1 x) =
 (sel (ilt x (llen p4_0))
 (sel (ile 0 x)
 (sel (ilt x (llen p4_1))
 (sel (bno (seq (gd K.str p4_0 (Int.toNat x)) (gd K.str p4_1 (Int.toNat x))))
 (some ((.inr (.inl (())))))
 (some ((.inl (iadd IntKind.i64 x 1))))) none) none)
 (some ((.inr (.inr (())))))) := by kernel_rfl
theorem f13_l4_s0 (d : Nat) {p4_0 : List ByteArray} {p4_1 : List ByteArray} {σ : St} {x : Int} {z : Unit} (h : f13_l4_m p4_0 p4_1 x = some (.inl z)) (hw : Wk Try.f13.ntmps noG [] σ (f13_l4_D p4_0 p4_1 x)) : Lp P noG Try.f13.ntmps [] f13_hn (d + 1) (loopOf Try.f13 4) σ (Ex.ret) (f13_l4_E0 p4_0 p4_1 z) :=
 lp_tree (D := f13_l4_D p4_0 p4_1) (E := f13_l4_E p4_0 p4_1) (f13_l4_v p4_0 p4_1) (f13_l4_o d p4_0 p4_1) h hw
theorem f13_l4_s1 (d : Nat) {p4_0 : List ByteArray} {p4_1 : List ByteArray} {σ : St} {x : Int} {z : Unit} (h : f13_l4_m p4_0 p4_1 x = some (.inr z)) (hw : Wk Try.f13.ntmps noG [] σ (f13_l4_D p4_0 p4_1 x)) : Lp P noG Try.f13.ntmps [] f13_hn (d + 1) (loopOf Try.f13 4) σ (Ex.exit 0) (f13_l4_E1 p4_0 p4_1 z) :=
 lp_tree (D := f13_l4_D p4_0 p4_1) (E := f13_l4_E p4_0 p4_1) (f13_l4_v p4_0 p4_1) (f13_l4_o d p4_0 p4_1) h hw
def f13_R (a0 : List ByteArray) (a1 : List ByteArray) : Bool → SV × Hp
  | z => (SV.av (AV.one (Lf.v (Value.bool z))), [])
noncomputable def f13_t (a0 : List ByteArray) (a1 : List ByteArray) : DT (SV × Hp) (Bool) :=
 (.ask (bno (ieq (llen a0) (llen a1)))
 (.leaf (SV.av (AV.one (Lf.v (Value.bool false))), []) (false))
 (.loop2 (loopOf Try.f13 4) (St.mk [(0, SV.av (AV.one (Lf.dat (K.sl K.str) a0))), (1, SV.av (AV.one (Lf.dat (K.sl K.str) a1))), (5, SV.av (AV.one (Lf.v (Value.int IntKind.i64 0))))] []) (f13_l4_m a0 a1 0) (Ex.ret) (f13_l4_E0 a0 a1) (Ex.exit 0) (f13_l4_E1 a0 a1) (fun z8 =>
 (.leaf (SV.av (AV.one (Lf.v (Value.bool false))), []) (false))) fun z9 =>
 (.leaf (SV.av (AV.one (Lf.v (Value.bool true))), []) (true))))
theorem f13_v (a0 : List ByteArray) (a1 : List ByteArray) : vc (runR P noG Try.f13 f13_hn [AV.one (Lf.dat (K.sl K.str) a0), AV.one (Lf.dat (K.sl K.str) a1)] []) (f13_t a0 a1) = vcT (f13_t a0 a1) := by kernel_rfl
theorem f13_o (a0 : List ByteArray) (a1 : List ByteArray) : obl (Snd P noG) (Lp P noG Try.f13.ntmps [] f13_hn 1) (RelF [] (f13_R a0 a1)) (f13_t a0 a1) := by
 unfold f13_t
 exact (oAsk (fun h0 => (oLeaf (wks_tw [] [] (by kernel_rfl) (by kernel_rfl))))
 (fun h0 => (oLoop2 (fun _ e => f13_l4_s0 0 e (wk_tw [] [0, 1, 5] [] (by kernel_rfl) (by kernel_rfl))) (fun _ e => f13_l4_s1 0 e (wk_tw [] [0, 1, 5] [] (by kernel_rfl) (by kernel_rfl))) (fun z8 _ =>
 (oLeaf (wks_tw [] [] (by kernel_rfl) (by kernel_rfl)))) fun z9 _ =>
 (oLeaf (wks_tw [] [] (by kernel_rfl) (by kernel_rfl))))))
noncomputable def f13_m (a0 : List ByteArray) (a1 : List ByteArray) : Option (Bool) := mod (f13_t a0 a1)
theorem f13_e (a0 : List ByteArray) (a1 : List ByteArray) : f13_m a0 a1 =
 (sel (bno (ieq (llen a0) (llen a1)))
 (some ((false)))
 (Option.bind (f13_l4_m a0 a1 0) (Sum.elim (fun z8 =>
 (some ((false)))) fun z9 =>
 (some ((true)))))) := by kernel_rfl
theorem f13_s {a0 : List ByteArray} {a1 : List ByteArray} {z : Bool} (h : f13_m a0 a1 = some z) : Snd P noG 13 [AV.one (Lf.dat (K.sl K.str) a0), AV.one (Lf.dat (K.sl K.str) a1)] [] (SV.av (AV.one (Lf.v (Value.bool z)))) [] :=
 snd_tree (hn := f13_hn) 1 (f13_R a0 a1) mixed (by kernel_rfl) (by kernel_rfl) (by kernel_rfl) (by kernel_rfl) (by kernel_rfl) (f13_v a0 a1) (f13_o a0 a1) h
def f7_hn : Hn := Hn.mk [(1000, [(100, 10)]), (1001, [(0, 10)]), (2001, [(2000000, 15)]), (3002, [(2000000, 20), (2000001, 21)]), (4001, [(2000000, 26)]), (5005, [(1000000, 34)]), (5013, [(1000000, 42)]), (5021, [(1000000, 50)])] [] [] [] []
def f7_R  : Bool → SV × Hp
  | z => (SV.av (AV.one (Lf.v (Value.bool z))), [])
noncomputable def f7_t  : DT (SV × Hp) (Bool) :=
 (.call 9 [AV.one (Lf.v (Value.string (ByteArray.mk #[])))] [] (f9_m (ByteArray.mk #[])) (fun z134 => SV.av (AV.one (Lf.ptr 100 0 0 0 0))) (fun z134 => [(100, Blk.cells 55 [Lf.v (Value.string (ByteArray.mk #[])), Lf.v (Value.int IntKind.i64 0)])]) fun z134 =>
 (.call 8 [AV.one (Lf.ptr 0 0 0 0 0), AV.one (Lf.v (Value.int IntKind.i64 3)), AV.one (Lf.v (Value.int IntKind.i64 1))] [(0, Blk.cells 55 [Lf.v (Value.string (ByteArray.mk #[])), Lf.v (Value.int IntKind.i64 0)])] (f8_m (ByteArray.mk #[]) 0 3 1) (fun z150 => SV.tup [AV.one (Lf.dat (K.sl (K.int IntKind.i64)) (Prod.snd (Prod.snd z150))), AV.one (Lf.v (Value.int IntKind.i64 (Prod.fst (Prod.snd z150))))]) (fun z150 => [(0, Blk.cells 55 [Lf.v (Value.string (ByteArray.mk #[])), Lf.v (Value.int IntKind.i64 (Prod.fst z150))])]) fun z150 =>
 (.pick true (.sure (true) true
 (.call 10 [AV.one (Lf.dat (K.sl (K.int IntKind.i64)) [1, 2, 0])] [] (f10_m [1, 2, 0]) (fun z156 => SV.tup [AV.one (Lf.dat (K.sl (K.int IntKind.i64)) (Prod.fst z156)), AV.one (Lf.v (Value.bool (Prod.snd z156)))]) (fun z156 => []) fun z156 =>
 (.pick true (.sure (true) true
 (.pick true (.sure (true) true
 (.call 11 [AV.one (Lf.dat (K.sl (K.int IntKind.i64)) [1, 2, 0]), AV.one (Lf.dat (K.sl K.str) [ByteArray.mk #[97], ByteArray.mk #[98], ByteArray.mk #[99]])] [] (f11_m [1, 2, 0] [ByteArray.mk #[97], ByteArray.mk #[98], ByteArray.mk #[99]]) (fun z165 => SV.tup [AV.one (Lf.dat (K.sl K.str) (Prod.fst z165)), AV.one (Lf.v (Value.bool (Prod.snd z165)))]) (fun z165 => []) fun z165 =>
 (.pick true (.sure (true) true
 (.call 10 [AV.one (Lf.dat (K.sl (K.int IntKind.i64)) [0, 0])] [] (f10_m [0, 0]) (fun z171 => SV.tup [AV.one (Lf.dat (K.sl (K.int IntKind.i64)) (Prod.fst z171)), AV.one (Lf.v (Value.bool (Prod.snd z171)))]) (fun z171 => []) fun z171 =>
 (.ask (ieq (Prod.fst (Prod.snd z150)) 0)
 (.sure (ieq (Prod.fst (Prod.snd z150)) 0) true
 (.sure (ieq (Prod.fst (Prod.snd z150)) 0) true
 (.pick true (.sure (true) true
 (.call 12 [AV.one (Lf.dat (K.sl (K.int IntKind.i64)) (Prod.snd (Prod.snd z150))), AV.one (Lf.dat (K.sl (K.int IntKind.i64)) [1, 2, 0])] [] (f12_m (Prod.snd (Prod.snd z150)) [1, 2, 0]) (fun z179 => SV.av (AV.one (Lf.v (Value.bool z179)))) (fun z179 => []) fun z179 =>
 (.sure (ieq (Prod.fst (Prod.snd z150)) 0) true
 (.ask (z179)
 (.sure (z179) true
 (.ask (Prod.snd z156)
 (.sure (Prod.snd z156) true
 (.sure (Prod.snd z156) true
 (.pick true (.sure (true) true
 (.call 12 [AV.one (Lf.dat (K.sl (K.int IntKind.i64)) (Prod.fst z156)), AV.one (Lf.dat (K.sl (K.int IntKind.i64)) [2, 0, 1])] [] (f12_m (Prod.fst z156) [2, 0, 1]) (fun z187 => SV.av (AV.one (Lf.v (Value.bool z187)))) (fun z187 => []) fun z187 =>
 (.sure (Prod.snd z156) true
 (.ask (z187)
 (.sure (z187) true
 (.ask (Prod.snd z165)
 (.sure (Prod.snd z165) true
 (.sure (Prod.snd z165) true
 (.pick true (.sure (true) true
 (.call 13 [AV.one (Lf.dat (K.sl K.str) (Prod.fst z165)), AV.one (Lf.dat (K.sl K.str) [ByteArray.mk #[98], ByteArray.mk #[99], ByteArray.mk #[97]])] [] (f13_m (Prod.fst z165) [ByteArray.mk #[98], ByteArray.mk #[99], ByteArray.mk #[97]]) (fun z195 => SV.av (AV.one (Lf.v (Value.bool z195)))) (fun z195 => []) fun z195 =>
 (.sure (Prod.snd z165) true
 (.ask (z195)
 (.sure (z195) true
 (.sure (z195) true
 (.leaf (SV.av (AV.one (Lf.v (Value.bool (bno (Prod.snd z171))))), [(10, Blk.cells 55 [Lf.v (Value.string (ByteArray.mk #[])), Lf.v (Value.int IntKind.i64 (Prod.fst z150))]), (15, Blk.dead), (20, Blk.dead), (21, Blk.dead), (26, Blk.dead), (34, Blk.row 3 (K.int IntKind.i64) [1, 2, 0]), (42, Blk.row 3 (K.int IntKind.i64) [2, 0, 1]), (50, Blk.row 9 K.str [ByteArray.mk #[98], ByteArray.mk #[99], ByteArray.mk #[97]])]) (bno (Prod.snd z171)))))
 (.sure (z195) false
 (.sure (z195) false
 (.leaf (SV.av (AV.one (Lf.v (Value.bool false))), [(10, Blk.cells 55 [Lf.v (Value.string (ByteArray.mk #[])), Lf.v (Value.int IntKind.i64 (Prod.fst z150))]), (15, Blk.dead), (20, Blk.dead), (21, Blk.dead), (26, Blk.dead), (34, Blk.row 3 (K.int IntKind.i64) [1, 2, 0]), (42, Blk.row 3 (K.int IntKind.i64) [2, 0, 1]), (50, Blk.row 9 K.str [ByteArray.mk #[98], ByteArray.mk #[99], ByteArray.mk #[97]])]) (false)))))))))))
 (.sure (Prod.snd z165) false
 (.sure (Prod.snd z165) false
 (.sure (Prod.snd z165) false
 (.sure (false) false
 (.sure (false) false
 (.sure (false) false
 (.leaf (SV.av (AV.one (Lf.v (Value.bool false))), [(10, Blk.cells 55 [Lf.v (Value.string (ByteArray.mk #[])), Lf.v (Value.int IntKind.i64 (Prod.fst z150))]), (15, Blk.dead), (20, Blk.dead), (21, Blk.dead), (26, Blk.dead), (34, Blk.row 3 (K.int IntKind.i64) [1, 2, 0]), (42, Blk.row 3 (K.int IntKind.i64) [2, 0, 1])]) (false))))))))))
 (.sure (z187) false
 (.sure (false) false
 (.sure (false) false
 (.sure (false) false
 (.sure (false) false
 (.sure (false) false
 (.sure (false) false
 (.sure (false) false
 (.leaf (SV.av (AV.one (Lf.v (Value.bool false))), [(10, Blk.cells 55 [Lf.v (Value.string (ByteArray.mk #[])), Lf.v (Value.int IntKind.i64 (Prod.fst z150))]), (15, Blk.dead), (20, Blk.dead), (21, Blk.dead), (26, Blk.dead), (34, Blk.row 3 (K.int IntKind.i64) [1, 2, 0]), (42, Blk.row 3 (K.int IntKind.i64) [2, 0, 1])]) (false)))))))))))))))))
 (.sure (Prod.snd z156) false
 (.sure (Prod.snd z156) false
 (.sure (Prod.snd z156) false
 (.sure (false) false
 (.sure (false) false
 (.sure (false) false
 (.sure (false) false
 (.sure (false) false
 (.sure (false) false
 (.sure (false) false
 (.sure (false) false
 (.sure (false) false
 (.leaf (SV.av (AV.one (Lf.v (Value.bool false))), [(10, Blk.cells 55 [Lf.v (Value.string (ByteArray.mk #[])), Lf.v (Value.int IntKind.i64 (Prod.fst z150))]), (15, Blk.dead), (20, Blk.dead), (21, Blk.dead), (26, Blk.dead), (34, Blk.row 3 (K.int IntKind.i64) [1, 2, 0])]) (false))))))))))))))))
 (.sure (z179) false
 (.sure (false) false
 (.sure (false) false
 (.sure (false) false
 (.sure (false) false
 (.sure (false) false
 (.sure (false) false
 (.sure (false) false
 (.sure (false) false
 (.sure (false) false
 (.sure (false) false
 (.sure (false) false
 (.sure (false) false
 (.sure (false) false
 (.leaf (SV.av (AV.one (Lf.v (Value.bool false))), [(10, Blk.cells 55 [Lf.v (Value.string (ByteArray.mk #[])), Lf.v (Value.int IntKind.i64 (Prod.fst z150))]), (15, Blk.dead), (20, Blk.dead), (21, Blk.dead), (26, Blk.dead), (34, Blk.row 3 (K.int IntKind.i64) [1, 2, 0])]) (false)))))))))))))))))))))))
 (.sure (ieq (Prod.fst (Prod.snd z150)) 0) false
 (.sure (ieq (Prod.fst (Prod.snd z150)) 0) false
 (.sure (ieq (Prod.fst (Prod.snd z150)) 0) false
 (.sure (false) false
 (.sure (false) false
 (.sure (false) false
 (.sure (false) false
 (.sure (false) false
 (.sure (false) false
 (.sure (false) false
 (.sure (false) false
 (.sure (false) false
 (.sure (false) false
 (.sure (false) false
 (.sure (false) false
 (.sure (false) false
 (.sure (false) false
 (.sure (false) false
 (.leaf (SV.av (AV.one (Lf.v (Value.bool false))), [(10, Blk.cells 55 [Lf.v (Value.string (ByteArray.mk #[])), Lf.v (Value.int IntKind.i64 (Prod.fst z150))]), (15, Blk.dead), (20, Blk.dead), (21, Blk.dead), (26, Blk.dead)]) (false))))))))))))))))))))))))))))))))))
theorem f7_v  : vc (runR P noG Try.f7 f7_hn [] []) (f7_t ) = vcT (f7_t ) := by kernel_rfl
theorem f7_o  : obl (Snd P noG) (Lp P noG Try.f7.ntmps [] f7_hn 1) (RelF [] (f7_R )) (f7_t ) := by
 unfold f7_t
 exact (oCall (fun _ e => f9_s e) fun z134 _ =>
 (oCall (fun _ e => f8_s e) fun z150 _ =>
 (oPick (oSure rfl (oCall (fun _ e => f10_s e) fun z156 _ =>
 (oPick (oSure rfl (oPick (oSure rfl (oCall (fun _ e => f11_s e) fun z165 _ =>
 (oPick (oSure rfl (oCall (fun _ e => f10_s e) fun z171 _ =>
 (oAsk (fun h0 => (oSure h0 (oSure h0 (oPick (oSure rfl (oCall (fun _ e => f12_s e) fun z179 _ =>
 (oSure h0 (oAsk (fun h1 => (oSure h1 (oAsk (fun h2 => (oSure h2 (oSure h2 (oPick (oSure rfl (oCall (fun _ e => f12_s e) fun z187 _ =>
 (oSure h2 (oAsk (fun h3 => (oSure h3 (oAsk (fun h4 => (oSure h4 (oSure h4 (oPick (oSure rfl (oCall (fun _ e => f13_s e) fun z195 _ =>
 (oSure h4 (oAsk (fun h5 => (oSure h5 (oSure h5 (oLeaf (wks_tw [] [] (by kernel_rfl) (by kernel_rfl))))))
 (fun h5 => (oSure h5 (oSure h5 (oLeaf (wks_tw [] [] (by kernel_rfl) (by kernel_rfl))))))))))))))
 (fun h4 => (oSure h4 (oSure h4 (oSure h4 (oSure rfl (oSure rfl (oSure rfl (oLeaf (wks_tw [] [] (by kernel_rfl) (by kernel_rfl)))))))))))))
 (fun h3 => (oSure h3 (oSure rfl (oSure rfl (oSure rfl (oSure rfl (oSure rfl (oSure rfl (oSure rfl (oLeaf (wks_tw [] [] (by kernel_rfl) (by kernel_rfl))))))))))))))))))))
 (fun h2 => (oSure h2 (oSure h2 (oSure h2 (oSure rfl (oSure rfl (oSure rfl (oSure rfl (oSure rfl (oSure rfl (oSure rfl (oSure rfl (oSure rfl (oLeaf (wks_tw [] [] (by kernel_rfl) (by kernel_rfl)))))))))))))))))))
 (fun h1 => (oSure h1 (oSure rfl (oSure rfl (oSure rfl (oSure rfl (oSure rfl (oSure rfl (oSure rfl (oSure rfl (oSure rfl (oSure rfl (oSure rfl (oSure rfl (oSure rfl (oLeaf (wks_tw [] [] (by kernel_rfl) (by kernel_rfl))))))))))))))))))))))))))
 (fun h0 => (oSure h0 (oSure h0 (oSure h0 (oSure rfl (oSure rfl (oSure rfl (oSure rfl (oSure rfl (oSure rfl (oSure rfl (oSure rfl (oSure rfl (oSure rfl (oSure rfl (oSure rfl (oSure rfl (oSure rfl (oSure rfl (oLeaf (wks_tw [] [] (by kernel_rfl) (by kernel_rfl))))))))))))))))))))))))))))))))))))
noncomputable def f7_m  : Option (Bool) := mod (f7_t )
theorem f7_e  : f7_m  =
 (Option.bind (f9_m (ByteArray.mk #[])) fun z134 =>
 (Option.bind (f8_m (ByteArray.mk #[]) 0 3 1) fun z150 =>
 (Option.bind (f10_m [1, 2, 0]) fun z156 =>
 (Option.bind (f11_m [1, 2, 0] [ByteArray.mk #[97], ByteArray.mk #[98], ByteArray.mk #[99]]) fun z165 =>
 (Option.bind (f10_m [0, 0]) fun z171 =>
 (sel (ieq (Prod.fst (Prod.snd z150)) 0)
 (Option.bind (f12_m (Prod.snd (Prod.snd z150)) [1, 2, 0]) fun z179 =>
 (sel (z179)
 (sel (Prod.snd z156)
 (Option.bind (f12_m (Prod.fst z156) [2, 0, 1]) fun z187 =>
 (sel (z187)
 (sel (Prod.snd z165)
 (Option.bind (f13_m (Prod.fst z165) [ByteArray.mk #[98], ByteArray.mk #[99], ByteArray.mk #[97]]) fun z195 =>
 (sel (z195)
 (some ((bno (Prod.snd z171))))
 (some ((false)))))
 (some ((false))))
 (some ((false)))))
 (some ((false))))
 (some ((false)))))
 (some ((false))))))))) := by kernel_rfl
theorem f7_s  {z : Bool} (h : f7_m  = some z) : Snd P noG 7 [] [] (SV.av (AV.one (Lf.v (Value.bool z)))) [] :=
 snd_tree (hn := f7_hn) 1 (f7_R ) mixed (by kernel_rfl) (by kernel_rfl) (by kernel_rfl) (by kernel_rfl) (by kernel_rfl) (f7_v ) (f7_o ) h
def f3_hn : Hn := Hn.mk [(3001, [(100, 26)]), (3004, [(0, 26)])] [] [] [] []
def f3_R (a0 : ByteArray) (a1 : List ByteArray) : Bool → SV × Hp
  | z => (SV.av (AV.one (Lf.v (Value.bool z))), [])
noncomputable def f3_t (a0 : ByteArray) (a1 : List ByteArray) : DT (SV × Hp) (Bool) :=
 (.ask (ilt 300 (ssz a0))
 (.sure (ilt 300 (ssz a0)) true
 (.sure (ilt 300 (ssz a0)) true
 (.sure (ilt 300 (ssz a0)) true
 (.sure (true) true
 (.call 7 [] [] (f7_m) (fun z160 => SV.av (AV.one (Lf.v (Value.bool z160)))) (fun z160 => []) fun z160 =>
 (.leaf (SV.av (AV.one (Lf.v (Value.bool z160))), []) (z160)))))))
 (.sure (ilt 300 (ssz a0)) false
 (.sure (ilt 300 (ssz a0)) false
 (.sure (ilt 300 (ssz a0)) false
 (.ask (ilt 64 (llen a1))
 (.call 7 [] [] (f7_m) (fun z162 => SV.av (AV.one (Lf.v (Value.bool z162)))) (fun z162 => []) fun z162 =>
 (.leaf (SV.av (AV.one (Lf.v (Value.bool z162))), []) (z162)))
 (.call 9 [AV.one (Lf.v (Value.string a0))] [] (f9_m a0) (fun z166 => SV.av (AV.one (Lf.ptr 100 0 0 0 0))) (fun z166 => [(100, Blk.cells 55 [Lf.v (Value.string a0), Lf.v (Value.int IntKind.i64 0)])]) fun z166 =>
 (.call 8 [AV.one (Lf.ptr 0 0 0 0 0), AV.one (Lf.v (Value.int IntKind.i64 (llen a1))), AV.one (Lf.v (Value.int IntKind.i64 16))] [(0, Blk.cells 55 [Lf.v (Value.string a0), Lf.v (Value.int IntKind.i64 0)])] (f8_m a0 0 (llen a1) 16) (fun z182 => SV.tup [AV.one (Lf.dat (K.sl (K.int IntKind.i64)) (Prod.snd (Prod.snd z182))), AV.one (Lf.v (Value.int IntKind.i64 (Prod.fst (Prod.snd z182))))]) (fun z182 => [(0, Blk.cells 55 [Lf.v (Value.string a0), Lf.v (Value.int IntKind.i64 (Prod.fst z182))])]) fun z182 =>
 (.ask (bno (ieq (Prod.fst (Prod.snd z182)) 0))
 (.ask (ieq (Prod.fst (Prod.snd z182)) 3)
 (.call 7 [] [] (f7_m) (fun z184 => SV.av (AV.one (Lf.v (Value.bool z184)))) (fun z184 => []) fun z184 =>
 (.sure (ieq (Prod.fst (Prod.snd z182)) 3) true
 (.leaf (SV.av (AV.one (Lf.v (Value.bool z184))), [(26, Blk.cells 55 [Lf.v (Value.string a0), Lf.v (Value.int IntKind.i64 (Prod.fst z182))])]) (z184))))
 (.sure (ieq (Prod.fst (Prod.snd z182)) 3) false
 (.leaf (SV.av (AV.one (Lf.v (Value.bool false))), [(26, Blk.cells 55 [Lf.v (Value.string a0), Lf.v (Value.int IntKind.i64 (Prod.fst z182))])]) (false))))
 (.call 10 [AV.one (Lf.dat (K.sl (K.int IntKind.i64)) (Prod.snd (Prod.snd z182)))] [] (f10_m (Prod.snd (Prod.snd z182))) (fun z190 => SV.tup [AV.one (Lf.dat (K.sl (K.int IntKind.i64)) (Prod.fst z190)), AV.one (Lf.v (Value.bool (Prod.snd z190)))]) (fun z190 => []) fun z190 =>
 (.call 10 [AV.one (Lf.dat (K.sl (K.int IntKind.i64)) (Prod.fst z190))] [] (f10_m (Prod.fst z190)) (fun z196 => SV.tup [AV.one (Lf.dat (K.sl (K.int IntKind.i64)) (Prod.fst z196)), AV.one (Lf.v (Value.bool (Prod.snd z196)))]) (fun z196 => []) fun z196 =>
 (.call 11 [AV.one (Lf.dat (K.sl (K.int IntKind.i64)) (Prod.snd (Prod.snd z182))), AV.one (Lf.dat (K.sl K.str) a1)] [] (f11_m (Prod.snd (Prod.snd z182)) a1) (fun z205 => SV.tup [AV.one (Lf.dat (K.sl K.str) (Prod.fst z205)), AV.one (Lf.v (Value.bool (Prod.snd z205)))]) (fun z205 => []) fun z205 =>
 (.call 11 [AV.one (Lf.dat (K.sl (K.int IntKind.i64)) (Prod.fst z190)), AV.one (Lf.dat (K.sl K.str) (Prod.fst z205))] [] (f11_m (Prod.fst z190) (Prod.fst z205)) (fun z214 => SV.tup [AV.one (Lf.dat (K.sl K.str) (Prod.fst z214)), AV.one (Lf.v (Value.bool (Prod.snd z214)))]) (fun z214 => []) fun z214 =>
 (.ask (Prod.snd z190)
 (.sure (Prod.snd z190) true
 (.ask (Prod.snd z196)
 (.sure (Prod.snd z196) true
 (.ask (Prod.snd z205)
 (.sure (Prod.snd z205) true
 (.ask (Prod.snd z214)
 (.sure (Prod.snd z214) true
 (.sure (Prod.snd z214) true
 (.call 12 [AV.one (Lf.dat (K.sl (K.int IntKind.i64)) (Prod.fst z196)), AV.one (Lf.dat (K.sl (K.int IntKind.i64)) (Prod.snd (Prod.snd z182)))] [] (f12_m (Prod.fst z196) (Prod.snd (Prod.snd z182))) (fun z222 => SV.av (AV.one (Lf.v (Value.bool z222)))) (fun z222 => []) fun z222 =>
 (.sure (Prod.snd z214) true
 (.ask (z222)
 (.sure (z222) true
 (.sure (z222) true
 (.call 13 [AV.one (Lf.dat (K.sl K.str) (Prod.fst z214)), AV.one (Lf.dat (K.sl K.str) a1)] [] (f13_m (Prod.fst z214) a1) (fun z230 => SV.av (AV.one (Lf.v (Value.bool z230)))) (fun z230 => []) fun z230 =>
 (.sure (z222) true
 (.ask (z230)
 (.call 7 [] [] (f7_m) (fun z232 => SV.av (AV.one (Lf.v (Value.bool z232)))) (fun z232 => []) fun z232 =>
 (.sure (z230) true
 (.leaf (SV.av (AV.one (Lf.v (Value.bool z232))), [(26, Blk.cells 55 [Lf.v (Value.string a0), Lf.v (Value.int IntKind.i64 (Prod.fst z182))])]) (z232))))
 (.sure (z230) false
 (.leaf (SV.av (AV.one (Lf.v (Value.bool false))), [(26, Blk.cells 55 [Lf.v (Value.string a0), Lf.v (Value.int IntKind.i64 (Prod.fst z182))])]) (false))))))))
 (.sure (z222) false
 (.sure (z222) false
 (.sure (z222) false
 (.sure (false) false
 (.sure (false) false
 (.leaf (SV.av (AV.one (Lf.v (Value.bool false))), [(26, Blk.cells 55 [Lf.v (Value.string a0), Lf.v (Value.int IntKind.i64 (Prod.fst z182))])]) (false))))))))))))
 (.sure (Prod.snd z214) false
 (.sure (Prod.snd z214) false
 (.sure (Prod.snd z214) false
 (.sure (false) false
 (.sure (false) false
 (.sure (false) false
 (.sure (false) false
 (.sure (false) false
 (.sure (false) false
 (.leaf (SV.av (AV.one (Lf.v (Value.bool false))), [(26, Blk.cells 55 [Lf.v (Value.string a0), Lf.v (Value.int IntKind.i64 (Prod.fst z182))])]) (false)))))))))))))
 (.sure (Prod.snd z205) false
 (.sure (false) false
 (.sure (false) false
 (.sure (false) false
 (.sure (false) false
 (.sure (false) false
 (.sure (false) false
 (.sure (false) false
 (.sure (false) false
 (.sure (false) false
 (.sure (false) false
 (.leaf (SV.av (AV.one (Lf.v (Value.bool false))), [(26, Blk.cells 55 [Lf.v (Value.string a0), Lf.v (Value.int IntKind.i64 (Prod.fst z182))])]) (false)))))))))))))))
 (.sure (Prod.snd z196) false
 (.sure (false) false
 (.sure (false) false
 (.sure (false) false
 (.sure (false) false
 (.sure (false) false
 (.sure (false) false
 (.sure (false) false
 (.sure (false) false
 (.sure (false) false
 (.sure (false) false
 (.sure (false) false
 (.sure (false) false
 (.leaf (SV.av (AV.one (Lf.v (Value.bool false))), [(26, Blk.cells 55 [Lf.v (Value.string a0), Lf.v (Value.int IntKind.i64 (Prod.fst z182))])]) (false)))))))))))))))))
 (.sure (Prod.snd z190) false
 (.sure (false) false
 (.sure (false) false
 (.sure (false) false
 (.sure (false) false
 (.sure (false) false
 (.sure (false) false
 (.sure (false) false
 (.sure (false) false
 (.sure (false) false
 (.sure (false) false
 (.sure (false) false
 (.sure (false) false
 (.sure (false) false
 (.sure (false) false
 (.leaf (SV.av (AV.one (Lf.v (Value.bool false))), [(26, Blk.cells 55 [Lf.v (Value.string a0), Lf.v (Value.int IntKind.i64 (Prod.fst z182))])]) (false))))))))))))))))))))))))))))))
theorem f3_v (a0 : ByteArray) (a1 : List ByteArray) : vc (runR P noG Try.f3 f3_hn [AV.one (Lf.v (Value.string a0)), AV.one (Lf.dat (K.sl K.str) a1)] []) (f3_t a0 a1) = vcT (f3_t a0 a1) := by kernel_rfl
theorem f3_o (a0 : ByteArray) (a1 : List ByteArray) : obl (Snd P noG) (Lp P noG Try.f3.ntmps [] f3_hn 1) (RelF [] (f3_R a0 a1)) (f3_t a0 a1) := by
 unfold f3_t
 exact (oAsk (fun h0 => (oSure h0 (oSure h0 (oSure h0 (oSure rfl (oCall (fun _ e => f7_s e) fun z160 _ =>
 (oLeaf (wks_tw [] [] (by kernel_rfl) (by kernel_rfl)))))))))
 (fun h0 => (oSure h0 (oSure h0 (oSure h0 (oAsk (fun h1 => (oCall (fun _ e => f7_s e) fun z162 _ =>
 (oLeaf (wks_tw [] [] (by kernel_rfl) (by kernel_rfl)))))
 (fun h1 => (oCall (fun _ e => f9_s e) fun z166 _ =>
 (oCall (fun _ e => f8_s e) fun z182 _ =>
 (oAsk (fun h2 => (oAsk (fun h3 => (oCall (fun _ e => f7_s e) fun z184 _ =>
 (oSure h3 (oLeaf (wks_tw [] [] (by kernel_rfl) (by kernel_rfl))))))
 (fun h3 => (oSure h3 (oLeaf (wks_tw [] [] (by kernel_rfl) (by kernel_rfl)))))))
 (fun h2 => (oCall (fun _ e => f10_s e) fun z190 _ =>
 (oCall (fun _ e => f10_s e) fun z196 _ =>
 (oCall (fun _ e => f11_s e) fun z205 _ =>
 (oCall (fun _ e => f11_s e) fun z214 _ =>
 (oAsk (fun h3 => (oSure h3 (oAsk (fun h4 => (oSure h4 (oAsk (fun h5 => (oSure h5 (oAsk (fun h6 => (oSure h6 (oSure h6 (oCall (fun _ e => f12_s e) fun z222 _ =>
 (oSure h6 (oAsk (fun h7 => (oSure h7 (oSure h7 (oCall (fun _ e => f13_s e) fun z230 _ =>
 (oSure h7 (oAsk (fun h8 => (oCall (fun _ e => f7_s e) fun z232 _ =>
 (oSure h8 (oLeaf (wks_tw [] [] (by kernel_rfl) (by kernel_rfl))))))
 (fun h8 => (oSure h8 (oLeaf (wks_tw [] [] (by kernel_rfl) (by kernel_rfl)))))))))))
 (fun h7 => (oSure h7 (oSure h7 (oSure h7 (oSure rfl (oSure rfl (oLeaf (wks_tw [] [] (by kernel_rfl) (by kernel_rfl)))))))))))))))
 (fun h6 => (oSure h6 (oSure h6 (oSure h6 (oSure rfl (oSure rfl (oSure rfl (oSure rfl (oSure rfl (oSure rfl (oLeaf (wks_tw [] [] (by kernel_rfl) (by kernel_rfl))))))))))))))))
 (fun h5 => (oSure h5 (oSure rfl (oSure rfl (oSure rfl (oSure rfl (oSure rfl (oSure rfl (oSure rfl (oSure rfl (oSure rfl (oSure rfl (oLeaf (wks_tw [] [] (by kernel_rfl) (by kernel_rfl))))))))))))))))))
 (fun h4 => (oSure h4 (oSure rfl (oSure rfl (oSure rfl (oSure rfl (oSure rfl (oSure rfl (oSure rfl (oSure rfl (oSure rfl (oSure rfl (oSure rfl (oSure rfl (oLeaf (wks_tw [] [] (by kernel_rfl) (by kernel_rfl))))))))))))))))))))
 (fun h3 => (oSure h3 (oSure rfl (oSure rfl (oSure rfl (oSure rfl (oSure rfl (oSure rfl (oSure rfl (oSure rfl (oSure rfl (oSure rfl (oSure rfl (oSure rfl (oSure rfl (oSure rfl (oLeaf (wks_tw [] [] (by kernel_rfl) (by kernel_rfl)))))))))))))))))))))))))))))))))))
noncomputable def f3_m (a0 : ByteArray) (a1 : List ByteArray) : Option (Bool) := mod (f3_t a0 a1)
theorem f3_e (a0 : ByteArray) (a1 : List ByteArray) : f3_m a0 a1 =
 (sel (ilt 300 (ssz a0))
 (Option.bind (f7_m) fun z160 =>
 (some ((z160))))
 (sel (ilt 64 (llen a1))
 (Option.bind (f7_m) fun z162 =>
 (some ((z162))))
 (Option.bind (f9_m a0) fun z166 =>
 (Option.bind (f8_m a0 0 (llen a1) 16) fun z182 =>
 (sel (bno (ieq (Prod.fst (Prod.snd z182)) 0))
 (sel (ieq (Prod.fst (Prod.snd z182)) 3)
 (Option.bind (f7_m) fun z184 =>
 (some ((z184))))
 (some ((false))))
 (Option.bind (f10_m (Prod.snd (Prod.snd z182))) fun z190 =>
 (Option.bind (f10_m (Prod.fst z190)) fun z196 =>
 (Option.bind (f11_m (Prod.snd (Prod.snd z182)) a1) fun z205 =>
 (Option.bind (f11_m (Prod.fst z190) (Prod.fst z205)) fun z214 =>
 (sel (Prod.snd z190)
 (sel (Prod.snd z196)
 (sel (Prod.snd z205)
 (sel (Prod.snd z214)
 (Option.bind (f12_m (Prod.fst z196) (Prod.snd (Prod.snd z182))) fun z222 =>
 (sel (z222)
 (Option.bind (f13_m (Prod.fst z214) a1) fun z230 =>
 (sel (z230)
 (Option.bind (f7_m) fun z232 =>
 (some ((z232))))
 (some ((false)))))
 (some ((false)))))
 (some ((false))))
 (some ((false))))
 (some ((false))))
 (some ((false))))))))))))) := by kernel_rfl
theorem f3_s {a0 : ByteArray} {a1 : List ByteArray} {z : Bool} (h : f3_m a0 a1 = some z) : Snd P noG 3 [AV.one (Lf.v (Value.string a0)), AV.one (Lf.dat (K.sl K.str) a1)] [] (SV.av (AV.one (Lf.v (Value.bool z)))) [] :=
 snd_tree (hn := f3_hn) 1 (f3_R a0 a1) mixed (by kernel_rfl) (by kernel_rfl) (by kernel_rfl) (by kernel_rfl) (by kernel_rfl) (f3_v a0 a1) (f3_o a0 a1) h
def f20_hn : Hn := Hn.mk [] [] [] [] []
def f20_R (a0 : Int) : Bool → SV × Hp
  | z => (SV.av (AV.one (Lf.v (Value.bool z))), [])
noncomputable def f20_t (a0 : Int) : DT (SV × Hp) (Bool) :=
 (.ask (ile 1 a0)
 (.sure (ile 1 a0) true
 (.sure (ile 1 a0) true
 (.leaf (SV.av (AV.one (Lf.v (Value.bool (ile a0 16)))), []) (ile a0 16))))
 (.sure (ile 1 a0) false
 (.sure (ile 1 a0) false
 (.leaf (SV.av (AV.one (Lf.v (Value.bool false))), []) (false)))))
theorem f20_v (a0 : Int) : vc (runR P noG Try.f20 f20_hn [AV.one (Lf.v (Value.int IntKind.i64 a0))] []) (f20_t a0) = vcT (f20_t a0) := by kernel_rfl
theorem f20_o (a0 : Int) : obl (Snd P noG) (Lp P noG Try.f20.ntmps [] f20_hn 1) (RelF [] (f20_R a0)) (f20_t a0) := by
 unfold f20_t
 exact (oAsk (fun h0 => (oSure h0 (oSure h0 (oLeaf (wks_tw [] [] (by kernel_rfl) (by kernel_rfl))))))
 (fun h0 => (oSure h0 (oSure h0 (oLeaf (wks_tw [] [] (by kernel_rfl) (by kernel_rfl)))))))
noncomputable def f20_m (a0 : Int) : Option (Bool) := mod (f20_t a0)
theorem f20_e (a0 : Int) : f20_m a0 =
 (sel (ile 1 a0)
 (some ((ile a0 16)))
 (some ((false)))) := by kernel_rfl
theorem f20_s {a0 : Int} {z : Bool} (h : f20_m a0 = some z) : Snd P noG 20 [AV.one (Lf.v (Value.int IntKind.i64 a0))] [] (SV.av (AV.one (Lf.v (Value.bool z)))) [] :=
 snd_tree (hn := f20_hn) 1 (f20_R a0) mixed (by kernel_rfl) (by kernel_rfl) (by kernel_rfl) (by kernel_rfl) (by kernel_rfl) (f20_v a0) (f20_o a0) h
def f24_hn : Hn := Hn.mk [] [] [] [] [(6, [0, 1, 5, 6])]
def f24_l5_D (p5_0 : Int) (p5_1 : Nat) (p5_2 : ByteArray) (x : Int × List Int × Int) : St := St.mk [(0, SV.av (AV.one (Lf.ptr 0 0 0 0 0))), (1, SV.av (AV.one (Lf.v (Value.int IntKind.i64 p5_0)))), (5, SV.av (AV.one (Lf.own 30500 0 0 p5_1 1))), (6, SV.av (AV.one (Lf.v (Value.int IntKind.i64 (Prod.snd (Prod.snd x))))))] [(0, Blk.cells 41 [Lf.v (Value.string p5_2), Lf.v (Value.int IntKind.i64 (Prod.fst x))]), (30500, Blk.row 5 (K.int IntKind.u8) (Prod.fst (Prod.snd x)))]
def f24_l5_E0 (p5_0 : Int) (p5_1 : Nat) (p5_2 : ByteArray) (y : Int × List Int) : St := St.mk [(5, SV.av (AV.one (Lf.own 60500 0 0 p5_1 1)))] [(0, Blk.cells 41 [Lf.v (Value.string p5_2), Lf.v (Value.int IntKind.i64 (Prod.fst y))]), (60500, Blk.row 5 (K.int IntKind.u8) (Prod.snd y))]
def f24_l5_E (p5_0 : Int) (p5_1 : Nat) (p5_2 : ByteArray) : Int × List Int → Ex × St
  | y => (Ex.exit 0, f24_l5_E0 p5_0 p5_1 p5_2 y)
noncomputable def f24_l5_t (p5_0 : Int) (p5_1 : Nat) (p5_2 : ByteArray) (x : Int × List Int × Int) : DT (Ex × St) ((Int × List Int × Int) ⊕ (Int × List Int)) :=
 (.ask (ilt (Prod.snd (Prod.snd x)) p5_0)
 (.ask (ilt (Prod.fst x) (ssz p5_2))
 (.need (ile 0 (Prod.fst x)) true
 (.sure (ilt (Prod.fst x) (ssz p5_2)) true
 (.need (ile 0 (Prod.snd (Prod.snd x))) true
 (.need (ilt (Prod.snd (Prod.snd x)) ↑p5_1) true
 (.need (nlt (0 + Int.toNat (Prod.snd (Prod.snd x))) (List.length (Prod.fst (Prod.snd x)))) true
 (.leaf (Vam.Ex.normal, St.mk [(0, SV.av (AV.one (Lf.ptr 0 0 0 0 0))), (1, SV.av (AV.one (Lf.v (Value.int IntKind.i64 p5_0)))), (5, SV.av (AV.one (Lf.own 30500 0 0 p5_1 1))), (6, SV.av (AV.one (Lf.v (Value.int IntKind.i64 (iadd IntKind.i64 (Prod.snd (Prod.snd x)) 1)))))] [(0, Blk.cells 41 [Lf.v (Value.string p5_2), Lf.v (Value.int IntKind.i64 (iadd IntKind.i64 (Prod.fst x) 1))]), (30500, Blk.row 5 (K.int IntKind.u8) (List.set (Prod.fst (Prod.snd x)) (0 + Int.toNat (Prod.snd (Prod.snd x))) (bt p5_2 (Prod.fst x))))]) (.inl ((iadd IntKind.i64 (Prod.fst x) 1, List.set (Prod.fst (Prod.snd x)) (0 + Int.toNat (Prod.snd (Prod.snd x))) (bt p5_2 (Prod.fst x)), iadd IntKind.i64 (Prod.snd (Prod.snd x)) 1)))))))))
 (.leaf (Vam.Ex.normal, St.mk [(0, SV.av (AV.one (Lf.ptr 0 0 0 0 0))), (1, SV.av (AV.one (Lf.v (Value.int IntKind.i64 p5_0)))), (5, SV.av (AV.one (Lf.own 30500 0 0 p5_1 1))), (6, SV.av (AV.one (Lf.v (Value.int IntKind.i64 (iadd IntKind.i64 (Prod.snd (Prod.snd x)) 1)))))] [(0, Blk.cells 41 [Lf.v (Value.string p5_2), Lf.v (Value.int IntKind.i64 (iadd IntKind.i64 (Prod.fst x) 1))]), (30500, Blk.row 5 (K.int IntKind.u8) (Prod.fst (Prod.snd x)))]) (.inl ((iadd IntKind.i64 (Prod.fst x) 1, Prod.fst (Prod.snd x), iadd IntKind.i64 (Prod.snd (Prod.snd x)) 1)))))
 (.leaf (Ex.exit 0, St.mk [(0, SV.av (AV.one (Lf.ptr 0 0 0 0 0))), (1, SV.av (AV.one (Lf.v (Value.int IntKind.i64 p5_0)))), (5, SV.av (AV.one (Lf.own 30500 0 0 p5_1 1))), (6, SV.av (AV.one (Lf.v (Value.int IntKind.i64 (Prod.snd (Prod.snd x))))))] [(0, Blk.cells 41 [Lf.v (Value.string p5_2), Lf.v (Value.int IntKind.i64 (Prod.fst x))]), (30500, Blk.row 5 (K.int IntKind.u8) (Prod.fst (Prod.snd x)))]) (.inr ((Prod.fst x, Prod.fst (Prod.snd x))))))
theorem f24_l5_v (p5_0 : Int) (p5_1 : Nat) (p5_2 : ByteArray) (x : Int × List Int × Int) : vc (execK P noG Try.f24.ntmps f24_hn [0, 1, 5, 6] (loopOf Try.f24 5) (f24_l5_D p5_0 p5_1 p5_2 x)) (f24_l5_t p5_0 p5_1 p5_2 x) = vcT (f24_l5_t p5_0 p5_1 p5_2 x) := by kernel_rfl
theorem f24_l5_o (d : Nat) (p5_0 : Int) (p5_1 : Nat) (p5_2 : ByteArray) (x : Int × List Int × Int) : obl (Snd P noG) (Lp P noG Try.f24.ntmps [0] f24_hn d) (RelL Try.f24.ntmps noG [0] (f24_l5_D p5_0 p5_1 p5_2) (f24_l5_E p5_0 p5_1 p5_2)) (f24_l5_t p5_0 p5_1 p5_2 x) := by
 unfold f24_l5_t
 exact (oAsk (fun h0 => (oAsk (fun h1 => (oNeed fun h2 => (oSure h1 (oNeed fun h3 => (oNeed fun h4 => (oNeed fun h5 => (oLeaf (relN (wk_tw [(30500, 30500), (0, 0)] [0, 1, 5, 6] [] (by kernel_rfl) (by kernel_rfl))))))))))
 (fun h1 => (oLeaf (relN (wk_tw [(30500, 30500), (0, 0)] [0, 1, 5, 6] [] (by kernel_rfl) (by kernel_rfl)))))))
 (fun h0 => (oLeaf (relE rfl (wk_tw [(30500, 60500), (0, 0)] [5] [] (by kernel_rfl) (by kernel_rfl))))))
noncomputable def f24_l5_m (p5_0 : Int) (p5_1 : Nat) (p5_2 : ByteArray) (x : Int × List Int × Int) : Option (Int × List Int) := lrun (fun x => mod (f24_l5_t p5_0 p5_1 p5_2 x)) x
theorem f24_l5_e (p5_0 : Int) (p5_1 : Nat) (p5_2 : ByteArray) (x : Int × List Int × Int) : mod (f24_l5_t p5_0 p5_1 p5_2 x) =
 (sel (ilt (Prod.snd (Prod.snd x)) p5_0)
 (sel (ilt (Prod.fst x) (ssz p5_2))
 (sel (ile 0 (Prod.fst x))
 (sel (ile 0 (Prod.snd (Prod.snd x)))
 (sel (ilt (Prod.snd (Prod.snd x)) ↑p5_1)
 (sel (nlt (0 + Int.toNat (Prod.snd (Prod.snd x))) (List.length (Prod.fst (Prod.snd x))))
 (some ((.inl ((iadd IntKind.i64 (Prod.fst x) 1, List.set (Prod.fst (Prod.snd x)) (0 + Int.toNat (Prod.snd (Prod.snd x))) (bt p5_2 (Prod.fst x)), iadd IntKind.i64 (Prod.snd (Prod.snd x)) 1))))) none) none) none) none)
 (some ((.inl ((iadd IntKind.i64 (Prod.fst x) 1, Prod.fst (Prod.snd x), iadd IntKind.i64 (Prod.snd (Prod.snd x)) 1))))))
 (some ((.inr ((Prod.fst x, Prod.fst (Prod.snd x))))))) := by kernel_rfl
theorem f24_l5_s0 (d : Nat) {p5_0 : Int} {p5_1 : Nat} {p5_2 : ByteArray} {σ : St} {x : Int × List Int × Int} {z : Int × List Int} (h : f24_l5_m p5_0 p5_1 p5_2 x = some z) (hw : Wk Try.f24.ntmps noG [0] σ (f24_l5_D p5_0 p5_1 p5_2 x)) : Lp P noG Try.f24.ntmps [0] f24_hn (d + 1) (loopOf Try.f24 5) σ (Ex.exit 0) (f24_l5_E0 p5_0 p5_1 p5_2 z) :=
 lp_tree (D := f24_l5_D p5_0 p5_1 p5_2) (E := f24_l5_E p5_0 p5_1 p5_2) (f24_l5_v p5_0 p5_1 p5_2) (f24_l5_o d p5_0 p5_1 p5_2) h hw
def f24_R (a0_0 : ByteArray) (a0_1 : Int) (a1 : Int) : Int × ByteArray → SV × Hp
  | z => (SV.av (AV.one (Lf.v (Value.string (Prod.snd z)))), [(0, Blk.cells 41 [Lf.v (Value.string a0_0), Lf.v (Value.int IntKind.i64 (Prod.fst z))])])
noncomputable def f24_t (a0_0 : ByteArray) (a0_1 : Int) (a1 : Int) : DT (SV × Hp) (Int × ByteArray) :=
 (.ask (ilt a1 0)
 (.sure (ilt a1 0) true
 (.sure (ilt a1 0) true
 (.sure (true) true
 (.leaf (SV.av (AV.one (Lf.v (Value.string (ByteArray.mk #[])))), [(0, Blk.cells 41 [Lf.v (Value.string a0_0), Lf.v (Value.int IntKind.i64 a0_1)])]) ((a0_1, ByteArray.mk #[]))))))
 (.sure (ilt a1 0) false
 (.sure (ilt a1 0) false
 (.ask (ilt 65536 a1)
 (.leaf (SV.av (AV.one (Lf.v (Value.string (ByteArray.mk #[])))), [(0, Blk.cells 41 [Lf.v (Value.string a0_0), Lf.v (Value.int IntKind.i64 a0_1)])]) ((a0_1, ByteArray.mk #[])))
 (.need (ile 0 a1) true
 (.sure (ile a1 a1) true
 (.need (ile (Int.mul 1 a1) 281474976710656) true
 (.loop (loopOf Try.f24 5) (St.mk [(0, SV.av (AV.one (Lf.ptr 0 0 0 0 0))), (1, SV.av (AV.one (Lf.v (Value.int IntKind.i64 a1)))), (5, SV.av (AV.one (Lf.own 14 0 0 (Int.toNat a1) 1))), (6, SV.av (AV.one (Lf.v (Value.int IntKind.i64 0))))] [(0, Blk.cells 41 [Lf.v (Value.string a0_0), Lf.v (Value.int IntKind.i64 a0_1)]), (14, Blk.row 5 (K.int IntKind.u8) (List.replicate (Int.toNat a1) (0 : Int)))]) (f24_l5_m a1 (Int.toNat a1) a0_0 (a0_1, List.replicate (Int.toNat a1) 0, 0)) (Ex.exit 0) (f24_l5_E0 a1 (Int.toNat a1) a0_0) fun z14 =>
 (.pick false (.need (nle (0 + Int.toNat a1) (List.length (Prod.snd z14))) true
 (.leaf (SV.av (AV.one (Lf.v (Value.string (strOfNums (List.take (Int.toNat a1) (List.drop 0 (Prod.snd z14))))))), [(0, Blk.cells 41 [Lf.v (Value.string a0_0), Lf.v (Value.int IntKind.i64 (Prod.fst z14))]), (60500, Blk.row 5 (K.int IntKind.u8) (Prod.snd z14))]) ((Prod.fst z14, strOfNums (List.take (Int.toNat a1) (List.drop 0 (Prod.snd z14))))))))))))))))
theorem f24_v (a0_0 : ByteArray) (a0_1 : Int) (a1 : Int) : vc (runR P noG Try.f24 f24_hn [AV.one (Lf.ptr 0 0 0 0 0), AV.one (Lf.v (Value.int IntKind.i64 a1))] [(0, Blk.cells 41 [Lf.v (Value.string a0_0), Lf.v (Value.int IntKind.i64 a0_1)])]) (f24_t a0_0 a0_1 a1) = vcT (f24_t a0_0 a0_1 a1) := by kernel_rfl
theorem f24_o (a0_0 : ByteArray) (a0_1 : Int) (a1 : Int) : obl (Snd P noG) (Lp P noG Try.f24.ntmps [0] f24_hn 1) (RelF [0] (f24_R a0_0 a0_1 a1)) (f24_t a0_0 a0_1 a1) := by
 unfold f24_t
 exact (oAsk (fun h0 => (oSure h0 (oSure h0 (oSure rfl (oLeaf (wks_tw [(0, 0)] [] (by kernel_rfl) (by kernel_rfl)))))))
 (fun h0 => (oSure h0 (oSure h0 (oAsk (fun h1 => (oLeaf (wks_tw [(0, 0)] [] (by kernel_rfl) (by kernel_rfl))))
 (fun h1 => (oNeed fun h2 => (oSure (ile_t.2 (Int.le_refl _)) (oNeed fun h3 => (oLoop (fun _ e => f24_l5_s0 0 e (wk_tw [(14, 30500), (0, 0)] [0, 1, 5, 6] [] (by kernel_rfl) (by kernel_rfl))) fun z14 _ =>
 (oPick (oNeed fun h4 => (oLeaf (wks_tw [(0, 0)] [] (by kernel_rfl) (by kernel_rfl)))))))))))))))
noncomputable def f24_m (a0_0 : ByteArray) (a0_1 : Int) (a1 : Int) : Option (Int × ByteArray) := mod (f24_t a0_0 a0_1 a1)
theorem f24_e (a0_0 : ByteArray) (a0_1 : Int) (a1 : Int) : f24_m a0_0 a0_1 a1 =
 (sel (ilt a1 0)
 (some (((a0_1, ByteArray.mk #[]))))
 (sel (ilt 65536 a1)
 (some (((a0_1, ByteArray.mk #[]))))
 (sel (ile 0 a1)
 (sel (ile (Int.mul 1 a1) 281474976710656)
 (Option.bind (f24_l5_m a1 (Int.toNat a1) a0_0 (a0_1, List.replicate (Int.toNat a1) 0, 0)) fun z14 =>
 (sel (nle (0 + Int.toNat a1) (List.length (Prod.snd z14)))
 (some (((Prod.fst z14, strOfNums (List.take (Int.toNat a1) (List.drop 0 (Prod.snd z14))))))) none)) none) none))) := by kernel_rfl
theorem f24_s {a0_0 : ByteArray} {a0_1 : Int} {a1 : Int} {z : Int × ByteArray} (h : f24_m a0_0 a0_1 a1 = some z) : Snd P noG 24 [AV.one (Lf.ptr 0 0 0 0 0), AV.one (Lf.v (Value.int IntKind.i64 a1))] [(0, Blk.cells 41 [Lf.v (Value.string a0_0), Lf.v (Value.int IntKind.i64 a0_1)])] (SV.av (AV.one (Lf.v (Value.string (Prod.snd z))))) [(0, Blk.cells 41 [Lf.v (Value.string a0_0), Lf.v (Value.int IntKind.i64 (Prod.fst z))])] :=
 snd_tree (hn := f24_hn) 1 (f24_R a0_0 a0_1 a1) mixed (by kernel_rfl) (by kernel_rfl) (by kernel_rfl) (by kernel_rfl) (by kernel_rfl) (f24_v a0_0 a0_1 a1) (f24_o a0_0 a0_1 a1) h
def f21_hn : Hn := Hn.mk [(6001, [(0, 0)])] [] [] [] [(5, [0, 1, 2, 8])]
def f21_l4_D (p4_5 : Int) (p4_6 : Int) (p4_7 : ByteArray) (x : Int × Int) : St := St.mk [(0, SV.av (AV.one (Lf.ptr 0 0 0 0 0))), (1, SV.av (AV.one (Lf.v (Value.int IntKind.i64 p4_5)))), (2, SV.av (AV.one (Lf.v (Value.int IntKind.i64 p4_6)))), (8, SV.av (AV.one (Lf.v (Value.int IntKind.i64 (Prod.snd x)))))] [(0, Blk.cells 41 [Lf.v (Value.string p4_7), Lf.v (Value.int IntKind.i64 (Prod.fst x))])]
def f21_l4_E0 (p4_5 : Int) (p4_6 : Int) (p4_7 : ByteArray) (y : Int × Int) : St := St.mk [(6, SV.av (AV.one (Lf.v (Value.int IntKind.i64 (Prod.fst y))))), (7, SV.av (AV.one (Lf.v (Value.int IntKind.i64 0))))] [(0, Blk.cells 41 [Lf.v (Value.string p4_7), Lf.v (Value.int IntKind.i64 (Prod.snd y))])]
def f21_l4_E1 (p4_5 : Int) (p4_6 : Int) (p4_7 : ByteArray) (y : Int) : St := St.mk [] [(0, Blk.cells 41 [Lf.v (Value.string p4_7), Lf.v (Value.int IntKind.i64 y)])]
def f21_l4_E (p4_5 : Int) (p4_6 : Int) (p4_7 : ByteArray) : Int × Int ⊕ Int → Ex × St
  | (.inl y) => (Ex.ret, f21_l4_E0 p4_5 p4_6 p4_7 y)
  | (.inr y) => (Ex.exit 0, f21_l4_E1 p4_5 p4_6 p4_7 y)
noncomputable def f21_l4_t (p4_5 : Int) (p4_6 : Int) (p4_7 : ByteArray) (x : Int × Int) : DT (Ex × St) ((Int × Int) ⊕ (Int × Int ⊕ Int)) :=
 (.ask (ilt (Prod.snd x) p4_6)
 (.call 24 [AV.one (Lf.ptr 0 0 0 0 0), AV.one (Lf.v (Value.int IntKind.i64 2))] [(0, Blk.cells 41 [Lf.v (Value.string p4_7), Lf.v (Value.int IntKind.i64 (Prod.fst x))])] (f24_m p4_7 (Prod.fst x) 2) (fun z78 => SV.av (AV.one (Lf.v (Value.string (Prod.snd z78))))) (fun z78 => [(0, Blk.cells 41 [Lf.v (Value.string p4_7), Lf.v (Value.int IntKind.i64 (Prod.fst z78))])]) fun z78 =>
 (.sure (true) true
 (.need (ilt 0 (ssz (Prod.snd z78))) true
 (.sure (true) true
 (.need (ilt 1 (ssz (Prod.snd z78))) true
 (.need (bno (ieq p4_5 0)) true
 (.ask (ilt (iadd IntKind.i64 (icv IntKind.i64 (bt (Prod.snd z78) 0)) (imul IntKind.i64 256 (icv IntKind.i64 (bt (Prod.snd z78) 1)))) (isub IntKind.i64 65536 (irem 65536 p4_5)))
 (.sure (bno (ieq p4_5 0)) true
 (.leaf (Ex.ret, St.mk [(0, SV.av (AV.one (Lf.ptr 0 0 0 0 0))), (1, SV.av (AV.one (Lf.v (Value.int IntKind.i64 p4_5)))), (2, SV.av (AV.one (Lf.v (Value.int IntKind.i64 p4_6)))), (6, SV.av (AV.one (Lf.v (Value.int IntKind.i64 (irem (iadd IntKind.i64 (icv IntKind.i64 (bt (Prod.snd z78) 0)) (imul IntKind.i64 256 (icv IntKind.i64 (bt (Prod.snd z78) 1)))) p4_5))))), (7, SV.av (AV.one (Lf.v (Value.int IntKind.i64 0)))), (8, SV.av (AV.one (Lf.v (Value.int IntKind.i64 (Prod.snd x)))))] [(0, Blk.cells 41 [Lf.v (Value.string p4_7), Lf.v (Value.int IntKind.i64 (Prod.fst z78))])]) (.inr (.inl ((irem (iadd IntKind.i64 (icv IntKind.i64 (bt (Prod.snd z78) 0)) (imul IntKind.i64 256 (icv IntKind.i64 (bt (Prod.snd z78) 1)))) p4_5, Prod.fst z78))))))
 (.leaf (Vam.Ex.normal, St.mk [(0, SV.av (AV.one (Lf.ptr 0 0 0 0 0))), (1, SV.av (AV.one (Lf.v (Value.int IntKind.i64 p4_5)))), (2, SV.av (AV.one (Lf.v (Value.int IntKind.i64 p4_6)))), (8, SV.av (AV.one (Lf.v (Value.int IntKind.i64 (iadd IntKind.i64 (Prod.snd x) 1)))))] [(0, Blk.cells 41 [Lf.v (Value.string p4_7), Lf.v (Value.int IntKind.i64 (Prod.fst z78))])]) (.inl ((Prod.fst z78, iadd IntKind.i64 (Prod.snd x) 1)))))))))))
 (.leaf (Ex.exit 0, St.mk [(0, SV.av (AV.one (Lf.ptr 0 0 0 0 0))), (1, SV.av (AV.one (Lf.v (Value.int IntKind.i64 p4_5)))), (2, SV.av (AV.one (Lf.v (Value.int IntKind.i64 p4_6)))), (8, SV.av (AV.one (Lf.v (Value.int IntKind.i64 (Prod.snd x)))))] [(0, Blk.cells 41 [Lf.v (Value.string p4_7), Lf.v (Value.int IntKind.i64 (Prod.fst x))])]) (.inr (.inr (Prod.fst x)))))
theorem f21_l4_v (p4_5 : Int) (p4_6 : Int) (p4_7 : ByteArray) (x : Int × Int) : vc (execK P noG Try.f21.ntmps f21_hn [0, 1, 2, 6, 7, 8] (loopOf Try.f21 4) (f21_l4_D p4_5 p4_6 p4_7 x)) (f21_l4_t p4_5 p4_6 p4_7 x) = vcT (f21_l4_t p4_5 p4_6 p4_7 x) := by kernel_rfl
theorem f21_l4_o (d : Nat) (p4_5 : Int) (p4_6 : Int) (p4_7 : ByteArray) (x : Int × Int) : obl (Snd P noG) (Lp P noG Try.f21.ntmps [0] f21_hn d) (RelL Try.f21.ntmps noG [0] (f21_l4_D p4_5 p4_6 p4_7) (f21_l4_E p4_5 p4_6 p4_7)) (f21_l4_t p4_5 p4_6 p4_7 x) := by
 unfold f21_l4_t
 exact (oAsk (fun h0 => (oCall (fun _ e => f24_s e) fun z78 _ =>
 (oSure rfl (oNeed fun h1 => (oSure rfl (oNeed fun h2 => (oNeed fun h3 => (oAsk (fun h4 => (oSure h3 (oLeaf (relR rfl (wk_tw [(0, 0)] [6, 7] [] (by kernel_rfl) (by kernel_rfl))))))
 (fun h4 => (oLeaf (relN (wk_tw [(0, 0)] [0, 1, 2, 8] [] (by kernel_rfl) (by kernel_rfl)))))))))))))
 (fun h0 => (oLeaf (relE rfl (wk_tw [(0, 0)] [] [] (by kernel_rfl) (by kernel_rfl))))))
noncomputable def f21_l4_m (p4_5 : Int) (p4_6 : Int) (p4_7 : ByteArray) (x : Int × Int) : Option (Int × Int ⊕ Int) := lrun (fun x => mod (f21_l4_t p4_5 p4_6 p4_7 x)) x
theorem f21_l4_e (p4_5 : Int) (p4_6 : Int) (p4_7 : ByteArray) (x : Int × Int) : mod (f21_l4_t p4_5 p4_6 p4_7 x) =
 (sel (ilt (Prod.snd x) p4_6)
 (Option.bind (f24_m p4_7 (Prod.fst x) 2) fun z78 =>
 (sel (ilt 0 (ssz (Prod.snd z78)))
 (sel (ilt 1 (ssz (Prod.snd z78)))
 (sel (bno (ieq p4_5 0))
 (sel (ilt (iadd IntKind.i64 (icv IntKind.i64 (bt (Prod.snd z78) 0)) (imul IntKind.i64 256 (icv IntKind.i64 (bt (Prod.snd z78) 1)))) (isub IntKind.i64 65536 (irem 65536 p4_5)))
 (some ((.inr (.inl ((irem (iadd IntKind.i64 (icv IntKind.i64 (bt (Prod.snd z78) 0)) (imul IntKind.i64 256 (icv IntKind.i64 (bt (Prod.snd z78) 1)))) p4_5, Prod.fst z78))))))
 (some ((.inl ((Prod.fst z78, iadd IntKind.i64 (Prod.snd x) 1)))))) none) none) none))
 (some ((.inr (.inr (Prod.fst x)))))) := by kernel_rfl
theorem f21_l4_s0 (d : Nat) {p4_5 : Int} {p4_6 : Int} {p4_7 : ByteArray} {σ : St} {x : Int × Int} {z : Int × Int} (h : f21_l4_m p4_5 p4_6 p4_7 x = some (.inl z)) (hw : Wk Try.f21.ntmps noG [0] σ (f21_l4_D p4_5 p4_6 p4_7 x)) : Lp P noG Try.f21.ntmps [0] f21_hn (d + 1) (loopOf Try.f21 4) σ (Ex.ret) (f21_l4_E0 p4_5 p4_6 p4_7 z) :=
 lp_tree (D := f21_l4_D p4_5 p4_6 p4_7) (E := f21_l4_E p4_5 p4_6 p4_7) (f21_l4_v p4_5 p4_6 p4_7) (f21_l4_o d p4_5 p4_6 p4_7) h hw
theorem f21_l4_s1 (d : Nat) {p4_5 : Int} {p4_6 : Int} {p4_7 : ByteArray} {σ : St} {x : Int × Int} {z : Int} (h : f21_l4_m p4_5 p4_6 p4_7 x = some (.inr z)) (hw : Wk Try.f21.ntmps noG [0] σ (f21_l4_D p4_5 p4_6 p4_7 x)) : Lp P noG Try.f21.ntmps [0] f21_hn (d + 1) (loopOf Try.f21 4) σ (Ex.exit 0) (f21_l4_E1 p4_5 p4_6 p4_7 z) :=
 lp_tree (D := f21_l4_D p4_5 p4_6 p4_7) (E := f21_l4_E p4_5 p4_6 p4_7) (f21_l4_v p4_5 p4_6 p4_7) (f21_l4_o d p4_5 p4_6 p4_7) h hw
def f21_R (a0_0 : ByteArray) (a0_1 : Int) (a1 : Int) (a2 : Int) : Int × Int × Int → SV × Hp
  | z => (SV.tup [AV.one (Lf.v (Value.int IntKind.i64 (Prod.fst (Prod.snd z)))), AV.one (Lf.v (Value.int IntKind.i64 (Prod.snd (Prod.snd z))))], [(0, Blk.cells 41 [Lf.v (Value.string a0_0), Lf.v (Value.int IntKind.i64 (Prod.fst z))])])
noncomputable def f21_t (a0_0 : ByteArray) (a0_1 : Int) (a1 : Int) (a2 : Int) : DT (SV × Hp) (Int × Int × Int) :=
 (.ask (ilt a1 1)
 (.sure (ilt a1 1) true
 (.sure (ilt a1 1) true
 (.sure (true) true
 (.sure (true) true
 (.sure (true) true
 (.sure (true) true
 (.sure (true) true
 (.leaf (SV.tup [AV.one (Lf.v (Value.int IntKind.i64 0)), AV.one (Lf.v (Value.int IntKind.i64 1))], [(0, Blk.cells 41 [Lf.v (Value.string a0_0), Lf.v (Value.int IntKind.i64 a0_1)])]) ((a0_1, 0, 1))))))))))
 (.sure (ilt a1 1) false
 (.sure (ilt a1 1) false
 (.ask (ilt 65536 a1)
 (.sure (ilt 65536 a1) true
 (.sure (ilt 65536 a1) true
 (.sure (ilt 65536 a1) true
 (.sure (true) true
 (.leaf (SV.tup [AV.one (Lf.v (Value.int IntKind.i64 0)), AV.one (Lf.v (Value.int IntKind.i64 1))], [(0, Blk.cells 41 [Lf.v (Value.string a0_0), Lf.v (Value.int IntKind.i64 a0_1)])]) ((a0_1, 0, 1)))))))
 (.sure (ilt 65536 a1) false
 (.call 20 [AV.one (Lf.v (Value.int IntKind.i64 a2))] [] (f20_m a2) (fun z83 => SV.av (AV.one (Lf.v (Value.bool z83)))) (fun z83 => []) fun z83 =>
 (.sure (ilt 65536 a1) false
 (.sure (ilt 65536 a1) false
 (.ask (bno z83)
 (.leaf (SV.tup [AV.one (Lf.v (Value.int IntKind.i64 0)), AV.one (Lf.v (Value.int IntKind.i64 1))], [(0, Blk.cells 41 [Lf.v (Value.string a0_0), Lf.v (Value.int IntKind.i64 a0_1)])]) ((a0_1, 0, 1)))
 (.loop2 (loopOf Try.f21 4) (St.mk [(0, SV.av (AV.one (Lf.ptr 0 0 0 0 0))), (1, SV.av (AV.one (Lf.v (Value.int IntKind.i64 a1)))), (2, SV.av (AV.one (Lf.v (Value.int IntKind.i64 a2)))), (8, SV.av (AV.one (Lf.v (Value.int IntKind.i64 0))))] [(0, Blk.cells 41 [Lf.v (Value.string a0_0), Lf.v (Value.int IntKind.i64 a0_1)])]) (f21_l4_m a1 a2 a0_0 (a0_1, 0)) (Ex.ret) (f21_l4_E0 a1 a2 a0_0) (Ex.exit 0) (f21_l4_E1 a1 a2 a0_0) (fun z84 =>
 (.leaf (SV.tup [AV.one (Lf.v (Value.int IntKind.i64 (Prod.fst z84))), AV.one (Lf.v (Value.int IntKind.i64 0))], [(0, Blk.cells 41 [Lf.v (Value.string a0_0), Lf.v (Value.int IntKind.i64 (Prod.snd z84))])]) ((Prod.snd z84, Prod.fst z84, 0)))) fun z85 =>
 (.leaf (SV.tup [AV.one (Lf.v (Value.int IntKind.i64 0)), AV.one (Lf.v (Value.int IntKind.i64 3))], [(0, Blk.cells 41 [Lf.v (Value.string a0_0), Lf.v (Value.int IntKind.i64 z85)])]) ((z85, 0, 3)))))))))))))
theorem f21_v (a0_0 : ByteArray) (a0_1 : Int) (a1 : Int) (a2 : Int) : vc (runR P noG Try.f21 f21_hn [AV.one (Lf.ptr 0 0 0 0 0), AV.one (Lf.v (Value.int IntKind.i64 a1)), AV.one (Lf.v (Value.int IntKind.i64 a2))] [(0, Blk.cells 41 [Lf.v (Value.string a0_0), Lf.v (Value.int IntKind.i64 a0_1)])]) (f21_t a0_0 a0_1 a1 a2) = vcT (f21_t a0_0 a0_1 a1 a2) := by kernel_rfl
theorem f21_o (a0_0 : ByteArray) (a0_1 : Int) (a1 : Int) (a2 : Int) : obl (Snd P noG) (Lp P noG Try.f21.ntmps [0] f21_hn 1) (RelF [0] (f21_R a0_0 a0_1 a1 a2)) (f21_t a0_0 a0_1 a1 a2) := by
 unfold f21_t
 exact (oAsk (fun h0 => (oSure h0 (oSure h0 (oSure rfl (oSure rfl (oSure rfl (oSure rfl (oSure rfl (oLeaf (wks_tw [(0, 0)] [] (by kernel_rfl) (by kernel_rfl)))))))))))
 (fun h0 => (oSure h0 (oSure h0 (oAsk (fun h1 => (oSure h1 (oSure h1 (oSure h1 (oSure rfl (oLeaf (wks_tw [(0, 0)] [] (by kernel_rfl) (by kernel_rfl))))))))
 (fun h1 => (oSure h1 (oCall (fun _ e => f20_s e) fun z83 _ =>
 (oSure h1 (oSure h1 (oAsk (fun h2 => (oLeaf (wks_tw [(0, 0)] [] (by kernel_rfl) (by kernel_rfl))))
 (fun h2 => (oLoop2 (fun _ e => f21_l4_s0 0 e (wk_tw [(0, 0)] [0, 1, 2, 8] [] (by kernel_rfl) (by kernel_rfl))) (fun _ e => f21_l4_s1 0 e (wk_tw [(0, 0)] [0, 1, 2, 8] [] (by kernel_rfl) (by kernel_rfl))) (fun z84 _ =>
 (oLeaf (wks_tw [(0, 0)] [] (by kernel_rfl) (by kernel_rfl)))) fun z85 _ =>
 (oLeaf (wks_tw [(0, 0)] [] (by kernel_rfl) (by kernel_rfl))))))))))))))))
noncomputable def f21_m (a0_0 : ByteArray) (a0_1 : Int) (a1 : Int) (a2 : Int) : Option (Int × Int × Int) := mod (f21_t a0_0 a0_1 a1 a2)
theorem f21_e (a0_0 : ByteArray) (a0_1 : Int) (a1 : Int) (a2 : Int) : f21_m a0_0 a0_1 a1 a2 =
 (sel (ilt a1 1)
 (some (((a0_1, 0, 1))))
 (sel (ilt 65536 a1)
 (some (((a0_1, 0, 1))))
 (Option.bind (f20_m a2) fun z83 =>
 (sel (bno z83)
 (some (((a0_1, 0, 1))))
 (Option.bind (f21_l4_m a1 a2 a0_0 (a0_1, 0)) (Sum.elim (fun z84 =>
 (some (((Prod.snd z84, Prod.fst z84, 0))))) fun z85 =>
 (some (((z85, 0, 3)))))))))) := by kernel_rfl
theorem f21_s {a0_0 : ByteArray} {a0_1 : Int} {a1 : Int} {a2 : Int} {z : Int × Int × Int} (h : f21_m a0_0 a0_1 a1 a2 = some z) : Snd P noG 21 [AV.one (Lf.ptr 0 0 0 0 0), AV.one (Lf.v (Value.int IntKind.i64 a1)), AV.one (Lf.v (Value.int IntKind.i64 a2))] [(0, Blk.cells 41 [Lf.v (Value.string a0_0), Lf.v (Value.int IntKind.i64 a0_1)])] (SV.tup [AV.one (Lf.v (Value.int IntKind.i64 (Prod.fst (Prod.snd z)))), AV.one (Lf.v (Value.int IntKind.i64 (Prod.snd (Prod.snd z))))]) [(0, Blk.cells 41 [Lf.v (Value.string a0_0), Lf.v (Value.int IntKind.i64 (Prod.fst z))])] :=
 snd_tree (hn := f21_hn) 1 (f21_R a0_0 a0_1 a1 a2) mixed (by kernel_rfl) (by kernel_rfl) (by kernel_rfl) (by kernel_rfl) (by kernel_rfl) (f21_v a0_0 a0_1 a1 a2) (f21_o a0_0 a0_1 a1 a2) h
def f14_hn : Hn := Hn.mk [(11004, [(0, 0)])] [(14013, [30951])] [] [60961] [(6, [0, 1, 2, 8, 9]), (10, [0, 2, 8, 10])]
def f14_l5_D (p5_5 : Int) (p5_6 : Int) (p5_7 : ByteArray) (p5_8 : Int) (x : List Int × Int) : St := St.mk [(0, SV.av (AV.one (Lf.ptr 0 0 0 0 0))), (1, SV.av (AV.one (Lf.v (Value.int IntKind.i64 p5_5)))), (2, SV.av (AV.one (Lf.v (Value.int IntKind.i64 p5_6)))), (8, SV.av (AV.one (Lf.own 30551 0 0 (List.length (Prod.fst x)) 1))), (9, SV.av (AV.one (Lf.v (Value.int IntKind.i64 (Prod.snd x)))))] [(0, Blk.cells 41 [Lf.v (Value.string p5_7), Lf.v (Value.int IntKind.i64 p5_8)]), (30551, Blk.row 3 (K.int IntKind.i64) (Prod.fst x))]
def f14_l5_E0 (p5_5 : Int) (p5_6 : Int) (p5_7 : ByteArray) (p5_8 : Int) (y : List Int) : St := St.mk [(0, SV.av (AV.one (Lf.ptr 0 0 0 0 0))), (1, SV.av (AV.one (Lf.v (Value.int IntKind.i64 p5_5)))), (2, SV.av (AV.one (Lf.v (Value.int IntKind.i64 p5_6)))), (8, SV.av (AV.one (Lf.own 60551 0 0 (List.length y) 1)))] [(0, Blk.cells 41 [Lf.v (Value.string p5_7), Lf.v (Value.int IntKind.i64 p5_8)]), (60551, Blk.row 3 (K.int IntKind.i64) y)]
def f14_l5_E (p5_5 : Int) (p5_6 : Int) (p5_7 : ByteArray) (p5_8 : Int) : List Int → Ex × St
  | y => (Ex.exit 0, f14_l5_E0 p5_5 p5_6 p5_7 p5_8 y)
noncomputable def f14_l5_t (p5_5 : Int) (p5_6 : Int) (p5_7 : ByteArray) (p5_8 : Int) (x : List Int × Int) : DT (Ex × St) ((List Int × Int) ⊕ (List Int)) :=
 (.ask (ilt (Prod.snd x) p5_5)
 (.pick true (.sure (true) true
 (.pick true (.sure (true) true
 (.sure (nEq (List.length (Prod.fst x)) (List.length (Prod.fst x))) true
 (.need (nle (List.length (List.append (Prod.fst x) [Prod.snd x])) 9223372036854775807) true
 (.need (nle (List.length (List.append (Prod.fst x) [Prod.snd x]) * 8) 140737488355328) true
 (.leaf (Vam.Ex.normal, St.mk [(0, SV.av (AV.one (Lf.ptr 0 0 0 0 0))), (1, SV.av (AV.one (Lf.v (Value.int IntKind.i64 p5_5)))), (2, SV.av (AV.one (Lf.v (Value.int IntKind.i64 p5_6)))), (8, SV.av (AV.one (Lf.own 32 0 0 (List.length (List.append (Prod.fst x) [Prod.snd x])) 1))), (9, SV.av (AV.one (Lf.v (Value.int IntKind.i64 (iadd IntKind.i64 (Prod.snd x) 1)))))] [(0, Blk.cells 41 [Lf.v (Value.string p5_7), Lf.v (Value.int IntKind.i64 p5_8)]), (31, Blk.row 3 (K.int IntKind.i64) [Prod.snd x]), (32, Blk.row 3 (K.int IntKind.i64) (List.append (Prod.fst x) [Prod.snd x])), (30551, Blk.dead)]) (.inl ((List.append (Prod.fst x) [Prod.snd x], iadd IntKind.i64 (Prod.snd x) 1)))))))))))
 (.leaf (Ex.exit 0, St.mk [(0, SV.av (AV.one (Lf.ptr 0 0 0 0 0))), (1, SV.av (AV.one (Lf.v (Value.int IntKind.i64 p5_5)))), (2, SV.av (AV.one (Lf.v (Value.int IntKind.i64 p5_6)))), (8, SV.av (AV.one (Lf.own 30551 0 0 (List.length (Prod.fst x)) 1))), (9, SV.av (AV.one (Lf.v (Value.int IntKind.i64 (Prod.snd x)))))] [(0, Blk.cells 41 [Lf.v (Value.string p5_7), Lf.v (Value.int IntKind.i64 p5_8)]), (30551, Blk.row 3 (K.int IntKind.i64) (Prod.fst x))]) (.inr (Prod.fst x))))
theorem f14_l5_v (p5_5 : Int) (p5_6 : Int) (p5_7 : ByteArray) (p5_8 : Int) (x : List Int × Int) : vc (execK P noG Try.f14.ntmps f14_hn [0, 1, 2, 8, 9] (loopOf Try.f14 5) (f14_l5_D p5_5 p5_6 p5_7 p5_8 x)) (f14_l5_t p5_5 p5_6 p5_7 p5_8 x) = vcT (f14_l5_t p5_5 p5_6 p5_7 p5_8 x) := by kernel_rfl
theorem f14_l5_o (d : Nat) (p5_5 : Int) (p5_6 : Int) (p5_7 : ByteArray) (p5_8 : Int) (x : List Int × Int) : obl (Snd P noG) (Lp P noG Try.f14.ntmps [0] f14_hn d) (RelL Try.f14.ntmps noG [0] (f14_l5_D p5_5 p5_6 p5_7 p5_8) (f14_l5_E p5_5 p5_6 p5_7 p5_8)) (f14_l5_t p5_5 p5_6 p5_7 p5_8 x) := by
 unfold f14_l5_t
 exact (oAsk (fun h0 => (oPick (oSure rfl (oPick (oSure rfl (oSure (nEq_t.2 rfl) (oNeed fun h1 => (oNeed fun h2 => (oLeaf (relN (wk_tw [(32, 30551), (0, 0)] [0, 1, 2, 8, 9] [] (by kernel_rfl) (by kernel_rfl))))))))))))
 (fun h0 => (oLeaf (relE rfl (wk_tw [(30551, 60551), (0, 0)] [0, 1, 2, 8] [] (by kernel_rfl) (by kernel_rfl))))))
noncomputable def f14_l5_m (p5_5 : Int) (p5_6 : Int) (p5_7 : ByteArray) (p5_8 : Int) (x : List Int × Int) : Option (List Int) := lrun (fun x => mod (f14_l5_t p5_5 p5_6 p5_7 p5_8 x)) x
theorem f14_l5_e (p5_5 : Int) (p5_6 : Int) (p5_7 : ByteArray) (p5_8 : Int) (x : List Int × Int) : mod (f14_l5_t p5_5 p5_6 p5_7 p5_8 x) =
 (sel (ilt (Prod.snd x) p5_5)
 (sel (nle (List.length (List.append (Prod.fst x) [Prod.snd x])) 9223372036854775807)
 (sel (nle (List.length (List.append (Prod.fst x) [Prod.snd x]) * 8) 140737488355328)
 (some ((.inl ((List.append (Prod.fst x) [Prod.snd x], iadd IntKind.i64 (Prod.snd x) 1))))) none) none)
 (some ((.inr (Prod.fst x))))) := by kernel_rfl
theorem f14_l5_s0 (d : Nat) {p5_5 : Int} {p5_6 : Int} {p5_7 : ByteArray} {p5_8 : Int} {σ : St} {x : List Int × Int} {z : List Int} (h : f14_l5_m p5_5 p5_6 p5_7 p5_8 x = some z) (hw : Wk Try.f14.ntmps noG [0] σ (f14_l5_D p5_5 p5_6 p5_7 p5_8 x)) : Lp P noG Try.f14.ntmps [0] f14_hn (d + 1) (loopOf Try.f14 5) σ (Ex.exit 0) (f14_l5_E0 p5_5 p5_6 p5_7 p5_8 z) :=
 lp_tree (D := f14_l5_D p5_5 p5_6 p5_7 p5_8) (E := f14_l5_E p5_5 p5_6 p5_7 p5_8) (f14_l5_v p5_5 p5_6 p5_7 p5_8) (f14_l5_o d p5_5 p5_6 p5_7 p5_8) h hw
def f14_l9_D (p9_17 : Int) (p9_19 : ByteArray) (x : Int × Nat × List Int × Int) : St := St.mk [(0, SV.av (AV.one (Lf.ptr 0 0 0 0 0))), (2, SV.av (AV.one (Lf.v (Value.int IntKind.i64 p9_17)))), (8, SV.av (AV.one (Lf.own 30951 0 0 (Prod.fst (Prod.snd x)) 1))), (10, SV.av (AV.one (Lf.v (Value.int IntKind.i64 (Prod.snd (Prod.snd (Prod.snd x)))))))] [(0, Blk.cells 41 [Lf.v (Value.string p9_19), Lf.v (Value.int IntKind.i64 (Prod.fst x))]), (30951, Blk.row 3 (K.int IntKind.i64) (Prod.fst (Prod.snd (Prod.snd x))))]
def f14_l9_E0 (p9_17 : Int) (p9_19 : ByteArray) (y : Int × Int) : St := St.mk [(6, SV.av (AV.one (Lf.v (Value.slice none 0 0)))), (7, SV.av (AV.one (Lf.v (Value.int IntKind.i64 (Prod.fst y)))))] [(0, Blk.cells 41 [Lf.v (Value.string p9_19), Lf.v (Value.int IntKind.i64 (Prod.snd y))])]
def f14_l9_E1 (p9_17 : Int) (p9_19 : ByteArray) (y : List Int × Int × Nat) : St := St.mk [(8, SV.av (AV.one (Lf.own 60961 0 0 (Prod.snd (Prod.snd y)) 1)))] [(0, Blk.cells 41 [Lf.v (Value.string p9_19), Lf.v (Value.int IntKind.i64 (Prod.fst (Prod.snd y)))]), (60961, Blk.row 3 (K.int IntKind.i64) (Prod.fst y))]
def f14_l9_E (p9_17 : Int) (p9_19 : ByteArray) : Int × Int ⊕ List Int × Int × Nat → Ex × St
  | (.inl y) => (Ex.ret, f14_l9_E0 p9_17 p9_19 y)
  | (.inr y) => (Ex.exit 2, f14_l9_E1 p9_17 p9_19 y)
def f14_s0 (x : Int × Nat × List Int × Int) (z164 : Int × Int × Int) : List Int := List.set (List.set (Prod.fst (Prod.snd (Prod.snd x))) (0 + Int.toNat (Prod.snd (Prod.snd (Prod.snd x)))) (gd (K.int IntKind.i64) (Prod.fst (Prod.snd (Prod.snd x))) (0 + Int.toNat (Prod.fst (Prod.snd z164))))) (0 + Int.toNat (Prod.fst (Prod.snd z164))) (gd (K.int IntKind.i64) (Prod.fst (Prod.snd (Prod.snd x))) (0 + Int.toNat (Prod.snd (Prod.snd (Prod.snd x)))))
noncomputable def f14_l9_t (p9_17 : Int) (p9_19 : ByteArray) (x : Int × Nat × List Int × Int) : DT (Ex × St) ((Int × Nat × List Int × Int) ⊕ (Int × Int ⊕ List Int × Int × Nat)) :=
 (.ask (ile 1 (Prod.snd (Prod.snd (Prod.snd x))))
 (.call 21 [AV.one (Lf.ptr 0 0 0 0 0), AV.one (Lf.v (Value.int IntKind.i64 (iadd IntKind.i64 (Prod.snd (Prod.snd (Prod.snd x))) 1))), AV.one (Lf.v (Value.int IntKind.i64 p9_17))] [(0, Blk.cells 41 [Lf.v (Value.string p9_19), Lf.v (Value.int IntKind.i64 (Prod.fst x))])] (f21_m p9_19 (Prod.fst x) (iadd IntKind.i64 (Prod.snd (Prod.snd (Prod.snd x))) 1) p9_17) (fun z164 => SV.tup [AV.one (Lf.v (Value.int IntKind.i64 (Prod.fst (Prod.snd z164)))), AV.one (Lf.v (Value.int IntKind.i64 (Prod.snd (Prod.snd z164))))]) (fun z164 => [(0, Blk.cells 41 [Lf.v (Value.string p9_19), Lf.v (Value.int IntKind.i64 (Prod.fst z164))])]) fun z164 =>
 (.ask (bno (ieq (Prod.snd (Prod.snd z164)) 0))
 (.leaf (Ex.ret, St.mk [(0, SV.av (AV.one (Lf.ptr 0 0 0 0 0))), (2, SV.av (AV.one (Lf.v (Value.int IntKind.i64 p9_17)))), (6, SV.av (AV.one (Lf.v (Value.slice none 0 0)))), (7, SV.av (AV.one (Lf.v (Value.int IntKind.i64 (Prod.snd (Prod.snd z164)))))), (8, SV.av (AV.one (Lf.own 30951 0 0 (Prod.fst (Prod.snd x)) 1))), (10, SV.av (AV.one (Lf.v (Value.int IntKind.i64 (Prod.snd (Prod.snd (Prod.snd x)))))))] [(0, Blk.cells 41 [Lf.v (Value.string p9_19), Lf.v (Value.int IntKind.i64 (Prod.fst z164))]), (30951, Blk.row 3 (K.int IntKind.i64) (Prod.fst (Prod.snd (Prod.snd x))))]) (.inr (.inl ((Prod.snd (Prod.snd z164), Prod.fst z164)))))
 (.need (ile 0 (Prod.fst (Prod.snd z164))) true
 (.need (ilt (Prod.fst (Prod.snd z164)) ↑(Prod.fst (Prod.snd x))) true
 (.need (nlt (0 + Int.toNat (Prod.fst (Prod.snd z164))) (List.length (Prod.fst (Prod.snd (Prod.snd x))))) true
 (.need (ile 0 (Prod.snd (Prod.snd (Prod.snd x)))) true
 (.need (ilt (Prod.snd (Prod.snd (Prod.snd x))) ↑(Prod.fst (Prod.snd x))) true
 (.need (nlt (0 + Int.toNat (Prod.snd (Prod.snd (Prod.snd x)))) (List.length (Prod.fst (Prod.snd (Prod.snd x))))) true
 (.sure (ile 0 (Prod.snd (Prod.snd (Prod.snd x)))) true
 (.sure (ilt (Prod.snd (Prod.snd (Prod.snd x))) ↑(Prod.fst (Prod.snd x))) true
 (.sure (nlt (0 + Int.toNat (Prod.snd (Prod.snd (Prod.snd x)))) (List.length (Prod.fst (Prod.snd (Prod.snd x))))) true
 (.sure (ile 0 (Prod.fst (Prod.snd z164))) true
 (.sure (ilt (Prod.fst (Prod.snd z164)) ↑(Prod.fst (Prod.snd x))) true
 (.need (nlt (0 + Int.toNat (Prod.fst (Prod.snd z164))) (List.length (List.set (Prod.fst (Prod.snd (Prod.snd x))) (0 + Int.toNat (Prod.snd (Prod.snd (Prod.snd x)))) (gd (K.int IntKind.i64) (Prod.fst (Prod.snd (Prod.snd x))) (0 + Int.toNat (Prod.fst (Prod.snd z164))))))) true
 (.leaf (Vam.Ex.normal, St.mk [(0, SV.av (AV.one (Lf.ptr 0 0 0 0 0))), (2, SV.av (AV.one (Lf.v (Value.int IntKind.i64 p9_17)))), (8, SV.av (AV.one (Lf.own 30951 0 0 (Prod.fst (Prod.snd x)) 1))), (10, SV.av (AV.one (Lf.v (Value.int IntKind.i64 (isub IntKind.i64 (Prod.snd (Prod.snd (Prod.snd x))) 1)))))] [(0, Blk.cells 41 [Lf.v (Value.string p9_19), Lf.v (Value.int IntKind.i64 (Prod.fst z164))]), (30951, Blk.row 3 (K.int IntKind.i64) (f14_s0 x z164))]) (.inl ((Prod.fst z164, Prod.fst (Prod.snd x), f14_s0 x z164, isub IntKind.i64 (Prod.snd (Prod.snd (Prod.snd x))) 1))))))))))))))))))
 (.leaf (Ex.exit 2, St.mk [(0, SV.av (AV.one (Lf.ptr 0 0 0 0 0))), (2, SV.av (AV.one (Lf.v (Value.int IntKind.i64 p9_17)))), (8, SV.av (AV.one (Lf.own 30951 0 0 (Prod.fst (Prod.snd x)) 1))), (10, SV.av (AV.one (Lf.v (Value.int IntKind.i64 (Prod.snd (Prod.snd (Prod.snd x)))))))] [(0, Blk.cells 41 [Lf.v (Value.string p9_19), Lf.v (Value.int IntKind.i64 (Prod.fst x))]), (30951, Blk.row 3 (K.int IntKind.i64) (Prod.fst (Prod.snd (Prod.snd x))))]) (.inr (.inr ((Prod.fst (Prod.snd (Prod.snd x)), Prod.fst x, Prod.fst (Prod.snd x)))))))
theorem f14_l9_v (p9_17 : Int) (p9_19 : ByteArray) (x : Int × Nat × List Int × Int) : vc (execK P noG Try.f14.ntmps f14_hn [0, 2, 6, 7, 8, 10] (loopOf Try.f14 9) (f14_l9_D p9_17 p9_19 x)) (f14_l9_t p9_17 p9_19 x) = vcT (f14_l9_t p9_17 p9_19 x) := by kernel_rfl
theorem f14_l9_o (d : Nat) (p9_17 : Int) (p9_19 : ByteArray) (x : Int × Nat × List Int × Int) : obl (Snd P noG) (Lp P noG Try.f14.ntmps [0] f14_hn d) (RelL Try.f14.ntmps noG [0] (f14_l9_D p9_17 p9_19) (f14_l9_E p9_17 p9_19)) (f14_l9_t p9_17 p9_19 x) := by
 unfold f14_l9_t
 exact (oAsk (fun h0 => (oCall (fun _ e => f21_s e) fun z164 _ =>
 (oAsk (fun h1 => (oLeaf (relR rfl (wk_tw [(0, 0)] [6, 7] [] (by kernel_rfl) (by kernel_rfl)))))
 (fun h1 => (oNeed fun h2 => (oNeed fun h3 => (oNeed fun h4 => (oNeed fun h5 => (oNeed fun h6 => (oNeed fun h7 => (oSure h5 (oSure h6 (oSure h7 (oSure h2 (oSure h3 (oNeed fun h8 => (oLeaf (relN (wk_tw [(30951, 30951), (0, 0)] [0, 2, 8, 10] [] (by kernel_rfl) (by kernel_rfl))))))))))))))))))))
 (fun h0 => (oLeaf (relE rfl (wk_tw [(30951, 60961), (0, 0)] [8] [] (by kernel_rfl) (by kernel_rfl))))))
noncomputable def f14_l9_m (p9_17 : Int) (p9_19 : ByteArray) (x : Int × Nat × List Int × Int) : Option (Int × Int ⊕ List Int × Int × Nat) := lrun (fun x => mod (f14_l9_t p9_17 p9_19 x)) x
theorem f14_l9_e (p9_17 : Int) (p9_19 : ByteArray) (x : Int × Nat × List Int × Int) : mod (f14_l9_t p9_17 p9_19 x) =
 (sel (ile 1 (Prod.snd (Prod.snd (Prod.snd x))))
 (Option.bind (f21_m p9_19 (Prod.fst x) (iadd IntKind.i64 (Prod.snd (Prod.snd (Prod.snd x))) 1) p9_17) fun z164 =>
 (sel (bno (ieq (Prod.snd (Prod.snd z164)) 0))
 (some ((.inr (.inl ((Prod.snd (Prod.snd z164), Prod.fst z164))))))
 (sel (ile 0 (Prod.fst (Prod.snd z164)))
 (sel (ilt (Prod.fst (Prod.snd z164)) ↑(Prod.fst (Prod.snd x)))
 (sel (nlt (0 + Int.toNat (Prod.fst (Prod.snd z164))) (List.length (Prod.fst (Prod.snd (Prod.snd x)))))
 (sel (ile 0 (Prod.snd (Prod.snd (Prod.snd x))))
 (sel (ilt (Prod.snd (Prod.snd (Prod.snd x))) ↑(Prod.fst (Prod.snd x)))
 (sel (nlt (0 + Int.toNat (Prod.snd (Prod.snd (Prod.snd x)))) (List.length (Prod.fst (Prod.snd (Prod.snd x)))))
 (sel (nlt (0 + Int.toNat (Prod.fst (Prod.snd z164))) (List.length (List.set (Prod.fst (Prod.snd (Prod.snd x))) (0 + Int.toNat (Prod.snd (Prod.snd (Prod.snd x)))) (gd (K.int IntKind.i64) (Prod.fst (Prod.snd (Prod.snd x))) (0 + Int.toNat (Prod.fst (Prod.snd z164)))))))
 (some ((.inl ((Prod.fst z164, Prod.fst (Prod.snd x), f14_s0 x z164, isub IntKind.i64 (Prod.snd (Prod.snd (Prod.snd x))) 1))))) none) none) none) none) none) none) none)))
 (some ((.inr (.inr ((Prod.fst (Prod.snd (Prod.snd x)), Prod.fst x, Prod.fst (Prod.snd x)))))))) := by kernel_rfl
theorem f14_l9_s0 (d : Nat) {p9_17 : Int} {p9_19 : ByteArray} {σ : St} {x : Int × Nat × List Int × Int} {z : Int × Int} (h : f14_l9_m p9_17 p9_19 x = some (.inl z)) (hw : Wk Try.f14.ntmps noG [0] σ (f14_l9_D p9_17 p9_19 x)) : Lp P noG Try.f14.ntmps [0] f14_hn (d + 1) (loopOf Try.f14 9) σ (Ex.ret) (f14_l9_E0 p9_17 p9_19 z) :=
 lp_tree (D := f14_l9_D p9_17 p9_19) (E := f14_l9_E p9_17 p9_19) (f14_l9_v p9_17 p9_19) (f14_l9_o d p9_17 p9_19) h hw
theorem f14_l9_s1 (d : Nat) {p9_17 : Int} {p9_19 : ByteArray} {σ : St} {x : Int × Nat × List Int × Int} {z : List Int × Int × Nat} (h : f14_l9_m p9_17 p9_19 x = some (.inr z)) (hw : Wk Try.f14.ntmps noG [0] σ (f14_l9_D p9_17 p9_19 x)) : Lp P noG Try.f14.ntmps [0] f14_hn (d + 1) (loopOf Try.f14 9) σ (Ex.exit 2) (f14_l9_E1 p9_17 p9_19 z) :=
 lp_tree (D := f14_l9_D p9_17 p9_19) (E := f14_l9_E p9_17 p9_19) (f14_l9_v p9_17 p9_19) (f14_l9_o d p9_17 p9_19) h hw
def f14_R (a0_0 : ByteArray) (a0_1 : Int) (a1 : Int) (a2 : Int) : Int × Int × List Int → SV × Hp
  | z => (SV.tup [AV.one (Lf.dat (K.sl (K.int IntKind.i64)) (Prod.snd (Prod.snd z))), AV.one (Lf.v (Value.int IntKind.i64 (Prod.fst (Prod.snd z))))], [(0, Blk.cells 41 [Lf.v (Value.string a0_0), Lf.v (Value.int IntKind.i64 (Prod.fst z))])])
noncomputable def f14_t (a0_0 : ByteArray) (a0_1 : Int) (a1 : Int) (a2 : Int) : DT (SV × Hp) (Int × Int × List Int) :=
 (.ask (ilt a1 0)
 (.sure (ilt a1 0) true
 (.sure (ilt a1 0) true
 (.sure (true) true
 (.sure (true) true
 (.sure (true) true
 (.sure (true) true
 (.sure (true) true
 (.leaf (SV.tup [AV.one (Lf.v (Value.slice none 0 0)), AV.one (Lf.v (Value.int IntKind.i64 1))], [(0, Blk.cells 41 [Lf.v (Value.string a0_0), Lf.v (Value.int IntKind.i64 a0_1)])]) ((a0_1, 1, []))))))))))
 (.sure (ilt a1 0) false
 (.sure (ilt a1 0) false
 (.ask (ilt 64 a1)
 (.sure (ilt 64 a1) true
 (.sure (ilt 64 a1) true
 (.sure (ilt 64 a1) true
 (.sure (true) true
 (.leaf (SV.tup [AV.one (Lf.v (Value.slice none 0 0)), AV.one (Lf.v (Value.int IntKind.i64 1))], [(0, Blk.cells 41 [Lf.v (Value.string a0_0), Lf.v (Value.int IntKind.i64 a0_1)])]) ((a0_1, 1, [])))))))
 (.sure (ilt 64 a1) false
 (.call 20 [AV.one (Lf.v (Value.int IntKind.i64 a2))] [] (f20_m a2) (fun z169 => SV.av (AV.one (Lf.v (Value.bool z169)))) (fun z169 => []) fun z169 =>
 (.sure (ilt 64 a1) false
 (.sure (ilt 64 a1) false
 (.ask (bno z169)
 (.leaf (SV.tup [AV.one (Lf.v (Value.slice none 0 0)), AV.one (Lf.v (Value.int IntKind.i64 1))], [(0, Blk.cells 41 [Lf.v (Value.string a0_0), Lf.v (Value.int IntKind.i64 a0_1)])]) ((a0_1, 1, [])))
 (.loop (loopOf Try.f14 5) (St.mk [(0, SV.av (AV.one (Lf.ptr 0 0 0 0 0))), (1, SV.av (AV.one (Lf.v (Value.int IntKind.i64 a1)))), (2, SV.av (AV.one (Lf.v (Value.int IntKind.i64 a2)))), (8, SV.av (AV.one (Lf.v (Value.slice none 0 0)))), (9, SV.av (AV.one (Lf.v (Value.int IntKind.i64 0))))] [(0, Blk.cells 41 [Lf.v (Value.string a0_0), Lf.v (Value.int IntKind.i64 a0_1)])]) (f14_l5_m a1 a2 a0_0 a0_1 ([], 0)) (Ex.exit 0) (f14_l5_E0 a1 a2 a0_0 a0_1) fun z170 =>
 (.loop2 (loopOf Try.f14 9) (St.mk [(0, SV.av (AV.one (Lf.ptr 0 0 0 0 0))), (2, SV.av (AV.one (Lf.v (Value.int IntKind.i64 a2)))), (8, SV.av (AV.one (Lf.own 60551 0 0 (List.length z170) 1))), (10, SV.av (AV.one (Lf.v (Value.int IntKind.i64 (isub IntKind.i64 a1 1)))))] [(0, Blk.cells 41 [Lf.v (Value.string a0_0), Lf.v (Value.int IntKind.i64 a0_1)]), (60551, Blk.row 3 (K.int IntKind.i64) z170)]) (f14_l9_m a2 a0_0 (a0_1, List.length z170, z170, isub IntKind.i64 a1 1)) (Ex.ret) (f14_l9_E0 a2 a0_0) (Ex.exit 2) (f14_l9_E1 a2 a0_0) (fun z171 =>
 (.leaf (SV.tup [AV.one (Lf.v (Value.slice none 0 0)), AV.one (Lf.v (Value.int IntKind.i64 (Prod.fst z171)))], [(0, Blk.cells 41 [Lf.v (Value.string a0_0), Lf.v (Value.int IntKind.i64 (Prod.snd z171))])]) ((Prod.snd z171, Prod.fst z171, [])))) fun z172 =>
 (.pick false (.need (nle (0 + Prod.snd (Prod.snd z172)) (List.length (Prod.fst z172))) true
 (.leaf (SV.tup [AV.one (Lf.dat (K.sl (K.int IntKind.i64)) (List.take (Prod.snd (Prod.snd z172)) (List.drop 0 (Prod.fst z172)))), AV.one (Lf.v (Value.int IntKind.i64 0))], [(0, Blk.cells 41 [Lf.v (Value.string a0_0), Lf.v (Value.int IntKind.i64 (Prod.fst (Prod.snd z172)))]), (60961, Blk.dead)]) ((Prod.fst (Prod.snd z172), 0, List.take (Prod.snd (Prod.snd z172)) (List.drop 0 (Prod.fst z172))))))))))))))))))
theorem f14_v (a0_0 : ByteArray) (a0_1 : Int) (a1 : Int) (a2 : Int) : vc (runR P noG Try.f14 f14_hn [AV.one (Lf.ptr 0 0 0 0 0), AV.one (Lf.v (Value.int IntKind.i64 a1)), AV.one (Lf.v (Value.int IntKind.i64 a2))] [(0, Blk.cells 41 [Lf.v (Value.string a0_0), Lf.v (Value.int IntKind.i64 a0_1)])]) (f14_t a0_0 a0_1 a1 a2) = vcT (f14_t a0_0 a0_1 a1 a2) := by kernel_rfl
theorem f14_o (a0_0 : ByteArray) (a0_1 : Int) (a1 : Int) (a2 : Int) : obl (Snd P noG) (Lp P noG Try.f14.ntmps [0] f14_hn 1) (RelF [0] (f14_R a0_0 a0_1 a1 a2)) (f14_t a0_0 a0_1 a1 a2) := by
 unfold f14_t
 exact (oAsk (fun h0 => (oSure h0 (oSure h0 (oSure rfl (oSure rfl (oSure rfl (oSure rfl (oSure rfl (oLeaf (wks_tw [(0, 0)] [] (by kernel_rfl) (by kernel_rfl)))))))))))
 (fun h0 => (oSure h0 (oSure h0 (oAsk (fun h1 => (oSure h1 (oSure h1 (oSure h1 (oSure rfl (oLeaf (wks_tw [(0, 0)] [] (by kernel_rfl) (by kernel_rfl))))))))
 (fun h1 => (oSure h1 (oCall (fun _ e => f20_s e) fun z169 _ =>
 (oSure h1 (oSure h1 (oAsk (fun h2 => (oLeaf (wks_tw [(0, 0)] [] (by kernel_rfl) (by kernel_rfl))))
 (fun h2 => (oLoop (fun _ e => f14_l5_s0 0 e (wk_tw [(0, 0)] [0, 1, 2, 8, 9] [(30551, 3, K.int IntKind.i64)] (by kernel_rfl) (by kernel_rfl))) fun z170 _ =>
 (oLoop2 (fun _ e => f14_l9_s0 0 e (wk_tw [(60551, 30951), (0, 0)] [0, 2, 8, 10] [] (by kernel_rfl) (by kernel_rfl))) (fun _ e => f14_l9_s1 0 e (wk_tw [(60551, 30951), (0, 0)] [0, 2, 8, 10] [] (by kernel_rfl) (by kernel_rfl))) (fun z171 _ =>
 (oLeaf (wks_tw [(0, 0)] [] (by kernel_rfl) (by kernel_rfl)))) fun z172 _ =>
 (oPick (oNeed fun h3 => (oLeaf (wks_tw [(0, 0)] [] (by kernel_rfl) (by kernel_rfl)))))))))))))))))))
noncomputable def f14_m (a0_0 : ByteArray) (a0_1 : Int) (a1 : Int) (a2 : Int) : Option (Int × Int × List Int) := mod (f14_t a0_0 a0_1 a1 a2)
theorem f14_e (a0_0 : ByteArray) (a0_1 : Int) (a1 : Int) (a2 : Int) : f14_m a0_0 a0_1 a1 a2 =
 (sel (ilt a1 0)
 (some (((a0_1, 1, []))))
 (sel (ilt 64 a1)
 (some (((a0_1, 1, []))))
 (Option.bind (f20_m a2) fun z169 =>
 (sel (bno z169)
 (some (((a0_1, 1, []))))
 (Option.bind (f14_l5_m a1 a2 a0_0 a0_1 ([], 0)) fun z170 =>
 (Option.bind (f14_l9_m a2 a0_0 (a0_1, List.length z170, z170, isub IntKind.i64 a1 1)) (Sum.elim (fun z171 =>
 (some (((Prod.snd z171, Prod.fst z171, []))))) fun z172 =>
 (sel (nle (0 + Prod.snd (Prod.snd z172)) (List.length (Prod.fst z172)))
 (some (((Prod.fst (Prod.snd z172), 0, List.take (Prod.snd (Prod.snd z172)) (List.drop 0 (Prod.fst z172)))))) none)))))))) := by kernel_rfl
theorem f14_s {a0_0 : ByteArray} {a0_1 : Int} {a1 : Int} {a2 : Int} {z : Int × Int × List Int} (h : f14_m a0_0 a0_1 a1 a2 = some z) : Snd P noG 14 [AV.one (Lf.ptr 0 0 0 0 0), AV.one (Lf.v (Value.int IntKind.i64 a1)), AV.one (Lf.v (Value.int IntKind.i64 a2))] [(0, Blk.cells 41 [Lf.v (Value.string a0_0), Lf.v (Value.int IntKind.i64 a0_1)])] (SV.tup [AV.one (Lf.dat (K.sl (K.int IntKind.i64)) (Prod.snd (Prod.snd z))), AV.one (Lf.v (Value.int IntKind.i64 (Prod.fst (Prod.snd z))))]) [(0, Blk.cells 41 [Lf.v (Value.string a0_0), Lf.v (Value.int IntKind.i64 (Prod.fst z))])] :=
 snd_tree (hn := f14_hn) 1 (f14_R a0_0 a0_1 a1 a2) mixed (by kernel_rfl) (by kernel_rfl) (by kernel_rfl) (by kernel_rfl) (by kernel_rfl) (f14_v a0_0 a0_1 a1 a2) (f14_o a0_0 a0_1 a1 a2) h
def f4_hn : Hn := Hn.mk [(4004, [(0, 25)]), (21002, [(100, 86)]), (21004, [(0, 86)])] [(19013, [61700])] [] [] [(10, [5, 6, 8, 9]), (15, [5, 6, 8, 10, 11]), (18, [5, 6, 8, 10, 11, 12])]
def f4_l9_D (p9_21 : Int) (p9_22 : List Int) (x : List Int × Int) : St := St.mk [(5, SV.av (AV.one (Lf.v (Value.int IntKind.i64 p9_21)))), (6, SV.av (AV.one (Lf.dat (K.sl (K.int IntKind.i64)) p9_22))), (8, SV.av (AV.one (Lf.own 30951 0 0 (List.length (Prod.fst x)) 1))), (9, SV.av (AV.one (Lf.v (Value.int IntKind.i64 (Prod.snd x)))))] [(30951, Blk.row 3 (K.int IntKind.i64) (Prod.fst x))]
def f4_l9_E0 (p9_21 : Int) (p9_22 : List Int) (y : List Int) : St := St.mk [(5, SV.av (AV.one (Lf.v (Value.int IntKind.i64 p9_21)))), (6, SV.av (AV.one (Lf.dat (K.sl (K.int IntKind.i64)) p9_22))), (8, SV.av (AV.one (Lf.own 60951 0 0 (List.length y) 1)))] [(60951, Blk.row 3 (K.int IntKind.i64) y)]
def f4_l9_E (p9_21 : Int) (p9_22 : List Int) : List Int → Ex × St
  | y => (Ex.exit 0, f4_l9_E0 p9_21 p9_22 y)
noncomputable def f4_l9_t (p9_21 : Int) (p9_22 : List Int) (x : List Int × Int) : DT (Ex × St) ((List Int × Int) ⊕ (List Int)) :=
 (.ask (ilt (Prod.snd x) p9_21)
 (.pick true (.sure (true) true
 (.pick true (.sure (true) true
 (.sure (nEq (List.length (Prod.fst x)) (List.length (Prod.fst x))) true
 (.need (nle (List.length (List.append (Prod.fst x) [Prod.snd x])) 9223372036854775807) true
 (.need (nle (List.length (List.append (Prod.fst x) [Prod.snd x]) * 8) 140737488355328) true
 (.leaf (Vam.Ex.normal, St.mk [(5, SV.av (AV.one (Lf.v (Value.int IntKind.i64 p9_21)))), (6, SV.av (AV.one (Lf.dat (K.sl (K.int IntKind.i64)) p9_22))), (8, SV.av (AV.one (Lf.own 41 0 0 (List.length (List.append (Prod.fst x) [Prod.snd x])) 1))), (9, SV.av (AV.one (Lf.v (Value.int IntKind.i64 (iadd IntKind.i64 (Prod.snd x) 1)))))] [(40, Blk.row 3 (K.int IntKind.i64) [Prod.snd x]), (41, Blk.row 3 (K.int IntKind.i64) (List.append (Prod.fst x) [Prod.snd x])), (30951, Blk.dead)]) (.inl ((List.append (Prod.fst x) [Prod.snd x], iadd IntKind.i64 (Prod.snd x) 1)))))))))))
 (.leaf (Ex.exit 0, St.mk [(5, SV.av (AV.one (Lf.v (Value.int IntKind.i64 p9_21)))), (6, SV.av (AV.one (Lf.dat (K.sl (K.int IntKind.i64)) p9_22))), (8, SV.av (AV.one (Lf.own 30951 0 0 (List.length (Prod.fst x)) 1))), (9, SV.av (AV.one (Lf.v (Value.int IntKind.i64 (Prod.snd x)))))] [(30951, Blk.row 3 (K.int IntKind.i64) (Prod.fst x))]) (.inr (Prod.fst x))))
theorem f4_l9_v (p9_21 : Int) (p9_22 : List Int) (x : List Int × Int) : vc (execK P noG Try.f4.ntmps f4_hn [5, 6, 8, 9] (loopOf Try.f4 9) (f4_l9_D p9_21 p9_22 x)) (f4_l9_t p9_21 p9_22 x) = vcT (f4_l9_t p9_21 p9_22 x) := by kernel_rfl
theorem f4_l9_o (d : Nat) (p9_21 : Int) (p9_22 : List Int) (x : List Int × Int) : obl (Snd P noG) (Lp P noG Try.f4.ntmps [] f4_hn d) (RelL Try.f4.ntmps noG [] (f4_l9_D p9_21 p9_22) (f4_l9_E p9_21 p9_22)) (f4_l9_t p9_21 p9_22 x) := by
 unfold f4_l9_t
 exact (oAsk (fun h0 => (oPick (oSure rfl (oPick (oSure rfl (oSure (nEq_t.2 rfl) (oNeed fun h1 => (oNeed fun h2 => (oLeaf (relN (wk_tw [(41, 30951)] [5, 6, 8, 9] [] (by kernel_rfl) (by kernel_rfl))))))))))))
 (fun h0 => (oLeaf (relE rfl (wk_tw [(30951, 60951)] [5, 6, 8] [] (by kernel_rfl) (by kernel_rfl))))))
noncomputable def f4_l9_m (p9_21 : Int) (p9_22 : List Int) (x : List Int × Int) : Option (List Int) := lrun (fun x => mod (f4_l9_t p9_21 p9_22 x)) x
theorem f4_l9_e (p9_21 : Int) (p9_22 : List Int) (x : List Int × Int) : mod (f4_l9_t p9_21 p9_22 x) =
 (sel (ilt (Prod.snd x) p9_21)
 (sel (nle (List.length (List.append (Prod.fst x) [Prod.snd x])) 9223372036854775807)
 (sel (nle (List.length (List.append (Prod.fst x) [Prod.snd x]) * 8) 140737488355328)
 (some ((.inl ((List.append (Prod.fst x) [Prod.snd x], iadd IntKind.i64 (Prod.snd x) 1))))) none) none)
 (some ((.inr (Prod.fst x))))) := by kernel_rfl
theorem f4_l9_s0 (d : Nat) {p9_21 : Int} {p9_22 : List Int} {σ : St} {x : List Int × Int} {z : List Int} (h : f4_l9_m p9_21 p9_22 x = some z) (hw : Wk Try.f4.ntmps noG [] σ (f4_l9_D p9_21 p9_22 x)) : Lp P noG Try.f4.ntmps [] f4_hn (d + 1) (loopOf Try.f4 9) σ (Ex.exit 0) (f4_l9_E0 p9_21 p9_22 z) :=
 lp_tree (D := f4_l9_D p9_21 p9_22) (E := f4_l9_E p9_21 p9_22) (f4_l9_v p9_21 p9_22) (f4_l9_o d p9_21 p9_22) h hw
def f4_l17_D (p17_50 : Int) (p17_51 : List Int) (p17_52 : Int) (p17_107 : List Int) (p17_221 : Nat) (p17_222 : List Int) (x : Int) : St := St.mk [(5, SV.av (AV.one (Lf.v (Value.int IntKind.i64 p17_50)))), (6, SV.av (AV.one (Lf.dat (K.sl (K.int IntKind.i64)) p17_51))), (8, SV.av (AV.one (Lf.own 31751 0 0 p17_221 1))), (10, SV.av (AV.one (Lf.own 31752 0 0 (List.length p17_222) 1))), (11, SV.av (AV.one (Lf.v (Value.int IntKind.i64 p17_52)))), (12, SV.av (AV.one (Lf.v (Value.int IntKind.i64 x))))] [(31751, Blk.row 3 (K.int IntKind.i64) p17_107), (31752, Blk.row 5 (K.int IntKind.u8) p17_222)]
def f4_l17_E0 (p17_50 : Int) (p17_51 : List Int) (p17_52 : Int) (p17_107 : List Int) (p17_221 : Nat) (p17_222 : List Int) (y : Int × Nat × List Int) : St := St.mk [(5, SV.av (AV.one (Lf.v (Value.int IntKind.i64 p17_50)))), (6, SV.av (AV.one (Lf.dat (K.sl (K.int IntKind.i64)) p17_51))), (8, SV.av (AV.one (Lf.own 61700 0 0 (Prod.fst (Prod.snd y)) 1))), (10, SV.av (AV.one (Lf.own 61751 0 0 (List.length (Prod.snd (Prod.snd y))) 1))), (11, SV.av (AV.one (Lf.v (Value.int IntKind.i64 p17_52)))), (12, SV.av (AV.one (Lf.v (Value.int IntKind.i64 (Prod.fst y)))))] [(61700, Blk.row 3 (K.int IntKind.i64) p17_107), (61751, Blk.row 5 (K.int IntKind.u8) (Prod.snd (Prod.snd y)))]
def f4_l17_E (p17_50 : Int) (p17_51 : List Int) (p17_52 : Int) (p17_107 : List Int) (p17_221 : Nat) (p17_222 : List Int) : Int × Nat × List Int → Ex × St
  | y => (Ex.exit 4, f4_l17_E0 p17_50 p17_51 p17_52 p17_107 p17_221 p17_222 y)
noncomputable def f4_l17_t (p17_50 : Int) (p17_51 : List Int) (p17_52 : Int) (p17_107 : List Int) (p17_221 : Nat) (p17_222 : List Int) (x : Int) : DT (Ex × St) ((Int) ⊕ (Int × Nat × List Int)) :=
 (.ask (ilt x p17_52)
 (.sure (ilt x p17_52) true
 (.sure (ilt x p17_52) true
 (.need (ile 0 x) true
 (.need (ilt x ↑p17_221) true
 (.sure (ilt x p17_52) true
 (.need (nlt (0 + Int.toNat x) (List.length p17_107)) true
 (.sure (ilt x p17_52) true
 (.sure (ilt x p17_52) true
 (.sure (ilt x p17_52) true
 (.need (ile 0 p17_52) true
 (.need (ilt p17_52 (llen p17_51)) true
 (.sure (ilt x p17_52) true
 (.sure (ilt x p17_52) true
 (.sure (ilt x p17_52) true
 (.ask (bno (ieq (gd (K.int IntKind.i64) p17_107 (0 + Int.toNat x)) (gd (K.int IntKind.i64) p17_51 (Int.toNat p17_52))))
 (.leaf (Vam.Ex.normal, St.mk [(5, SV.av (AV.one (Lf.v (Value.int IntKind.i64 p17_50)))), (6, SV.av (AV.one (Lf.dat (K.sl (K.int IntKind.i64)) p17_51))), (8, SV.av (AV.one (Lf.own 31751 0 0 p17_221 1))), (10, SV.av (AV.one (Lf.own 31752 0 0 (List.length p17_222) 1))), (11, SV.av (AV.one (Lf.v (Value.int IntKind.i64 p17_52)))), (12, SV.av (AV.one (Lf.v (Value.int IntKind.i64 (iadd IntKind.i64 x 1)))))] [(31751, Blk.row 3 (K.int IntKind.i64) p17_107), (31752, Blk.row 5 (K.int IntKind.u8) p17_222)]) (.inl (iadd IntKind.i64 x 1)))
 (.leaf (Ex.exit 4, St.mk [(5, SV.av (AV.one (Lf.v (Value.int IntKind.i64 p17_50)))), (6, SV.av (AV.one (Lf.dat (K.sl (K.int IntKind.i64)) p17_51))), (8, SV.av (AV.one (Lf.own 31751 0 0 p17_221 1))), (10, SV.av (AV.one (Lf.own 31752 0 0 (List.length p17_222) 1))), (11, SV.av (AV.one (Lf.v (Value.int IntKind.i64 p17_52)))), (12, SV.av (AV.one (Lf.v (Value.int IntKind.i64 x))))] [(31751, Blk.row 3 (K.int IntKind.i64) p17_107), (31752, Blk.row 5 (K.int IntKind.u8) p17_222)]) (.inr ((x, p17_221, p17_222)))))))))))))))))))
 (.sure (ilt x p17_52) false
 (.sure (ilt x p17_52) false
 (.sure (ilt x p17_52) false
 (.sure (ilt x p17_52) false
 (.sure (ilt x p17_52) false
 (.sure (ilt x p17_52) false
 (.sure (ilt x p17_52) false
 (.sure (ilt x p17_52) false
 (.sure (ilt x p17_52) false
 (.sure (false) false
 (.leaf (Ex.exit 4, St.mk [(5, SV.av (AV.one (Lf.v (Value.int IntKind.i64 p17_50)))), (6, SV.av (AV.one (Lf.dat (K.sl (K.int IntKind.i64)) p17_51))), (8, SV.av (AV.one (Lf.own 31751 0 0 p17_221 1))), (10, SV.av (AV.one (Lf.own 31752 0 0 (List.length p17_222) 1))), (11, SV.av (AV.one (Lf.v (Value.int IntKind.i64 p17_52)))), (12, SV.av (AV.one (Lf.v (Value.int IntKind.i64 x))))] [(31751, Blk.row 3 (K.int IntKind.i64) p17_107), (31752, Blk.row 5 (K.int IntKind.u8) p17_222)]) (.inr ((x, p17_221, p17_222)))))))))))))))
theorem f4_l17_v (p17_50 : Int) (p17_51 : List Int) (p17_52 : Int) (p17_107 : List Int) (p17_221 : Nat) (p17_222 : List Int) (x : Int) : vc (execK P noG Try.f4.ntmps f4_hn [5, 6, 8, 10, 11, 12] (loopOf Try.f4 17) (f4_l17_D p17_50 p17_51 p17_52 p17_107 p17_221 p17_222 x)) (f4_l17_t p17_50 p17_51 p17_52 p17_107 p17_221 p17_222 x) = vcT (f4_l17_t p17_50 p17_51 p17_52 p17_107 p17_221 p17_222 x) := by kernel_rfl
theorem f4_l17_o (d : Nat) (p17_50 : Int) (p17_51 : List Int) (p17_52 : Int) (p17_107 : List Int) (p17_221 : Nat) (p17_222 : List Int) (x : Int) : obl (Snd P noG) (Lp P noG Try.f4.ntmps [] f4_hn d) (RelL Try.f4.ntmps noG [] (f4_l17_D p17_50 p17_51 p17_52 p17_107 p17_221 p17_222) (f4_l17_E p17_50 p17_51 p17_52 p17_107 p17_221 p17_222)) (f4_l17_t p17_50 p17_51 p17_52 p17_107 p17_221 p17_222 x) := by
 unfold f4_l17_t
 exact (oAsk (fun h0 => (oSure h0 (oSure h0 (oNeed fun h1 => (oNeed fun h2 => (oSure h0 (oNeed fun h3 => (oSure h0 (oSure h0 (oSure h0 (oNeed fun h4 => (oNeed fun h5 => (oSure h0 (oSure h0 (oSure h0 (oAsk (fun h6 => (oLeaf (relN (wk_tw [(31752, 31752), (31751, 31751)] [5, 6, 8, 10, 11, 12] [] (by kernel_rfl) (by kernel_rfl)))))
 (fun h6 => (oLeaf (relE rfl (wk_tw [(31752, 61751), (31751, 61700)] [5, 6, 8, 10, 11, 12] [] (by kernel_rfl) (by kernel_rfl)))))))))))))))))))))
 (fun h0 => (oSure h0 (oSure h0 (oSure h0 (oSure h0 (oSure h0 (oSure h0 (oSure h0 (oSure h0 (oSure h0 (oSure rfl (oLeaf (relE rfl (wk_tw [(31752, 61751), (31751, 61700)] [5, 6, 8, 10, 11, 12] [] (by kernel_rfl) (by kernel_rfl))))))))))))))))
noncomputable def f4_l17_m (p17_50 : Int) (p17_51 : List Int) (p17_52 : Int) (p17_107 : List Int) (p17_221 : Nat) (p17_222 : List Int) (x : Int) : Option (Int × Nat × List Int) := lrun (fun x => mod (f4_l17_t p17_50 p17_51 p17_52 p17_107 p17_221 p17_222 x)) x
theorem f4_l17_e (p17_50 : Int) (p17_51 : List Int) (p17_52 : Int) (p17_107 : List Int) (p17_221 : Nat) (p17_222 : List Int) (x : Int) : mod (f4_l17_t p17_50 p17_51 p17_52 p17_107 p17_221 p17_222 x) =
 (sel (ilt x p17_52)
 (sel (ile 0 x)
 (sel (ilt x ↑p17_221)
 (sel (nlt (0 + Int.toNat x) (List.length p17_107))
 (sel (ile 0 p17_52)
 (sel (ilt p17_52 (llen p17_51))
 (sel (bno (ieq (gd (K.int IntKind.i64) p17_107 (0 + Int.toNat x)) (gd (K.int IntKind.i64) p17_51 (Int.toNat p17_52))))
 (some ((.inl (iadd IntKind.i64 x 1))))
 (some ((.inr ((x, p17_221, p17_222)))))) none) none) none) none) none)
 (some ((.inr ((x, p17_221, p17_222)))))) := by kernel_rfl
theorem f4_l17_s0 (d : Nat) {p17_50 : Int} {p17_51 : List Int} {p17_52 : Int} {p17_107 : List Int} {p17_221 : Nat} {p17_222 : List Int} {σ : St} {x : Int} {z : Int × Nat × List Int} (h : f4_l17_m p17_50 p17_51 p17_52 p17_107 p17_221 p17_222 x = some z) (hw : Wk Try.f4.ntmps noG [] σ (f4_l17_D p17_50 p17_51 p17_52 p17_107 p17_221 p17_222 x)) : Lp P noG Try.f4.ntmps [] f4_hn (d + 1) (loopOf Try.f4 17) σ (Ex.exit 4) (f4_l17_E0 p17_50 p17_51 p17_52 p17_107 p17_221 p17_222 z) :=
 lp_tree (D := f4_l17_D p17_50 p17_51 p17_52 p17_107 p17_221 p17_222) (E := f4_l17_E p17_50 p17_51 p17_52 p17_107 p17_221 p17_222) (f4_l17_v p17_50 p17_51 p17_52 p17_107 p17_221 p17_222) (f4_l17_o d p17_50 p17_51 p17_52 p17_107 p17_221 p17_222) h hw
def f4_l14_D (p14_46 : Int) (p14_47 : List Int) (x : Nat × List Int × List Int × Int) : St := St.mk [(5, SV.av (AV.one (Lf.v (Value.int IntKind.i64 p14_46)))), (6, SV.av (AV.one (Lf.dat (K.sl (K.int IntKind.i64)) p14_47))), (8, SV.av (AV.one (Lf.own 31451 0 0 (Prod.fst x) 1))), (10, SV.av (AV.one (Lf.own 31452 0 0 (List.length (Prod.fst (Prod.snd (Prod.snd x)))) 1))), (11, SV.av (AV.one (Lf.v (Value.int IntKind.i64 (Prod.snd (Prod.snd (Prod.snd x)))))))] [(31451, Blk.row 3 (K.int IntKind.i64) (Prod.fst (Prod.snd x))), (31452, Blk.row 5 (K.int IntKind.u8) (Prod.fst (Prod.snd (Prod.snd x))))]
def f4_l14_E0 (p14_46 : Int) (p14_47 : List Int) (y : List Int) : St := St.mk [(5, SV.av (AV.one (Lf.v (Value.int IntKind.i64 p14_46)))), (6, SV.av (AV.one (Lf.dat (K.sl (K.int IntKind.i64)) p14_47))), (10, SV.av (AV.one (Lf.own 61451 0 0 (List.length y) 1)))] [(61451, Blk.row 5 (K.int IntKind.u8) y)]
def f4_l14_E (p14_46 : Int) (p14_47 : List Int) : List Int → Ex × St
  | y => (Ex.exit 2, f4_l14_E0 p14_46 p14_47 y)
def f4_s0 (x : Nat × List Int × List Int × Int) (z281 : Int × Nat × List Int) : List Int := List.set (List.set (Prod.fst (Prod.snd x)) (0 + Int.toNat (Prod.snd (Prod.snd (Prod.snd x)))) (gd (K.int IntKind.i64) (Prod.fst (Prod.snd x)) (0 + Int.toNat (Prod.fst z281)))) (0 + Int.toNat (Prod.fst z281)) (gd (K.int IntKind.i64) (Prod.fst (Prod.snd x)) (0 + Int.toNat (Prod.snd (Prod.snd (Prod.snd x)))))
noncomputable def f4_l14_t (p14_46 : Int) (p14_47 : List Int) (x : Nat × List Int × List Int × Int) : DT (Ex × St) ((Nat × List Int × List Int × Int) ⊕ (List Int)) :=
 (.ask (ile 1 (Prod.snd (Prod.snd (Prod.snd x))))
 (.loop (loopOf Try.f4 17) (St.mk [(5, SV.av (AV.one (Lf.v (Value.int IntKind.i64 p14_46)))), (6, SV.av (AV.one (Lf.dat (K.sl (K.int IntKind.i64)) p14_47))), (8, SV.av (AV.one (Lf.own 31451 0 0 (Prod.fst x) 1))), (10, SV.av (AV.one (Lf.own 31452 0 0 (List.length (Prod.fst (Prod.snd (Prod.snd x)))) 1))), (11, SV.av (AV.one (Lf.v (Value.int IntKind.i64 (Prod.snd (Prod.snd (Prod.snd x))))))), (12, SV.av (AV.one (Lf.v (Value.int IntKind.i64 0))))] [(31451, Blk.row 3 (K.int IntKind.i64) (Prod.fst (Prod.snd x))), (31452, Blk.row 5 (K.int IntKind.u8) (Prod.fst (Prod.snd (Prod.snd x))))]) (f4_l17_m p14_46 p14_47 (Prod.snd (Prod.snd (Prod.snd x))) (Prod.fst (Prod.snd x)) (Prod.fst x) (Prod.fst (Prod.snd (Prod.snd x))) 0) (Ex.exit 4) (f4_l17_E0 p14_46 p14_47 (Prod.snd (Prod.snd (Prod.snd x))) (Prod.fst (Prod.snd x)) (Prod.fst x) (Prod.fst (Prod.snd (Prod.snd x)))) fun z281 =>
 (.need (ile 0 (Prod.fst z281)) true
 (.need (ilt (Prod.fst z281) ↑(Prod.fst (Prod.snd z281))) true
 (.need (nlt (0 + Int.toNat (Prod.fst z281)) (List.length (Prod.fst (Prod.snd x)))) true
 (.need (ile 0 (Prod.snd (Prod.snd (Prod.snd x)))) true
 (.need (ilt (Prod.snd (Prod.snd (Prod.snd x))) ↑(Prod.fst (Prod.snd z281))) true
 (.need (nlt (0 + Int.toNat (Prod.snd (Prod.snd (Prod.snd x)))) (List.length (Prod.fst (Prod.snd x)))) true
 (.sure (ile 0 (Prod.snd (Prod.snd (Prod.snd x)))) true
 (.sure (ilt (Prod.snd (Prod.snd (Prod.snd x))) ↑(Prod.fst (Prod.snd z281))) true
 (.sure (nlt (0 + Int.toNat (Prod.snd (Prod.snd (Prod.snd x)))) (List.length (Prod.fst (Prod.snd x)))) true
 (.sure (ile 0 (Prod.fst z281)) true
 (.sure (ilt (Prod.fst z281) ↑(Prod.fst (Prod.snd z281))) true
 (.need (nlt (0 + Int.toNat (Prod.fst z281)) (List.length (List.set (Prod.fst (Prod.snd x)) (0 + Int.toNat (Prod.snd (Prod.snd (Prod.snd x)))) (gd (K.int IntKind.i64) (Prod.fst (Prod.snd x)) (0 + Int.toNat (Prod.fst z281)))))) true
 (.pick true (.sure (true) true
 (.pick true (.sure (true) true
 (.sure (nEq (List.length (Prod.snd (Prod.snd z281))) (List.length (Prod.snd (Prod.snd z281)))) true
 (.need (nle (List.length (List.append (Prod.snd (Prod.snd z281)) [icv IntKind.u8 (Prod.fst z281), 0])) 9223372036854775807) true
 (.need (nle (List.length (List.append (Prod.snd (Prod.snd z281)) [icv IntKind.u8 (Prod.fst z281), 0]) * 1) 140737488355328) true
 (.leaf (Vam.Ex.normal, St.mk [(5, SV.av (AV.one (Lf.v (Value.int IntKind.i64 p14_46)))), (6, SV.av (AV.one (Lf.dat (K.sl (K.int IntKind.i64)) p14_47))), (8, SV.av (AV.one (Lf.own 61700 0 0 (Prod.fst (Prod.snd z281)) 1))), (10, SV.av (AV.one (Lf.own 82 0 0 (List.length (List.append (Prod.snd (Prod.snd z281)) [icv IntKind.u8 (Prod.fst z281), 0])) 1))), (11, SV.av (AV.one (Lf.v (Value.int IntKind.i64 (isub IntKind.i64 (Prod.snd (Prod.snd (Prod.snd x))) 1)))))] [(81, Blk.row 5 (K.int IntKind.u8) [icv IntKind.u8 (Prod.fst z281), 0]), (82, Blk.row 5 (K.int IntKind.u8) (List.append (Prod.snd (Prod.snd z281)) [icv IntKind.u8 (Prod.fst z281), 0])), (61700, Blk.row 3 (K.int IntKind.i64) (f4_s0 x z281)), (61751, Blk.dead)]) (.inl ((Prod.fst (Prod.snd z281), f4_s0 x z281, List.append (Prod.snd (Prod.snd z281)) [icv IntKind.u8 (Prod.fst z281), 0], isub IntKind.i64 (Prod.snd (Prod.snd (Prod.snd x))) 1))))))))))))))))))))))))
 (.leaf (Ex.exit 2, St.mk [(5, SV.av (AV.one (Lf.v (Value.int IntKind.i64 p14_46)))), (6, SV.av (AV.one (Lf.dat (K.sl (K.int IntKind.i64)) p14_47))), (8, SV.av (AV.one (Lf.own 31451 0 0 (Prod.fst x) 1))), (10, SV.av (AV.one (Lf.own 31452 0 0 (List.length (Prod.fst (Prod.snd (Prod.snd x)))) 1))), (11, SV.av (AV.one (Lf.v (Value.int IntKind.i64 (Prod.snd (Prod.snd (Prod.snd x)))))))] [(31451, Blk.row 3 (K.int IntKind.i64) (Prod.fst (Prod.snd x))), (31452, Blk.row 5 (K.int IntKind.u8) (Prod.fst (Prod.snd (Prod.snd x))))]) (.inr (Prod.fst (Prod.snd (Prod.snd x))))))
theorem f4_l14_v (p14_46 : Int) (p14_47 : List Int) (x : Nat × List Int × List Int × Int) : vc (execK P noG Try.f4.ntmps f4_hn [5, 6, 8, 10, 11] (loopOf Try.f4 14) (f4_l14_D p14_46 p14_47 x)) (f4_l14_t p14_46 p14_47 x) = vcT (f4_l14_t p14_46 p14_47 x) := by kernel_rfl
theorem f4_l14_o (d : Nat) (p14_46 : Int) (p14_47 : List Int) (x : Nat × List Int × List Int × Int) : obl (Snd P noG) (Lp P noG Try.f4.ntmps [] f4_hn (d + 1)) (RelL Try.f4.ntmps noG [] (f4_l14_D p14_46 p14_47) (f4_l14_E p14_46 p14_47)) (f4_l14_t p14_46 p14_47 x) := by
 unfold f4_l14_t
 exact (oAsk (fun h0 => (oLoop (fun _ e => f4_l17_s0 d e (wk_tw [(31452, 31752), (31451, 31751)] [5, 6, 8, 10, 11, 12] [] (by kernel_rfl) (by kernel_rfl))) fun z281 _ =>
 (oNeed fun h1 => (oNeed fun h2 => (oNeed fun h3 => (oNeed fun h4 => (oNeed fun h5 => (oNeed fun h6 => (oSure h4 (oSure h5 (oSure h6 (oSure h1 (oSure h2 (oNeed fun h7 => (oPick (oSure rfl (oPick (oSure rfl (oSure (nEq_t.2 rfl) (oNeed fun h8 => (oNeed fun h9 => (oLeaf (relN (wk_tw [(82, 31452), (61700, 31451)] [5, 6, 8, 10, 11] [] (by kernel_rfl) (by kernel_rfl)))))))))))))))))))))))))
 (fun h0 => (oLeaf (relE rfl (wk_tw [(31452, 61451)] [5, 6, 10] [] (by kernel_rfl) (by kernel_rfl))))))
noncomputable def f4_l14_m (p14_46 : Int) (p14_47 : List Int) (x : Nat × List Int × List Int × Int) : Option (List Int) := lrun (fun x => mod (f4_l14_t p14_46 p14_47 x)) x
theorem f4_l14_e (p14_46 : Int) (p14_47 : List Int) (x : Nat × List Int × List Int × Int) : mod (f4_l14_t p14_46 p14_47 x) =
 (sel (ile 1 (Prod.snd (Prod.snd (Prod.snd x))))
 (Option.bind (f4_l17_m p14_46 p14_47 (Prod.snd (Prod.snd (Prod.snd x))) (Prod.fst (Prod.snd x)) (Prod.fst x) (Prod.fst (Prod.snd (Prod.snd x))) 0) fun z281 =>
 (sel (ile 0 (Prod.fst z281))
 (sel (ilt (Prod.fst z281) ↑(Prod.fst (Prod.snd z281)))
 (sel (nlt (0 + Int.toNat (Prod.fst z281)) (List.length (Prod.fst (Prod.snd x))))
 (sel (ile 0 (Prod.snd (Prod.snd (Prod.snd x))))
 (sel (ilt (Prod.snd (Prod.snd (Prod.snd x))) ↑(Prod.fst (Prod.snd z281)))
 (sel (nlt (0 + Int.toNat (Prod.snd (Prod.snd (Prod.snd x)))) (List.length (Prod.fst (Prod.snd x))))
 (sel (nlt (0 + Int.toNat (Prod.fst z281)) (List.length (List.set (Prod.fst (Prod.snd x)) (0 + Int.toNat (Prod.snd (Prod.snd (Prod.snd x)))) (gd (K.int IntKind.i64) (Prod.fst (Prod.snd x)) (0 + Int.toNat (Prod.fst z281))))))
 (sel (nle (List.length (List.append (Prod.snd (Prod.snd z281)) [icv IntKind.u8 (Prod.fst z281), 0])) 9223372036854775807)
 (sel (nle (List.length (List.append (Prod.snd (Prod.snd z281)) [icv IntKind.u8 (Prod.fst z281), 0]) * 1) 140737488355328)
 (some ((.inl ((Prod.fst (Prod.snd z281), f4_s0 x z281, List.append (Prod.snd (Prod.snd z281)) [icv IntKind.u8 (Prod.fst z281), 0], isub IntKind.i64 (Prod.snd (Prod.snd (Prod.snd x))) 1))))) none) none) none) none) none) none) none) none) none))
 (some ((.inr (Prod.fst (Prod.snd (Prod.snd x))))))) := by kernel_rfl
theorem f4_l14_s0 (d : Nat) {p14_46 : Int} {p14_47 : List Int} {σ : St} {x : Nat × List Int × List Int × Int} {z : List Int} (h : f4_l14_m p14_46 p14_47 x = some z) (hw : Wk Try.f4.ntmps noG [] σ (f4_l14_D p14_46 p14_47 x)) : Lp P noG Try.f4.ntmps [] f4_hn (d + 2) (loopOf Try.f4 14) σ (Ex.exit 2) (f4_l14_E0 p14_46 p14_47 z) :=
 lp_tree (D := f4_l14_D p14_46 p14_47) (E := f4_l14_E p14_46 p14_47) (f4_l14_v p14_46 p14_47) (f4_l14_o d p14_46 p14_47) h hw
def f4_R (a0 : ByteArray) (a1 : Int) : Bool → SV × Hp
  | z => (SV.av (AV.one (Lf.v (Value.bool z))), [])
noncomputable def f4_t (a0 : ByteArray) (a1 : Int) : DT (SV × Hp) (Bool) :=
 (.ask (ilt 300 (ssz a0))
 (.call 7 [] [] (f7_m) (fun z283 => SV.av (AV.one (Lf.v (Value.bool z283)))) (fun z283 => []) fun z283 =>
 (.leaf (SV.av (AV.one (Lf.v (Value.bool z283))), []) (z283)))
 (.sure (true) true
 (.call 14 [AV.one (Lf.ptr 0 0 0 0 0), AV.one (Lf.v (Value.int IntKind.i64 (irem (icv IntKind.i64 a1) 65))), AV.one (Lf.v (Value.int IntKind.i64 1))] [(0, Blk.cells 41 [Lf.v (Value.string a0), Lf.v (Value.int IntKind.i64 0)])] (f14_m a0 0 (irem (icv IntKind.i64 a1) 65) 1) (fun z299 => SV.tup [AV.one (Lf.dat (K.sl (K.int IntKind.i64)) (Prod.snd (Prod.snd z299))), AV.one (Lf.v (Value.int IntKind.i64 (Prod.fst (Prod.snd z299))))]) (fun z299 => [(0, Blk.cells 41 [Lf.v (Value.string a0), Lf.v (Value.int IntKind.i64 (Prod.fst z299))])]) fun z299 =>
 (.ask (bno (ieq (Prod.fst (Prod.snd z299)) 0))
 (.call 7 [] [] (f7_m) (fun z301 => SV.av (AV.one (Lf.v (Value.bool z301)))) (fun z301 => []) fun z301 =>
 (.leaf (SV.av (AV.one (Lf.v (Value.bool z301))), [(25, Blk.cells 41 [Lf.v (Value.string a0), Lf.v (Value.int IntKind.i64 (Prod.fst z299))])]) (z301)))
 (.loop (loopOf Try.f4 9) (St.mk [(5, SV.av (AV.one (Lf.v (Value.int IntKind.i64 (irem (icv IntKind.i64 a1) 65))))), (6, SV.av (AV.one (Lf.dat (K.sl (K.int IntKind.i64)) (Prod.snd (Prod.snd z299))))), (8, SV.av (AV.one (Lf.v (Value.slice none 0 0)))), (9, SV.av (AV.one (Lf.v (Value.int IntKind.i64 0))))] [(25, Blk.cells 41 [Lf.v (Value.string a0), Lf.v (Value.int IntKind.i64 (Prod.fst z299))])]) (f4_l9_m (irem (icv IntKind.i64 a1) 65) (Prod.snd (Prod.snd z299)) ([], 0)) (Ex.exit 0) (f4_l9_E0 (irem (icv IntKind.i64 a1) 65) (Prod.snd (Prod.snd z299))) fun z302 =>
 (.loop (loopOf Try.f4 14) (St.mk [(5, SV.av (AV.one (Lf.v (Value.int IntKind.i64 (irem (icv IntKind.i64 a1) 65))))), (6, SV.av (AV.one (Lf.dat (K.sl (K.int IntKind.i64)) (Prod.snd (Prod.snd z299))))), (8, SV.av (AV.one (Lf.own 60951 0 0 (List.length z302) 1))), (10, SV.av (AV.one (Lf.v (Value.slice none 0 0)))), (11, SV.av (AV.one (Lf.v (Value.int IntKind.i64 (isub IntKind.i64 (irem (icv IntKind.i64 a1) 65) 1)))))] [(60951, Blk.row 3 (K.int IntKind.i64) z302)]) (f4_l14_m (irem (icv IntKind.i64 a1) 65) (Prod.snd (Prod.snd z299)) (List.length z302, z302, [], isub IntKind.i64 (irem (icv IntKind.i64 a1) 65) 1)) (Ex.exit 2) (f4_l14_E0 (irem (icv IntKind.i64 a1) 65) (Prod.snd (Prod.snd z299))) fun z303 =>
 (.pick true (.sure (nEq (List.length z303) (List.length z303)) true
 (.call 9 [AV.one (Lf.v (Value.string (strOfNums z303)))] [] (f9_m (strOfNums z303)) (fun z307 => SV.av (AV.one (Lf.ptr 100 0 0 0 0))) (fun z307 => [(100, Blk.cells 55 [Lf.v (Value.string (strOfNums z303)), Lf.v (Value.int IntKind.i64 0)])]) fun z307 =>
 (.call 8 [AV.one (Lf.ptr 0 0 0 0 0), AV.one (Lf.v (Value.int IntKind.i64 (irem (icv IntKind.i64 a1) 65))), AV.one (Lf.v (Value.int IntKind.i64 1))] [(0, Blk.cells 55 [Lf.v (Value.string (strOfNums z303)), Lf.v (Value.int IntKind.i64 0)])] (f8_m (strOfNums z303) 0 (irem (icv IntKind.i64 a1) 65) 1) (fun z323 => SV.tup [AV.one (Lf.dat (K.sl (K.int IntKind.i64)) (Prod.snd (Prod.snd z323))), AV.one (Lf.v (Value.int IntKind.i64 (Prod.fst (Prod.snd z323))))]) (fun z323 => [(0, Blk.cells 55 [Lf.v (Value.string (strOfNums z303)), Lf.v (Value.int IntKind.i64 (Prod.fst z323))])]) fun z323 =>
 (.ask (ieq (Prod.fst (Prod.snd z323)) 0)
 (.sure (ieq (Prod.fst (Prod.snd z323)) 0) true
 (.sure (ieq (Prod.fst (Prod.snd z323)) 0) true
 (.call 12 [AV.one (Lf.dat (K.sl (K.int IntKind.i64)) (Prod.snd (Prod.snd z323))), AV.one (Lf.dat (K.sl (K.int IntKind.i64)) (Prod.snd (Prod.snd z299)))] [] (f12_m (Prod.snd (Prod.snd z323)) (Prod.snd (Prod.snd z299))) (fun z331 => SV.av (AV.one (Lf.v (Value.bool z331)))) (fun z331 => []) fun z331 =>
 (.sure (ieq (Prod.fst (Prod.snd z323)) 0) true
 (.ask (z331)
 (.call 7 [] [] (f7_m) (fun z333 => SV.av (AV.one (Lf.v (Value.bool z333)))) (fun z333 => []) fun z333 =>
 (.sure (z331) true
 (.leaf (SV.av (AV.one (Lf.v (Value.bool z333))), [(86, Blk.cells 55 [Lf.v (Value.string (strOfNums z303)), Lf.v (Value.int IntKind.i64 (Prod.fst z323))]), (61451, Blk.row 5 (K.int IntKind.u8) z303)]) (z333))))
 (.sure (z331) false
 (.leaf (SV.av (AV.one (Lf.v (Value.bool false))), [(86, Blk.cells 55 [Lf.v (Value.string (strOfNums z303)), Lf.v (Value.int IntKind.i64 (Prod.fst z323))]), (61451, Blk.row 5 (K.int IntKind.u8) z303)]) (false))))))))
 (.sure (ieq (Prod.fst (Prod.snd z323)) 0) false
 (.sure (ieq (Prod.fst (Prod.snd z323)) 0) false
 (.sure (ieq (Prod.fst (Prod.snd z323)) 0) false
 (.sure (false) false
 (.sure (false) false
 (.leaf (SV.av (AV.one (Lf.v (Value.bool false))), [(86, Blk.cells 55 [Lf.v (Value.string (strOfNums z303)), Lf.v (Value.int IntKind.i64 (Prod.fst z323))]), (61451, Blk.row 5 (K.int IntKind.u8) z303)]) (false))))))))))))))))))
theorem f4_v (a0 : ByteArray) (a1 : Int) : vc (runR P noG Try.f4 f4_hn [AV.one (Lf.v (Value.string a0)), AV.one (Lf.v (Value.int IntKind.u8 a1))] []) (f4_t a0 a1) = vcT (f4_t a0 a1) := by kernel_rfl
theorem f4_o (a0 : ByteArray) (a1 : Int) : obl (Snd P noG) (Lp P noG Try.f4.ntmps [] f4_hn 2) (RelF [] (f4_R a0 a1)) (f4_t a0 a1) := by
 unfold f4_t
 exact (oAsk (fun h0 => (oCall (fun _ e => f7_s e) fun z283 _ =>
 (oLeaf (wks_tw [] [] (by kernel_rfl) (by kernel_rfl)))))
 (fun h0 => (oSure rfl (oCall (fun _ e => f14_s e) fun z299 _ =>
 (oAsk (fun h1 => (oCall (fun _ e => f7_s e) fun z301 _ =>
 (oLeaf (wks_tw [] [] (by kernel_rfl) (by kernel_rfl)))))
 (fun h1 => (oLoop (fun _ e => f4_l9_s0 1 e (wk_tw [] [5, 6, 8, 9] [(30951, 3, K.int IntKind.i64)] (by kernel_rfl) (by kernel_rfl))) fun z302 _ =>
 (oLoop (fun _ e => f4_l14_s0 0 e (wk_tw [(60951, 31451)] [5, 6, 8, 10, 11] [(31452, 5, K.int IntKind.u8)] (by kernel_rfl) (by kernel_rfl))) fun z303 _ =>
 (oPick (oSure (nEq_t.2 rfl) (oCall (fun _ e => f9_s e) fun z307 _ =>
 (oCall (fun _ e => f8_s e) fun z323 _ =>
 (oAsk (fun h2 => (oSure h2 (oSure h2 (oCall (fun _ e => f12_s e) fun z331 _ =>
 (oSure h2 (oAsk (fun h3 => (oCall (fun _ e => f7_s e) fun z333 _ =>
 (oSure h3 (oLeaf (wks_tw [] [] (by kernel_rfl) (by kernel_rfl))))))
 (fun h3 => (oSure h3 (oLeaf (wks_tw [] [] (by kernel_rfl) (by kernel_rfl)))))))))))
 (fun h2 => (oSure h2 (oSure h2 (oSure h2 (oSure rfl (oSure rfl (oLeaf (wks_tw [] [] (by kernel_rfl) (by kernel_rfl))))))))))))))))))))))
noncomputable def f4_m (a0 : ByteArray) (a1 : Int) : Option (Bool) := mod (f4_t a0 a1)
theorem f4_e (a0 : ByteArray) (a1 : Int) : f4_m a0 a1 =
 (sel (ilt 300 (ssz a0))
 (Option.bind (f7_m) fun z283 =>
 (some ((z283))))
 (Option.bind (f14_m a0 0 (irem (icv IntKind.i64 a1) 65) 1) fun z299 =>
 (sel (bno (ieq (Prod.fst (Prod.snd z299)) 0))
 (Option.bind (f7_m) fun z301 =>
 (some ((z301))))
 (Option.bind (f4_l9_m (irem (icv IntKind.i64 a1) 65) (Prod.snd (Prod.snd z299)) ([], 0)) fun z302 =>
 (Option.bind (f4_l14_m (irem (icv IntKind.i64 a1) 65) (Prod.snd (Prod.snd z299)) (List.length z302, z302, [], isub IntKind.i64 (irem (icv IntKind.i64 a1) 65) 1)) fun z303 =>
 (Option.bind (f9_m (strOfNums z303)) fun z307 =>
 (Option.bind (f8_m (strOfNums z303) 0 (irem (icv IntKind.i64 a1) 65) 1) fun z323 =>
 (sel (ieq (Prod.fst (Prod.snd z323)) 0)
 (Option.bind (f12_m (Prod.snd (Prod.snd z323)) (Prod.snd (Prod.snd z299))) fun z331 =>
 (sel (z331)
 (Option.bind (f7_m) fun z333 =>
 (some ((z333))))
 (some ((false)))))
 (some ((false))))))))))) := by kernel_rfl
theorem f4_s {a0 : ByteArray} {a1 : Int} {z : Bool} (h : f4_m a0 a1 = some z) : Snd P noG 4 [AV.one (Lf.v (Value.string a0)), AV.one (Lf.v (Value.int IntKind.u8 a1))] [] (SV.av (AV.one (Lf.v (Value.bool z)))) [] :=
 snd_tree (hn := f4_hn) 2 (f4_R a0 a1) mixed (by kernel_rfl) (by kernel_rfl) (by kernel_rfl) (by kernel_rfl) (by kernel_rfl) (f4_v a0 a1) (f4_o a0 a1) h
def f15_hn : Hn := Hn.mk [] [] [] [] []
def f15_R (a0_0 : ByteArray) (a0_1 : Int) : Unit → SV × Hp
  | z => (SV.av (AV.one (Lf.v (Value.int IntKind.i64 a0_1))), [(0, Blk.cells 55 [Lf.v (Value.string a0_0), Lf.v (Value.int IntKind.i64 a0_1)])])
noncomputable def f15_t (a0_0 : ByteArray) (a0_1 : Int) : DT (SV × Hp) (Unit) :=
 (.sure (false) false
 (.leaf (SV.av (AV.one (Lf.v (Value.int IntKind.i64 a0_1))), [(0, Blk.cells 55 [Lf.v (Value.string a0_0), Lf.v (Value.int IntKind.i64 a0_1)])]) (())))
theorem f15_v (a0_0 : ByteArray) (a0_1 : Int) : vc (runR P noG Try.f15 f15_hn [AV.one (Lf.ptr 0 0 0 0 0)] [(0, Blk.cells 55 [Lf.v (Value.string a0_0), Lf.v (Value.int IntKind.i64 a0_1)])]) (f15_t a0_0 a0_1) = vcT (f15_t a0_0 a0_1) := by kernel_rfl
theorem f15_o (a0_0 : ByteArray) (a0_1 : Int) : obl (Snd P noG) (Lp P noG Try.f15.ntmps [0] f15_hn 1) (RelF [0] (f15_R a0_0 a0_1)) (f15_t a0_0 a0_1) := by
 unfold f15_t
 exact (oSure rfl (oLeaf (wks_tw [(0, 0)] [] (by kernel_rfl) (by kernel_rfl))))
noncomputable def f15_m (a0_0 : ByteArray) (a0_1 : Int) : Option (Unit) := mod (f15_t a0_0 a0_1)
theorem f15_e (a0_0 : ByteArray) (a0_1 : Int) : f15_m a0_0 a0_1 =
 (some ((()))) := by kernel_rfl
theorem f15_s {a0_0 : ByteArray} {a0_1 : Int} {z : Unit} (h : f15_m a0_0 a0_1 = some z) : Snd P noG 15 [AV.one (Lf.ptr 0 0 0 0 0)] [(0, Blk.cells 55 [Lf.v (Value.string a0_0), Lf.v (Value.int IntKind.i64 a0_1)])] (SV.av (AV.one (Lf.v (Value.int IntKind.i64 a0_1)))) [(0, Blk.cells 55 [Lf.v (Value.string a0_0), Lf.v (Value.int IntKind.i64 a0_1)])] :=
 snd_tree (hn := f15_hn) 1 (f15_R a0_0 a0_1) mixed (by kernel_rfl) (by kernel_rfl) (by kernel_rfl) (by kernel_rfl) (by kernel_rfl) (f15_v a0_0 a0_1) (f15_o a0_0 a0_1) h
def f16_hn : Hn := Hn.mk [] [] [] [] [(4, [0, 3, 4])]
def f16_l3_D (p3_0 : List Int) (p3_1 : Nat) (x : List Int × Int) : St := St.mk [(0, SV.av (AV.one (Lf.dat (K.sl (K.int IntKind.i64)) p3_0))), (3, SV.av (AV.one (Lf.own 30300 0 0 p3_1 1))), (4, SV.av (AV.one (Lf.v (Value.int IntKind.i64 (Prod.snd x)))))] [(30300, Blk.row 3 (K.int IntKind.i64) (Prod.fst x))]
def f16_l3_E0 (p3_0 : List Int) (p3_1 : Nat) (y : Unit) : St := St.mk [(2, SV.av (AV.one (Lf.v (Value.bool false))))] []
def f16_l3_E1 (p3_0 : List Int) (p3_1 : Nat) (y : Unit) : St := St.mk [] []
def f16_l3_E (p3_0 : List Int) (p3_1 : Nat) : Unit ⊕ Unit → Ex × St
  | (.inl y) => (Ex.ret, f16_l3_E0 p3_0 p3_1 y)
  | (.inr y) => (Ex.exit 0, f16_l3_E1 p3_0 p3_1 y)
noncomputable def f16_l3_t (p3_0 : List Int) (p3_1 : Nat) (x : List Int × Int) : DT (Ex × St) ((List Int × Int) ⊕ (Unit ⊕ Unit)) :=
 (.ask (ilt (Prod.snd x) (llen p3_0))
 (.need (ile 0 (Prod.snd x)) true
 (.sure (ilt (Prod.snd x) (llen p3_0)) true
 (.ask (ilt (gd (K.int IntKind.i64) p3_0 (Int.toNat (Prod.snd x))) 0)
 (.sure (ilt (gd (K.int IntKind.i64) p3_0 (Int.toNat (Prod.snd x))) 0) true
 (.sure (ilt (gd (K.int IntKind.i64) p3_0 (Int.toNat (Prod.snd x))) 0) true
 (.sure (ilt (gd (K.int IntKind.i64) p3_0 (Int.toNat (Prod.snd x))) 0) true
 (.sure (ilt (gd (K.int IntKind.i64) p3_0 (Int.toNat (Prod.snd x))) 0) true
 (.sure (ilt (gd (K.int IntKind.i64) p3_0 (Int.toNat (Prod.snd x))) 0) true
 (.sure (ilt (gd (K.int IntKind.i64) p3_0 (Int.toNat (Prod.snd x))) 0) true
 (.sure (ilt (gd (K.int IntKind.i64) p3_0 (Int.toNat (Prod.snd x))) 0) true
 (.sure (true) true
 (.sure (true) true
 (.sure (true) true
 (.sure (true) true
 (.sure (true) true
 (.sure (true) true
 (.sure (true) true
 (.sure (true) true
 (.sure (true) true
 (.sure (true) true
 (.leaf (Ex.ret, St.mk [(0, SV.av (AV.one (Lf.dat (K.sl (K.int IntKind.i64)) p3_0))), (2, SV.av (AV.one (Lf.v (Value.bool false)))), (3, SV.av (AV.one (Lf.own 30300 0 0 p3_1 1))), (4, SV.av (AV.one (Lf.v (Value.int IntKind.i64 (Prod.snd x)))))] [(30300, Blk.row 3 (K.int IntKind.i64) (Prod.fst x))]) (.inr (.inl (())))))))))))))))))))))
 (.sure (ilt (gd (K.int IntKind.i64) p3_0 (Int.toNat (Prod.snd x))) 0) false
 (.sure (ilt (gd (K.int IntKind.i64) p3_0 (Int.toNat (Prod.snd x))) 0) false
 (.sure (ile 0 (Prod.snd x)) true
 (.sure (ilt (Prod.snd x) (llen p3_0)) true
 (.sure (ilt (gd (K.int IntKind.i64) p3_0 (Int.toNat (Prod.snd x))) 0) false
 (.sure (ilt (gd (K.int IntKind.i64) p3_0 (Int.toNat (Prod.snd x))) 0) false
 (.sure (ilt (gd (K.int IntKind.i64) p3_0 (Int.toNat (Prod.snd x))) 0) false
 (.sure (ilt (gd (K.int IntKind.i64) p3_0 (Int.toNat (Prod.snd x))) 0) false
 (.sure (ilt (gd (K.int IntKind.i64) p3_0 (Int.toNat (Prod.snd x))) 0) false
 (.ask (ile (llen p3_0) (gd (K.int IntKind.i64) p3_0 (Int.toNat (Prod.snd x))))
 (.sure (ile (llen p3_0) (gd (K.int IntKind.i64) p3_0 (Int.toNat (Prod.snd x)))) true
 (.sure (ile (llen p3_0) (gd (K.int IntKind.i64) p3_0 (Int.toNat (Prod.snd x)))) true
 (.sure (ile (llen p3_0) (gd (K.int IntKind.i64) p3_0 (Int.toNat (Prod.snd x)))) true
 (.sure (ile (llen p3_0) (gd (K.int IntKind.i64) p3_0 (Int.toNat (Prod.snd x)))) true
 (.sure (ile (llen p3_0) (gd (K.int IntKind.i64) p3_0 (Int.toNat (Prod.snd x)))) true
 (.sure (ile (llen p3_0) (gd (K.int IntKind.i64) p3_0 (Int.toNat (Prod.snd x)))) true
 (.sure (ile (llen p3_0) (gd (K.int IntKind.i64) p3_0 (Int.toNat (Prod.snd x)))) true
 (.sure (ile (llen p3_0) (gd (K.int IntKind.i64) p3_0 (Int.toNat (Prod.snd x)))) true
 (.sure (true) true
 (.leaf (Ex.ret, St.mk [(0, SV.av (AV.one (Lf.dat (K.sl (K.int IntKind.i64)) p3_0))), (2, SV.av (AV.one (Lf.v (Value.bool false)))), (3, SV.av (AV.one (Lf.own 30300 0 0 p3_1 1))), (4, SV.av (AV.one (Lf.v (Value.int IntKind.i64 (Prod.snd x)))))] [(30300, Blk.row 3 (K.int IntKind.i64) (Prod.fst x))]) (.inr (.inl (())))))))))))))
 (.sure (ile (llen p3_0) (gd (K.int IntKind.i64) p3_0 (Int.toNat (Prod.snd x)))) false
 (.sure (ile (llen p3_0) (gd (K.int IntKind.i64) p3_0 (Int.toNat (Prod.snd x)))) false
 (.sure (ile (llen p3_0) (gd (K.int IntKind.i64) p3_0 (Int.toNat (Prod.snd x)))) false
 (.sure (ile 0 (Prod.snd x)) true
 (.sure (ilt (Prod.snd x) (llen p3_0)) true
 (.sure (ile (llen p3_0) (gd (K.int IntKind.i64) p3_0 (Int.toNat (Prod.snd x)))) false
 (.sure (ile (llen p3_0) (gd (K.int IntKind.i64) p3_0 (Int.toNat (Prod.snd x)))) false
 (.need (ile 0 (gd (K.int IntKind.i64) p3_0 (Int.toNat (Prod.snd x)))) true
 (.need (ilt (gd (K.int IntKind.i64) p3_0 (Int.toNat (Prod.snd x))) ↑p3_1) true
 (.sure (ile (llen p3_0) (gd (K.int IntKind.i64) p3_0 (Int.toNat (Prod.snd x)))) false
 (.need (nlt (0 + Int.toNat (gd (K.int IntKind.i64) p3_0 (Int.toNat (Prod.snd x)))) (List.length (Prod.fst x))) true
 (.sure (ile (llen p3_0) (gd (K.int IntKind.i64) p3_0 (Int.toNat (Prod.snd x)))) false
 (.sure (ile (llen p3_0) (gd (K.int IntKind.i64) p3_0 (Int.toNat (Prod.snd x)))) false
 (.ask (ilt 0 (gd (K.int IntKind.i64) (Prod.fst x) (0 + Int.toNat (gd (K.int IntKind.i64) p3_0 (Int.toNat (Prod.snd x))))))
 (.leaf (Ex.ret, St.mk [(0, SV.av (AV.one (Lf.dat (K.sl (K.int IntKind.i64)) p3_0))), (2, SV.av (AV.one (Lf.v (Value.bool false)))), (3, SV.av (AV.one (Lf.own 30300 0 0 p3_1 1))), (4, SV.av (AV.one (Lf.v (Value.int IntKind.i64 (Prod.snd x)))))] [(30300, Blk.row 3 (K.int IntKind.i64) (Prod.fst x))]) (.inr (.inl (()))))
 (.sure (ile 0 (Prod.snd x)) true
 (.sure (ilt (Prod.snd x) (llen p3_0)) true
 (.sure (ile 0 (gd (K.int IntKind.i64) p3_0 (Int.toNat (Prod.snd x)))) true
 (.sure (ilt (gd (K.int IntKind.i64) p3_0 (Int.toNat (Prod.snd x))) ↑p3_1) true
 (.sure (nlt (0 + Int.toNat (gd (K.int IntKind.i64) p3_0 (Int.toNat (Prod.snd x)))) (List.length (Prod.fst x))) true
 (.leaf (Vam.Ex.normal, St.mk [(0, SV.av (AV.one (Lf.dat (K.sl (K.int IntKind.i64)) p3_0))), (3, SV.av (AV.one (Lf.own 30300 0 0 p3_1 1))), (4, SV.av (AV.one (Lf.v (Value.int IntKind.i64 (iadd IntKind.i64 (Prod.snd x) 1)))))] [(30300, Blk.row 3 (K.int IntKind.i64) (List.set (Prod.fst x) (0 + Int.toNat (gd (K.int IntKind.i64) p3_0 (Int.toNat (Prod.snd x)))) 1))]) (.inl ((List.set (Prod.fst x) (0 + Int.toNat (gd (K.int IntKind.i64) p3_0 (Int.toNat (Prod.snd x)))) 1, iadd IntKind.i64 (Prod.snd x) 1))))))))))))))))))))))))))))))))))))
 (.leaf (Ex.exit 0, St.mk [(0, SV.av (AV.one (Lf.dat (K.sl (K.int IntKind.i64)) p3_0))), (3, SV.av (AV.one (Lf.own 30300 0 0 p3_1 1))), (4, SV.av (AV.one (Lf.v (Value.int IntKind.i64 (Prod.snd x)))))] [(30300, Blk.row 3 (K.int IntKind.i64) (Prod.fst x))]) (.inr (.inr (())))))
theorem f16_l3_v (p3_0 : List Int) (p3_1 : Nat) (x : List Int × Int) : vc (execK P noG Try.f16.ntmps f16_hn [0, 2, 3, 4] (loopOf Try.f16 3) (f16_l3_D p3_0 p3_1 x)) (f16_l3_t p3_0 p3_1 x) = vcT (f16_l3_t p3_0 p3_1 x) := by kernel_rfl
theorem f16_l3_o (d : Nat) (p3_0 : List Int) (p3_1 : Nat) (x : List Int × Int) : obl (Snd P noG) (Lp P noG Try.f16.ntmps [] f16_hn d) (RelL Try.f16.ntmps noG [] (f16_l3_D p3_0 p3_1) (f16_l3_E p3_0 p3_1)) (f16_l3_t p3_0 p3_1 x) := by
 unfold f16_l3_t
 exact (oAsk (fun h0 => (oNeed fun h1 => (oSure h0 (oAsk (fun h2 => (oSure h2 (oSure h2 (oSure h2 (oSure h2 (oSure h2 (oSure h2 (oSure h2 (oSure rfl (oSure rfl (oSure rfl (oSure rfl (oSure rfl (oSure rfl (oSure rfl (oSure rfl (oSure rfl (oSure rfl (oLeaf (relR rfl (wk_tw [] [2] [] (by kernel_rfl) (by kernel_rfl))))))))))))))))))))))
 (fun h2 => (oSure h2 (oSure h2 (oSure h1 (oSure h0 (oSure h2 (oSure h2 (oSure h2 (oSure h2 (oSure h2 (oAsk (fun h3 => (oSure h3 (oSure h3 (oSure h3 (oSure h3 (oSure h3 (oSure h3 (oSure h3 (oSure h3 (oSure rfl (oLeaf (relR rfl (wk_tw [] [2] [] (by kernel_rfl) (by kernel_rfl))))))))))))))
 (fun h3 => (oSure h3 (oSure h3 (oSure h3 (oSure h1 (oSure h0 (oSure h3 (oSure h3 (oNeed fun h4 => (oNeed fun h5 => (oSure h3 (oNeed fun h6 => (oSure h3 (oSure h3 (oAsk (fun h7 => (oLeaf (relR rfl (wk_tw [] [2] [] (by kernel_rfl) (by kernel_rfl)))))
 (fun h7 => (oSure h1 (oSure h0 (oSure h4 (oSure h5 (oSure h6 (oLeaf (relN (wk_tw [(30300, 30300)] [0, 3, 4] [] (by kernel_rfl) (by kernel_rfl))))))))))))))))))))))))))))))))))))))))
 (fun h0 => (oLeaf (relE rfl (wk_tw [] [] [] (by kernel_rfl) (by kernel_rfl))))))
noncomputable def f16_l3_m (p3_0 : List Int) (p3_1 : Nat) (x : List Int × Int) : Option (Unit ⊕ Unit) := lrun (fun x => mod (f16_l3_t p3_0 p3_1 x)) x
theorem f16_l3_e (p3_0 : List Int) (p3_1 : Nat) (x : List Int × Int) : mod (f16_l3_t p3_0 p3_1 x) =
 (sel (ilt (Prod.snd x) (llen p3_0))
 (sel (ile 0 (Prod.snd x))
 (sel (ilt (gd (K.int IntKind.i64) p3_0 (Int.toNat (Prod.snd x))) 0)
 (some ((.inr (.inl (())))))
 (sel (ile (llen p3_0) (gd (K.int IntKind.i64) p3_0 (Int.toNat (Prod.snd x))))
 (some ((.inr (.inl (())))))
 (sel (ile 0 (gd (K.int IntKind.i64) p3_0 (Int.toNat (Prod.snd x))))
 (sel (ilt (gd (K.int IntKind.i64) p3_0 (Int.toNat (Prod.snd x))) ↑p3_1)
 (sel (nlt (0 + Int.toNat (gd (K.int IntKind.i64) p3_0 (Int.toNat (Prod.snd x)))) (List.length (Prod.fst x)))
 (sel (ilt 0 (gd (K.int IntKind.i64) (Prod.fst x) (0 + Int.toNat (gd (K.int IntKind.i64) p3_0 (Int.toNat (Prod.snd x))))))
 (some ((.inr (.inl (())))))
 (some ((.inl ((List.set (Prod.fst x) (0 + Int.toNat (gd (K.int IntKind.i64) p3_0 (Int.toNat (Prod.snd x)))) 1, iadd IntKind.i64 (Prod.snd x) 1)))))) none) none) none))) none)
 (some ((.inr (.inr (())))))) := by kernel_rfl
theorem f16_l3_s0 (d : Nat) {p3_0 : List Int} {p3_1 : Nat} {σ : St} {x : List Int × Int} {z : Unit} (h : f16_l3_m p3_0 p3_1 x = some (.inl z)) (hw : Wk Try.f16.ntmps noG [] σ (f16_l3_D p3_0 p3_1 x)) : Lp P noG Try.f16.ntmps [] f16_hn (d + 1) (loopOf Try.f16 3) σ (Ex.ret) (f16_l3_E0 p3_0 p3_1 z) :=
 lp_tree (D := f16_l3_D p3_0 p3_1) (E := f16_l3_E p3_0 p3_1) (f16_l3_v p3_0 p3_1) (f16_l3_o d p3_0 p3_1) h hw
theorem f16_l3_s1 (d : Nat) {p3_0 : List Int} {p3_1 : Nat} {σ : St} {x : List Int × Int} {z : Unit} (h : f16_l3_m p3_0 p3_1 x = some (.inr z)) (hw : Wk Try.f16.ntmps noG [] σ (f16_l3_D p3_0 p3_1 x)) : Lp P noG Try.f16.ntmps [] f16_hn (d + 1) (loopOf Try.f16 3) σ (Ex.exit 0) (f16_l3_E1 p3_0 p3_1 z) :=
 lp_tree (D := f16_l3_D p3_0 p3_1) (E := f16_l3_E p3_0 p3_1) (f16_l3_v p3_0 p3_1) (f16_l3_o d p3_0 p3_1) h hw
def f16_R (a0 : List Int) : Bool → SV × Hp
  | z => (SV.av (AV.one (Lf.v (Value.bool z))), [])
noncomputable def f16_t (a0 : List Int) : DT (SV × Hp) (Bool) :=
 (.need (ile 0 (llen a0)) true
 (.sure (ile (llen a0) (llen a0)) true
 (.need (ile (Int.mul 8 (llen a0)) 281474976710656) true
 (.loop2 (loopOf Try.f16 3) (St.mk [(0, SV.av (AV.one (Lf.dat (K.sl (K.int IntKind.i64)) a0))), (3, SV.av (AV.one (Lf.own 7 0 0 (Int.toNat (llen a0)) 1))), (4, SV.av (AV.one (Lf.v (Value.int IntKind.i64 0))))] [(7, Blk.row 3 (K.int IntKind.i64) (List.replicate (Int.toNat (llen a0)) (0 : Int)))]) (f16_l3_m a0 (Int.toNat (llen a0)) (List.replicate (Int.toNat (llen a0)) 0, 0)) (Ex.ret) (f16_l3_E0 a0 (Int.toNat (llen a0))) (Ex.exit 0) (f16_l3_E1 a0 (Int.toNat (llen a0))) (fun z10 =>
 (.leaf (SV.av (AV.one (Lf.v (Value.bool false))), []) (false))) fun z11 =>
 (.leaf (SV.av (AV.one (Lf.v (Value.bool true))), []) (true))))))
theorem f16_v (a0 : List Int) : vc (runR P noG Try.f16 f16_hn [AV.one (Lf.dat (K.sl (K.int IntKind.i64)) a0)] []) (f16_t a0) = vcT (f16_t a0) := by kernel_rfl
theorem f16_o (a0 : List Int) : obl (Snd P noG) (Lp P noG Try.f16.ntmps [] f16_hn 1) (RelF [] (f16_R a0)) (f16_t a0) := by
 unfold f16_t
 exact (oNeed fun h0 => (oSure (ile_t.2 (Int.le_refl _)) (oNeed fun h1 => (oLoop2 (fun _ e => f16_l3_s0 0 e (wk_tw [(7, 30300)] [0, 3, 4] [] (by kernel_rfl) (by kernel_rfl))) (fun _ e => f16_l3_s1 0 e (wk_tw [(7, 30300)] [0, 3, 4] [] (by kernel_rfl) (by kernel_rfl))) (fun z10 _ =>
 (oLeaf (wks_tw [] [] (by kernel_rfl) (by kernel_rfl)))) fun z11 _ =>
 (oLeaf (wks_tw [] [] (by kernel_rfl) (by kernel_rfl)))))))
noncomputable def f16_m (a0 : List Int) : Option (Bool) := mod (f16_t a0)
theorem f16_e (a0 : List Int) : f16_m a0 =
 (sel (ile 0 (llen a0))
 (sel (ile (Int.mul 8 (llen a0)) 281474976710656)
 (Option.bind (f16_l3_m a0 (Int.toNat (llen a0)) (List.replicate (Int.toNat (llen a0)) 0, 0)) (Sum.elim (fun z10 =>
 (some ((false)))) fun z11 =>
 (some ((true))))) none) none) := by kernel_rfl
theorem f16_s {a0 : List Int} {z : Bool} (h : f16_m a0 = some z) : Snd P noG 16 [AV.one (Lf.dat (K.sl (K.int IntKind.i64)) a0)] [] (SV.av (AV.one (Lf.v (Value.bool z)))) [] :=
 snd_tree (hn := f16_hn) 1 (f16_R a0) mixed (by kernel_rfl) (by kernel_rfl) (by kernel_rfl) (by kernel_rfl) (by kernel_rfl) (f16_v a0) (f16_o a0) h
def f17_hn : Hn := Hn.mk [] [] [] [60300] [(4, [0, 3, 4])]
def f17_l3_D (p3_0 : List Int) (p3_1 : Nat) (x : List Int × Int) : St := St.mk [(0, SV.av (AV.one (Lf.dat (K.sl (K.int IntKind.i64)) p3_0))), (3, SV.av (AV.one (Lf.own 30300 0 0 p3_1 1))), (4, SV.av (AV.one (Lf.v (Value.int IntKind.i64 (Prod.snd x)))))] [(30300, Blk.row 3 (K.int IntKind.i64) (Prod.fst x))]
def f17_l3_E0 (p3_0 : List Int) (p3_1 : Nat) (y : List Int) : St := St.mk [(3, SV.av (AV.one (Lf.own 60300 0 0 p3_1 1)))] [(60300, Blk.row 3 (K.int IntKind.i64) y)]
def f17_l3_E (p3_0 : List Int) (p3_1 : Nat) : List Int → Ex × St
  | y => (Ex.exit 0, f17_l3_E0 p3_0 p3_1 y)
noncomputable def f17_l3_t (p3_0 : List Int) (p3_1 : Nat) (x : List Int × Int) : DT (Ex × St) ((List Int × Int) ⊕ (List Int)) :=
 (.ask (ilt (Prod.snd x) (llen p3_0))
 (.need (ile 0 (Prod.snd x)) true
 (.sure (ilt (Prod.snd x) (llen p3_0)) true
 (.need (ile 0 (gd (K.int IntKind.i64) p3_0 (Int.toNat (Prod.snd x)))) true
 (.need (ilt (gd (K.int IntKind.i64) p3_0 (Int.toNat (Prod.snd x))) ↑p3_1) true
 (.need (nlt (0 + Int.toNat (gd (K.int IntKind.i64) p3_0 (Int.toNat (Prod.snd x)))) (List.length (Prod.fst x))) true
 (.leaf (Vam.Ex.normal, St.mk [(0, SV.av (AV.one (Lf.dat (K.sl (K.int IntKind.i64)) p3_0))), (3, SV.av (AV.one (Lf.own 30300 0 0 p3_1 1))), (4, SV.av (AV.one (Lf.v (Value.int IntKind.i64 (iadd IntKind.i64 (Prod.snd x) 1)))))] [(30300, Blk.row 3 (K.int IntKind.i64) (List.set (Prod.fst x) (0 + Int.toNat (gd (K.int IntKind.i64) p3_0 (Int.toNat (Prod.snd x)))) (Prod.snd x)))]) (.inl ((List.set (Prod.fst x) (0 + Int.toNat (gd (K.int IntKind.i64) p3_0 (Int.toNat (Prod.snd x)))) (Prod.snd x), iadd IntKind.i64 (Prod.snd x) 1)))))))))
 (.leaf (Ex.exit 0, St.mk [(0, SV.av (AV.one (Lf.dat (K.sl (K.int IntKind.i64)) p3_0))), (3, SV.av (AV.one (Lf.own 30300 0 0 p3_1 1))), (4, SV.av (AV.one (Lf.v (Value.int IntKind.i64 (Prod.snd x)))))] [(30300, Blk.row 3 (K.int IntKind.i64) (Prod.fst x))]) (.inr (Prod.fst x))))
theorem f17_l3_v (p3_0 : List Int) (p3_1 : Nat) (x : List Int × Int) : vc (execK P noG Try.f17.ntmps f17_hn [0, 3, 4] (loopOf Try.f17 3) (f17_l3_D p3_0 p3_1 x)) (f17_l3_t p3_0 p3_1 x) = vcT (f17_l3_t p3_0 p3_1 x) := by kernel_rfl
theorem f17_l3_o (d : Nat) (p3_0 : List Int) (p3_1 : Nat) (x : List Int × Int) : obl (Snd P noG) (Lp P noG Try.f17.ntmps [] f17_hn d) (RelL Try.f17.ntmps noG [] (f17_l3_D p3_0 p3_1) (f17_l3_E p3_0 p3_1)) (f17_l3_t p3_0 p3_1 x) := by
 unfold f17_l3_t
 exact (oAsk (fun h0 => (oNeed fun h1 => (oSure h0 (oNeed fun h2 => (oNeed fun h3 => (oNeed fun h4 => (oLeaf (relN (wk_tw [(30300, 30300)] [0, 3, 4] [] (by kernel_rfl) (by kernel_rfl))))))))))
 (fun h0 => (oLeaf (relE rfl (wk_tw [(30300, 60300)] [3] [] (by kernel_rfl) (by kernel_rfl))))))
noncomputable def f17_l3_m (p3_0 : List Int) (p3_1 : Nat) (x : List Int × Int) : Option (List Int) := lrun (fun x => mod (f17_l3_t p3_0 p3_1 x)) x
theorem f17_l3_e (p3_0 : List Int) (p3_1 : Nat) (x : List Int × Int) : mod (f17_l3_t p3_0 p3_1 x) =
 (sel (ilt (Prod.snd x) (llen p3_0))
 (sel (ile 0 (Prod.snd x))
 (sel (ile 0 (gd (K.int IntKind.i64) p3_0 (Int.toNat (Prod.snd x))))
 (sel (ilt (gd (K.int IntKind.i64) p3_0 (Int.toNat (Prod.snd x))) ↑p3_1)
 (sel (nlt (0 + Int.toNat (gd (K.int IntKind.i64) p3_0 (Int.toNat (Prod.snd x)))) (List.length (Prod.fst x)))
 (some ((.inl ((List.set (Prod.fst x) (0 + Int.toNat (gd (K.int IntKind.i64) p3_0 (Int.toNat (Prod.snd x)))) (Prod.snd x), iadd IntKind.i64 (Prod.snd x) 1))))) none) none) none) none)
 (some ((.inr (Prod.fst x))))) := by kernel_rfl
theorem f17_l3_s0 (d : Nat) {p3_0 : List Int} {p3_1 : Nat} {σ : St} {x : List Int × Int} {z : List Int} (h : f17_l3_m p3_0 p3_1 x = some z) (hw : Wk Try.f17.ntmps noG [] σ (f17_l3_D p3_0 p3_1 x)) : Lp P noG Try.f17.ntmps [] f17_hn (d + 1) (loopOf Try.f17 3) σ (Ex.exit 0) (f17_l3_E0 p3_0 p3_1 z) :=
 lp_tree (D := f17_l3_D p3_0 p3_1) (E := f17_l3_E p3_0 p3_1) (f17_l3_v p3_0 p3_1) (f17_l3_o d p3_0 p3_1) h hw
def f17_R (a0 : List Int) : List Int → SV × Hp
  | z => (SV.av (AV.one (Lf.dat (K.sl (K.int IntKind.i64)) z)), [])
noncomputable def f17_t (a0 : List Int) : DT (SV × Hp) (List Int) :=
 (.need (ile 0 (llen a0)) true
 (.sure (ile (llen a0) (llen a0)) true
 (.need (ile (Int.mul 8 (llen a0)) 281474976710656) true
 (.loop (loopOf Try.f17 3) (St.mk [(0, SV.av (AV.one (Lf.dat (K.sl (K.int IntKind.i64)) a0))), (3, SV.av (AV.one (Lf.own 7 0 0 (Int.toNat (llen a0)) 1))), (4, SV.av (AV.one (Lf.v (Value.int IntKind.i64 0))))] [(7, Blk.row 3 (K.int IntKind.i64) (List.replicate (Int.toNat (llen a0)) (0 : Int)))]) (f17_l3_m a0 (Int.toNat (llen a0)) (List.replicate (Int.toNat (llen a0)) 0, 0)) (Ex.exit 0) (f17_l3_E0 a0 (Int.toNat (llen a0))) fun z10 =>
 (.pick false (.need (nle (0 + Int.toNat (llen a0)) (List.length z10)) true
 (.leaf (SV.av (AV.one (Lf.dat (K.sl (K.int IntKind.i64)) (List.take (Int.toNat (llen a0)) (List.drop 0 z10)))), [(60300, Blk.dead)]) (List.take (Int.toNat (llen a0)) (List.drop 0 z10)))))))))
theorem f17_v (a0 : List Int) : vc (runR P noG Try.f17 f17_hn [AV.one (Lf.dat (K.sl (K.int IntKind.i64)) a0)] []) (f17_t a0) = vcT (f17_t a0) := by kernel_rfl
theorem f17_o (a0 : List Int) : obl (Snd P noG) (Lp P noG Try.f17.ntmps [] f17_hn 1) (RelF [] (f17_R a0)) (f17_t a0) := by
 unfold f17_t
 exact (oNeed fun h0 => (oSure (ile_t.2 (Int.le_refl _)) (oNeed fun h1 => (oLoop (fun _ e => f17_l3_s0 0 e (wk_tw [(7, 30300)] [0, 3, 4] [] (by kernel_rfl) (by kernel_rfl))) fun z10 _ =>
 (oPick (oNeed fun h2 => (oLeaf (wks_tw [] [] (by kernel_rfl) (by kernel_rfl)))))))))
noncomputable def f17_m (a0 : List Int) : Option (List Int) := mod (f17_t a0)
theorem f17_e (a0 : List Int) : f17_m a0 =
 (sel (ile 0 (llen a0))
 (sel (ile (Int.mul 8 (llen a0)) 281474976710656)
 (Option.bind (f17_l3_m a0 (Int.toNat (llen a0)) (List.replicate (Int.toNat (llen a0)) 0, 0)) fun z10 =>
 (sel (nle (0 + Int.toNat (llen a0)) (List.length z10))
 (some ((List.take (Int.toNat (llen a0)) (List.drop 0 z10)))) none)) none) none) := by kernel_rfl
theorem f17_s {a0 : List Int} {z : List Int} (h : f17_m a0 = some z) : Snd P noG 17 [AV.one (Lf.dat (K.sl (K.int IntKind.i64)) a0)] [] (SV.av (AV.one (Lf.dat (K.sl (K.int IntKind.i64)) z))) [] :=
 snd_tree (hn := f17_hn) 1 (f17_R a0) mixed (by kernel_rfl) (by kernel_rfl) (by kernel_rfl) (by kernel_rfl) (by kernel_rfl) (f17_v a0) (f17_o a0) h
def f18_hn : Hn := Hn.mk [] [] [] [60351] [(4, [0, 1, 5, 6])]
def f18_l3_D (p3_0 : List Int) (p3_1 : List ByteArray) (x : List ByteArray × Int) : St := St.mk [(0, SV.av (AV.one (Lf.dat (K.sl (K.int IntKind.i64)) p3_0))), (1, SV.av (AV.one (Lf.dat (K.sl K.str) p3_1))), (5, SV.av (AV.one (Lf.own 30351 0 0 (List.length (Prod.fst x)) 1))), (6, SV.av (AV.one (Lf.v (Value.int IntKind.i64 (Prod.snd x)))))] [(30351, Blk.row 9 K.str (Prod.fst x))]
def f18_l3_E0 (p3_0 : List Int) (p3_1 : List ByteArray) (y : List ByteArray) : St := St.mk [(5, SV.av (AV.one (Lf.own 60351 0 0 (List.length y) 1)))] [(60351, Blk.row 9 K.str y)]
def f18_l3_E (p3_0 : List Int) (p3_1 : List ByteArray) : List ByteArray → Ex × St
  | y => (Ex.exit 0, f18_l3_E0 p3_0 p3_1 y)
noncomputable def f18_l3_t (p3_0 : List Int) (p3_1 : List ByteArray) (x : List ByteArray × Int) : DT (Ex × St) ((List ByteArray × Int) ⊕ (List ByteArray)) :=
 (.ask (ilt (Prod.snd x) (llen p3_0))
 (.need (ile 0 (Prod.snd x)) true
 (.sure (ilt (Prod.snd x) (llen p3_0)) true
 (.need (ile 0 (gd (K.int IntKind.i64) p3_0 (Int.toNat (Prod.snd x)))) true
 (.need (ilt (gd (K.int IntKind.i64) p3_0 (Int.toNat (Prod.snd x))) (llen p3_1)) true
 (.pick true (.sure (true) true
 (.pick true (.sure (true) true
 (.sure (nEq (List.length (Prod.fst x)) (List.length (Prod.fst x))) true
 (.need (nle (List.length (List.append (Prod.fst x) [gd K.str p3_1 (Int.toNat (gd (K.int IntKind.i64) p3_0 (Int.toNat (Prod.snd x))))])) 9223372036854775807) true
 (.need (nle (List.length (List.append (Prod.fst x) [gd K.str p3_1 (Int.toNat (gd (K.int IntKind.i64) p3_0 (Int.toNat (Prod.snd x))))]) * 16) 140737488355328) true
 (.leaf (Vam.Ex.normal, St.mk [(0, SV.av (AV.one (Lf.dat (K.sl (K.int IntKind.i64)) p3_0))), (1, SV.av (AV.one (Lf.dat (K.sl K.str) p3_1))), (5, SV.av (AV.one (Lf.own 22 0 0 (List.length (List.append (Prod.fst x) [gd K.str p3_1 (Int.toNat (gd (K.int IntKind.i64) p3_0 (Int.toNat (Prod.snd x))))])) 1))), (6, SV.av (AV.one (Lf.v (Value.int IntKind.i64 (iadd IntKind.i64 (Prod.snd x) 1)))))] [(21, Blk.row 9 K.str [gd K.str p3_1 (Int.toNat (gd (K.int IntKind.i64) p3_0 (Int.toNat (Prod.snd x))))]), (22, Blk.row 9 K.str (List.append (Prod.fst x) [gd K.str p3_1 (Int.toNat (gd (K.int IntKind.i64) p3_0 (Int.toNat (Prod.snd x))))])), (30351, Blk.dead)]) (.inl ((List.append (Prod.fst x) [gd K.str p3_1 (Int.toNat (gd (K.int IntKind.i64) p3_0 (Int.toNat (Prod.snd x))))], iadd IntKind.i64 (Prod.snd x) 1)))))))))))))))
 (.leaf (Ex.exit 0, St.mk [(0, SV.av (AV.one (Lf.dat (K.sl (K.int IntKind.i64)) p3_0))), (1, SV.av (AV.one (Lf.dat (K.sl K.str) p3_1))), (5, SV.av (AV.one (Lf.own 30351 0 0 (List.length (Prod.fst x)) 1))), (6, SV.av (AV.one (Lf.v (Value.int IntKind.i64 (Prod.snd x)))))] [(30351, Blk.row 9 K.str (Prod.fst x))]) (.inr (Prod.fst x))))
theorem f18_l3_v (p3_0 : List Int) (p3_1 : List ByteArray) (x : List ByteArray × Int) : vc (execK P noG Try.f18.ntmps f18_hn [0, 1, 5, 6] (loopOf Try.f18 3) (f18_l3_D p3_0 p3_1 x)) (f18_l3_t p3_0 p3_1 x) = vcT (f18_l3_t p3_0 p3_1 x) := by kernel_rfl
theorem f18_l3_o (d : Nat) (p3_0 : List Int) (p3_1 : List ByteArray) (x : List ByteArray × Int) : obl (Snd P noG) (Lp P noG Try.f18.ntmps [] f18_hn d) (RelL Try.f18.ntmps noG [] (f18_l3_D p3_0 p3_1) (f18_l3_E p3_0 p3_1)) (f18_l3_t p3_0 p3_1 x) := by
 unfold f18_l3_t
 exact (oAsk (fun h0 => (oNeed fun h1 => (oSure h0 (oNeed fun h2 => (oNeed fun h3 => (oPick (oSure rfl (oPick (oSure rfl (oSure (nEq_t.2 rfl) (oNeed fun h4 => (oNeed fun h5 => (oLeaf (relN (wk_tw [(22, 30351)] [0, 1, 5, 6] [] (by kernel_rfl) (by kernel_rfl))))))))))))))))
 (fun h0 => (oLeaf (relE rfl (wk_tw [(30351, 60351)] [5] [] (by kernel_rfl) (by kernel_rfl))))))
noncomputable def f18_l3_m (p3_0 : List Int) (p3_1 : List ByteArray) (x : List ByteArray × Int) : Option (List ByteArray) := lrun (fun x => mod (f18_l3_t p3_0 p3_1 x)) x
theorem f18_l3_e (p3_0 : List Int) (p3_1 : List ByteArray) (x : List ByteArray × Int) : mod (f18_l3_t p3_0 p3_1 x) =
 (sel (ilt (Prod.snd x) (llen p3_0))
 (sel (ile 0 (Prod.snd x))
 (sel (ile 0 (gd (K.int IntKind.i64) p3_0 (Int.toNat (Prod.snd x))))
 (sel (ilt (gd (K.int IntKind.i64) p3_0 (Int.toNat (Prod.snd x))) (llen p3_1))
 (sel (nle (List.length (List.append (Prod.fst x) [gd K.str p3_1 (Int.toNat (gd (K.int IntKind.i64) p3_0 (Int.toNat (Prod.snd x))))])) 9223372036854775807)
 (sel (nle (List.length (List.append (Prod.fst x) [gd K.str p3_1 (Int.toNat (gd (K.int IntKind.i64) p3_0 (Int.toNat (Prod.snd x))))]) * 16) 140737488355328)
 (some ((.inl ((List.append (Prod.fst x) [gd K.str p3_1 (Int.toNat (gd (K.int IntKind.i64) p3_0 (Int.toNat (Prod.snd x))))], iadd IntKind.i64 (Prod.snd x) 1))))) none) none) none) none) none)
 (some ((.inr (Prod.fst x))))) := by kernel_rfl
theorem f18_l3_s0 (d : Nat) {p3_0 : List Int} {p3_1 : List ByteArray} {σ : St} {x : List ByteArray × Int} {z : List ByteArray} (h : f18_l3_m p3_0 p3_1 x = some z) (hw : Wk Try.f18.ntmps noG [] σ (f18_l3_D p3_0 p3_1 x)) : Lp P noG Try.f18.ntmps [] f18_hn (d + 1) (loopOf Try.f18 3) σ (Ex.exit 0) (f18_l3_E0 p3_0 p3_1 z) :=
 lp_tree (D := f18_l3_D p3_0 p3_1) (E := f18_l3_E p3_0 p3_1) (f18_l3_v p3_0 p3_1) (f18_l3_o d p3_0 p3_1) h hw
def f18_R (a0 : List Int) (a1 : List ByteArray) : List ByteArray → SV × Hp
  | z => (SV.av (AV.one (Lf.dat (K.sl K.str) z)), [])
noncomputable def f18_t (a0 : List Int) (a1 : List ByteArray) : DT (SV × Hp) (List ByteArray) :=
 (.loop (loopOf Try.f18 3) (St.mk [(0, SV.av (AV.one (Lf.dat (K.sl (K.int IntKind.i64)) a0))), (1, SV.av (AV.one (Lf.dat (K.sl K.str) a1))), (5, SV.av (AV.one (Lf.v (Value.slice none 0 0)))), (6, SV.av (AV.one (Lf.v (Value.int IntKind.i64 0))))] []) (f18_l3_m a0 a1 ([], 0)) (Ex.exit 0) (f18_l3_E0 a0 a1) fun z10 =>
 (.pick true (.sure (nEq (List.length z10) (List.length z10)) true
 (.leaf (SV.av (AV.one (Lf.dat (K.sl K.str) z10)), [(60351, Blk.dead)]) (z10)))))
theorem f18_v (a0 : List Int) (a1 : List ByteArray) : vc (runR P noG Try.f18 f18_hn [AV.one (Lf.dat (K.sl (K.int IntKind.i64)) a0), AV.one (Lf.dat (K.sl K.str) a1)] []) (f18_t a0 a1) = vcT (f18_t a0 a1) := by kernel_rfl
theorem f18_o (a0 : List Int) (a1 : List ByteArray) : obl (Snd P noG) (Lp P noG Try.f18.ntmps [] f18_hn 1) (RelF [] (f18_R a0 a1)) (f18_t a0 a1) := by
 unfold f18_t
 exact (oLoop (fun _ e => f18_l3_s0 0 e (wk_tw [] [0, 1, 5, 6] [(30351, 9, K.str)] (by kernel_rfl) (by kernel_rfl))) fun z10 _ =>
 (oPick (oSure (nEq_t.2 rfl) (oLeaf (wks_tw [] [] (by kernel_rfl) (by kernel_rfl))))))
noncomputable def f18_m (a0 : List Int) (a1 : List ByteArray) : Option (List ByteArray) := mod (f18_t a0 a1)
theorem f18_e (a0 : List Int) (a1 : List ByteArray) : f18_m a0 a1 =
 (Option.bind (f18_l3_m a0 a1 ([], 0)) fun z10 =>
 (some ((z10)))) := by kernel_rfl
theorem f18_s {a0 : List Int} {a1 : List ByteArray} {z : List ByteArray} (h : f18_m a0 a1 = some z) : Snd P noG 18 [AV.one (Lf.dat (K.sl (K.int IntKind.i64)) a0), AV.one (Lf.dat (K.sl K.str) a1)] [] (SV.av (AV.one (Lf.dat (K.sl K.str) z))) [] :=
 snd_tree (hn := f18_hn) 1 (f18_R a0 a1) mixed (by kernel_rfl) (by kernel_rfl) (by kernel_rfl) (by kernel_rfl) (by kernel_rfl) (f18_v a0 a1) (f18_o a0 a1) h
def f5_hn : Hn := Hn.mk [(4001, [(100, 43)]), (5005, [(0, 43)]), (6005, [(0, 46)]), (7011, [(0, 43)])] [(1010, [4])] [(11, [85]), (12, [88])] [] []
def f5_R (a0_0 : ByteArray) (a0_1 : List Int) (a0_2 : List Int) (a0_3 : List ByteArray) : Bool → SV × Hp
  | z => (SV.av (AV.one (Lf.v (Value.bool z))), [])
noncomputable def f5_t (a0_0 : ByteArray) (a0_1 : List Int) (a0_2 : List Int) (a0_3 : List ByteArray) : DT (SV × Hp) (Bool) :=
 (.ask (ilt 3000 (ssz a0_0))
 (.sure (ilt 3000 (ssz a0_0)) true
 (.sure (ilt 3000 (ssz a0_0)) true
 (.sure (ilt 3000 (ssz a0_0)) true
 (.sure (true) true
 (.sure (true) true
 (.sure (true) true
 (.sure (true) true
 (.sure (true) true
 (.call 7 [] [] (f7_m) (fun z383 => SV.av (AV.one (Lf.v (Value.bool z383)))) (fun z383 => []) fun z383 =>
 (.leaf (SV.av (AV.one (Lf.v (Value.bool z383))), [(1, Blk.cells 46 [Lf.v (Value.string a0_0), Lf.dat (K.arr 2 (K.int IntKind.i64)) a0_1, Lf.dat (K.sl (K.int IntKind.i64)) a0_2, Lf.dat (K.sl K.str) a0_3]), (4, Blk.cells 44 [Lf.dat (K.arr 2 (K.int IntKind.i64)) a0_1])]) (z383)))))))))))
 (.sure (ilt 3000 (ssz a0_0)) false
 (.sure (ilt 3000 (ssz a0_0)) false
 (.sure (ilt 3000 (ssz a0_0)) false
 (.ask (ilt 100 (llen a0_2))
 (.sure (ilt 100 (llen a0_2)) true
 (.sure (ilt 100 (llen a0_2)) true
 (.sure (ilt 100 (llen a0_2)) true
 (.sure (true) true
 (.call 7 [] [] (f7_m) (fun z385 => SV.av (AV.one (Lf.v (Value.bool z385)))) (fun z385 => []) fun z385 =>
 (.leaf (SV.av (AV.one (Lf.v (Value.bool z385))), [(1, Blk.cells 46 [Lf.v (Value.string a0_0), Lf.dat (K.arr 2 (K.int IntKind.i64)) a0_1, Lf.dat (K.sl (K.int IntKind.i64)) a0_2, Lf.dat (K.sl K.str) a0_3]), (4, Blk.cells 44 [Lf.dat (K.arr 2 (K.int IntKind.i64)) a0_1])]) (z385)))))))
 (.sure (ilt 100 (llen a0_2)) false
 (.sure (ilt 100 (llen a0_2)) false
 (.sure (ilt 100 (llen a0_2)) false
 (.ask (ilt 100 (llen a0_3))
 (.call 7 [] [] (f7_m) (fun z387 => SV.av (AV.one (Lf.v (Value.bool z387)))) (fun z387 => []) fun z387 =>
 (.leaf (SV.av (AV.one (Lf.v (Value.bool z387))), [(1, Blk.cells 46 [Lf.v (Value.string a0_0), Lf.dat (K.arr 2 (K.int IntKind.i64)) a0_1, Lf.dat (K.sl (K.int IntKind.i64)) a0_2, Lf.dat (K.sl K.str) a0_3]), (4, Blk.cells 44 [Lf.dat (K.arr 2 (K.int IntKind.i64)) a0_1])]) (z387)))
 (.call 9 [AV.one (Lf.v (Value.string a0_0))] [] (f9_m a0_0) (fun z391 => SV.av (AV.one (Lf.ptr 100 0 0 0 0))) (fun z391 => [(100, Blk.cells 55 [Lf.v (Value.string a0_0), Lf.v (Value.int IntKind.i64 0)])]) fun z391 =>
 (.sure (true) true
 (.sure (true) true
 (.sure (true) true
 (.sure (true) true
 (.sure (true) true
 (.sure (true) true
 (.call 8 [AV.one (Lf.ptr 0 0 0 0 0), AV.one (Lf.v (Value.int IntKind.i64 (gd (K.int IntKind.i64) a0_1 0))), AV.one (Lf.v (Value.int IntKind.i64 (gd (K.int IntKind.i64) a0_1 1)))] [(0, Blk.cells 55 [Lf.v (Value.string a0_0), Lf.v (Value.int IntKind.i64 0)])] (f8_m a0_0 0 (gd (K.int IntKind.i64) a0_1 0) (gd (K.int IntKind.i64) a0_1 1)) (fun z407 => SV.tup [AV.one (Lf.dat (K.sl (K.int IntKind.i64)) (Prod.snd (Prod.snd z407))), AV.one (Lf.v (Value.int IntKind.i64 (Prod.fst (Prod.snd z407))))]) (fun z407 => [(0, Blk.cells 55 [Lf.v (Value.string a0_0), Lf.v (Value.int IntKind.i64 (Prod.fst z407))])]) fun z407 =>
 (.sure (true) true
 (.sure (true) true
 (.sure (true) true
 (.sure (true) true
 (.sure (true) true
 (.sure (true) true
 (.call 14 [AV.one (Lf.ptr 0 0 0 0 0), AV.one (Lf.v (Value.int IntKind.i64 (gd (K.int IntKind.i64) a0_1 0))), AV.one (Lf.v (Value.int IntKind.i64 (gd (K.int IntKind.i64) a0_1 1)))] [(0, Blk.cells 41 [Lf.v (Value.string a0_0), Lf.v (Value.int IntKind.i64 0)])] (f14_m a0_0 0 (gd (K.int IntKind.i64) a0_1 0) (gd (K.int IntKind.i64) a0_1 1)) (fun z423 => SV.tup [AV.one (Lf.dat (K.sl (K.int IntKind.i64)) (Prod.snd (Prod.snd z423))), AV.one (Lf.v (Value.int IntKind.i64 (Prod.fst (Prod.snd z423))))]) (fun z423 => [(0, Blk.cells 41 [Lf.v (Value.string a0_0), Lf.v (Value.int IntKind.i64 (Prod.fst z423))])]) fun z423 =>
 (.call 12 [AV.one (Lf.dat (K.sl (K.int IntKind.i64)) (Prod.snd (Prod.snd z407))), AV.one (Lf.dat (K.sl (K.int IntKind.i64)) (Prod.snd (Prod.snd z423)))] [] (f12_m (Prod.snd (Prod.snd z407)) (Prod.snd (Prod.snd z423))) (fun z431 => SV.av (AV.one (Lf.v (Value.bool z431)))) (fun z431 => []) fun z431 =>
 (.ask (bno z431)
 (.sure (bno z431) true
 (.sure (bno z431) true
 (.sure (bno z431) true
 (.sure (true) true
 (.sure (true) true
 (.sure (true) true
 (.sure (true) true
 (.sure (true) true
 (.sure (true) true
 (.sure (true) true
 (.sure (true) true
 (.sure (true) true
 (.leaf (SV.av (AV.one (Lf.v (Value.bool false))), [(1, Blk.cells 46 [Lf.v (Value.string a0_0), Lf.dat (K.arr 2 (K.int IntKind.i64)) a0_1, Lf.dat (K.sl (K.int IntKind.i64)) a0_2, Lf.dat (K.sl K.str) a0_3]), (4, Blk.cells 44 [Lf.dat (K.arr 2 (K.int IntKind.i64)) a0_1]), (43, Blk.cells 55 [Lf.v (Value.string a0_0), Lf.v (Value.int IntKind.i64 (Prod.fst z407))]), (46, Blk.cells 41 [Lf.v (Value.string a0_0), Lf.v (Value.int IntKind.i64 (Prod.fst z423))])]) (false))))))))))))))
 (.sure (bno z431) false
 (.sure (bno z431) false
 (.sure (bno z431) false
 (.ask (bno (ieq (Prod.fst (Prod.snd z407)) (Prod.fst (Prod.snd z423))))
 (.sure (bno (ieq (Prod.fst (Prod.snd z407)) (Prod.fst (Prod.snd z423)))) true
 (.sure (bno (ieq (Prod.fst (Prod.snd z407)) (Prod.fst (Prod.snd z423)))) true
 (.sure (bno (ieq (Prod.fst (Prod.snd z407)) (Prod.fst (Prod.snd z423)))) true
 (.sure (bno (ieq (Prod.fst (Prod.snd z407)) (Prod.fst (Prod.snd z423)))) true
 (.sure (bno (ieq (Prod.fst (Prod.snd z407)) (Prod.fst (Prod.snd z423)))) true
 (.sure (bno (ieq (Prod.fst (Prod.snd z407)) (Prod.fst (Prod.snd z423)))) true
 (.sure (bno (ieq (Prod.fst (Prod.snd z407)) (Prod.fst (Prod.snd z423)))) true
 (.sure (true) true
 (.leaf (SV.av (AV.one (Lf.v (Value.bool false))), [(1, Blk.cells 46 [Lf.v (Value.string a0_0), Lf.dat (K.arr 2 (K.int IntKind.i64)) a0_1, Lf.dat (K.sl (K.int IntKind.i64)) a0_2, Lf.dat (K.sl K.str) a0_3]), (4, Blk.cells 44 [Lf.dat (K.arr 2 (K.int IntKind.i64)) a0_1]), (43, Blk.cells 55 [Lf.v (Value.string a0_0), Lf.v (Value.int IntKind.i64 (Prod.fst z407))]), (46, Blk.cells 41 [Lf.v (Value.string a0_0), Lf.v (Value.int IntKind.i64 (Prod.fst z423))])]) (false))))))))))
 (.sure (bno (ieq (Prod.fst (Prod.snd z407)) (Prod.fst (Prod.snd z423)))) false
 (.call 15 [AV.one (Lf.ptr 0 0 0 0 0)] [(0, Blk.cells 55 [Lf.v (Value.string a0_0), Lf.v (Value.int IntKind.i64 (Prod.fst z407))])] (f15_m a0_0 (Prod.fst z407)) (fun z438 => SV.av (AV.one (Lf.v (Value.int IntKind.i64 (Prod.fst z407))))) (fun z438 => [(0, Blk.cells 55 [Lf.v (Value.string a0_0), Lf.v (Value.int IntKind.i64 (Prod.fst z407))])]) fun z438 =>
 (.sure (bno (ieq (Prod.fst (Prod.snd z407)) (Prod.fst (Prod.snd z423)))) false
 (.sure (bno (ieq (Prod.fst (Prod.snd z407)) (Prod.fst (Prod.snd z423)))) false
 (.sure (bno (ieq (Prod.fst (Prod.snd z407)) (Prod.fst (Prod.snd z423)))) false
 (.sure (bno (ieq (Prod.fst (Prod.snd z407)) (Prod.fst (Prod.snd z423)))) false
 (.sure (bno (ieq (Prod.fst (Prod.snd z407)) (Prod.fst (Prod.snd z423)))) false
 (.sure (bno (ieq (Prod.fst (Prod.snd z407)) (Prod.fst (Prod.snd z423)))) false
 (.ask (bno (ieq (Prod.fst z407) (Prod.fst z423)))
 (.leaf (SV.av (AV.one (Lf.v (Value.bool false))), [(1, Blk.cells 46 [Lf.v (Value.string a0_0), Lf.dat (K.arr 2 (K.int IntKind.i64)) a0_1, Lf.dat (K.sl (K.int IntKind.i64)) a0_2, Lf.dat (K.sl K.str) a0_3]), (4, Blk.cells 44 [Lf.dat (K.arr 2 (K.int IntKind.i64)) a0_1]), (43, Blk.cells 55 [Lf.v (Value.string a0_0), Lf.v (Value.int IntKind.i64 (Prod.fst z407))]), (46, Blk.cells 41 [Lf.v (Value.string a0_0), Lf.v (Value.int IntKind.i64 (Prod.fst z423))])]) (false))
 (.pick true (.sure (true) true
 (.sure (true) true
 (.need (nle (List.length (List.append [] a0_2)) 9223372036854775807) true
 (.need (nle (List.length (List.append [] a0_2) * 8) 140737488355328) true
 (.pick true (.sure (true) true
 (.sure (true) true
 (.need (nle (List.length (List.append [] a0_3)) 9223372036854775807) true
 (.need (nle (List.length (List.append [] a0_3) * 16) 140737488355328) true
 (.call 16 [AV.one (Lf.dat (K.sl (K.int IntKind.i64)) a0_2)] [] (f16_m a0_2) (fun z443 => SV.av (AV.one (Lf.v (Value.bool z443)))) (fun z443 => []) fun z443 =>
 (.pick true (.sure (nEq (List.length (List.append [] a0_2)) (List.length (List.append [] a0_2))) true
 (.pick true (.sure (nEq (List.length (List.append [] a0_2)) (List.length (List.append [] a0_2))) true
 (.call 10 [AV.one (Lf.dat (K.sl (K.int IntKind.i64)) (List.append [] a0_2))] [] (f10_m (List.append [] a0_2)) (fun z449 => SV.tup [AV.one (Lf.dat (K.sl (K.int IntKind.i64)) (Prod.fst z449)), AV.one (Lf.v (Value.bool (Prod.snd z449)))]) (fun z449 => []) fun z449 =>
 (.pick true (.sure (nEq (List.length (List.append [] a0_3)) (List.length (List.append [] a0_3))) true
 (.pick true (.sure (nEq (List.length (List.append [] a0_3)) (List.length (List.append [] a0_3))) true
 (.call 11 [AV.one (Lf.dat (K.sl (K.int IntKind.i64)) (List.append [] a0_2)), AV.one (Lf.dat (K.sl K.str) (List.append [] a0_3))] [] (f11_m (List.append [] a0_2) (List.append [] a0_3)) (fun z458 => SV.tup [AV.one (Lf.dat (K.sl K.str) (Prod.fst z458)), AV.one (Lf.v (Value.bool (Prod.snd z458)))]) (fun z458 => []) fun z458 =>
 (.ask (bno (bxn (Prod.snd z449) z443))
 (.sure (bno (bxn (Prod.snd z449) z443)) true
 (.sure (bno (bxn (Prod.snd z449) z443)) true
 (.sure (bno (bxn (Prod.snd z449) z443)) true
 (.sure (bno (bxn (Prod.snd z449) z443)) true
 (.sure (bno (bxn (Prod.snd z449) z443)) true
 (.sure (true) true
 (.sure (true) true
 (.sure (true) true
 (.sure (true) true
 (.sure (true) true
 (.sure (true) true
 (.sure (true) true
 (.sure (true) true
 (.sure (true) true
 (.sure (true) true
 (.sure (true) true
 (.leaf (SV.av (AV.one (Lf.v (Value.bool false))), [(1, Blk.cells 46 [Lf.v (Value.string a0_0), Lf.dat (K.arr 2 (K.int IntKind.i64)) a0_1, Lf.dat (K.sl (K.int IntKind.i64)) a0_2, Lf.dat (K.sl K.str) a0_3]), (4, Blk.cells 44 [Lf.dat (K.arr 2 (K.int IntKind.i64)) a0_1]), (43, Blk.cells 55 [Lf.v (Value.string a0_0), Lf.v (Value.int IntKind.i64 (Prod.fst z407))]), (46, Blk.cells 41 [Lf.v (Value.string a0_0), Lf.v (Value.int IntKind.i64 (Prod.fst z423))]), (83, Blk.dead), (85, Blk.dead), (86, Blk.dead), (88, Blk.dead)]) (false))))))))))))))))))
 (.sure (bno (bxn (Prod.snd z449) z443)) false
 (.sure (bno (bxn (Prod.snd z449) z443)) false
 (.ask (z443)
 (.sure (z443) true
 (.sure (z443) true
 (.sure (z443) true
 (.sure (z443) true
 (.sure (bno (bxn (Prod.snd z449) z443)) false
 (.sure (z443) true
 (.sure (bno (bxn (Prod.snd z449) z443)) false
 (.sure (bno (bxn (Prod.snd z449) z443)) false
 (.ask (bno (bxn (Prod.snd z458) (ieq (llen a0_2) (llen a0_3))))
 (.sure (bno (bxn (Prod.snd z458) (ieq (llen a0_2) (llen a0_3)))) true
 (.sure (bno (bxn (Prod.snd z458) (ieq (llen a0_2) (llen a0_3)))) true
 (.sure (bno (bxn (Prod.snd z458) (ieq (llen a0_2) (llen a0_3)))) true
 (.sure (bno (bxn (Prod.snd z458) (ieq (llen a0_2) (llen a0_3)))) true
 (.sure (true) true
 (.sure (true) true
 (.sure (true) true
 (.sure (true) true
 (.sure (true) true
 (.sure (true) true
 (.leaf (SV.av (AV.one (Lf.v (Value.bool false))), [(1, Blk.cells 46 [Lf.v (Value.string a0_0), Lf.dat (K.arr 2 (K.int IntKind.i64)) a0_1, Lf.dat (K.sl (K.int IntKind.i64)) a0_2, Lf.dat (K.sl K.str) a0_3]), (4, Blk.cells 44 [Lf.dat (K.arr 2 (K.int IntKind.i64)) a0_1]), (43, Blk.cells 55 [Lf.v (Value.string a0_0), Lf.v (Value.int IntKind.i64 (Prod.fst z407))]), (46, Blk.cells 41 [Lf.v (Value.string a0_0), Lf.v (Value.int IntKind.i64 (Prod.fst z423))]), (83, Blk.dead), (85, Blk.dead), (86, Blk.dead), (88, Blk.dead)]) (false))))))))))))
 (.sure (bno (bxn (Prod.snd z458) (ieq (llen a0_2) (llen a0_3)))) false
 (.sure (bno (bxn (Prod.snd z458) (ieq (llen a0_2) (llen a0_3)))) false
 (.call 12 [AV.one (Lf.dat (K.sl (K.int IntKind.i64)) (List.append [] a0_2)), AV.one (Lf.dat (K.sl (K.int IntKind.i64)) a0_2)] [] (f12_m (List.append [] a0_2) a0_2) (fun z466 => SV.av (AV.one (Lf.v (Value.bool z466)))) (fun z466 => []) fun z466 =>
 (.sure (bno (bxn (Prod.snd z458) (ieq (llen a0_2) (llen a0_3)))) false
 (.sure (bno (bxn (Prod.snd z458) (ieq (llen a0_2) (llen a0_3)))) false
 (.ask (bno z466)
 (.sure (bno z466) true
 (.sure (bno z466) true
 (.sure (bno z466) true
 (.sure (bno z466) true
 (.sure (true) true
 (.leaf (SV.av (AV.one (Lf.v (Value.bool false))), [(1, Blk.cells 46 [Lf.v (Value.string a0_0), Lf.dat (K.arr 2 (K.int IntKind.i64)) a0_1, Lf.dat (K.sl (K.int IntKind.i64)) a0_2, Lf.dat (K.sl K.str) a0_3]), (4, Blk.cells 44 [Lf.dat (K.arr 2 (K.int IntKind.i64)) a0_1]), (43, Blk.cells 55 [Lf.v (Value.string a0_0), Lf.v (Value.int IntKind.i64 (Prod.fst z407))]), (46, Blk.cells 41 [Lf.v (Value.string a0_0), Lf.v (Value.int IntKind.i64 (Prod.fst z423))]), (83, Blk.dead), (85, Blk.dead), (86, Blk.dead), (88, Blk.dead)]) (false)))))))
 (.sure (bno z466) false
 (.sure (bno z466) false
 (.call 13 [AV.one (Lf.dat (K.sl K.str) (List.append [] a0_3)), AV.one (Lf.dat (K.sl K.str) a0_3)] [] (f13_m (List.append [] a0_3) a0_3) (fun z474 => SV.av (AV.one (Lf.v (Value.bool z474)))) (fun z474 => []) fun z474 =>
 (.sure (bno z466) false
 (.sure (bno z466) false
 (.ask (bno z474)
 (.leaf (SV.av (AV.one (Lf.v (Value.bool false))), [(1, Blk.cells 46 [Lf.v (Value.string a0_0), Lf.dat (K.arr 2 (K.int IntKind.i64)) a0_1, Lf.dat (K.sl (K.int IntKind.i64)) a0_2, Lf.dat (K.sl K.str) a0_3]), (4, Blk.cells 44 [Lf.dat (K.arr 2 (K.int IntKind.i64)) a0_1]), (43, Blk.cells 55 [Lf.v (Value.string a0_0), Lf.v (Value.int IntKind.i64 (Prod.fst z407))]), (46, Blk.cells 41 [Lf.v (Value.string a0_0), Lf.v (Value.int IntKind.i64 (Prod.fst z423))]), (83, Blk.dead), (85, Blk.dead), (86, Blk.dead), (88, Blk.dead)]) (false))
 (.ask (bno (Prod.snd z449))
 (.sure (bno (Prod.snd z449)) true
 (.sure (bno (Prod.snd z449)) true
 (.sure (bno (Prod.snd z449)) true
 (.ask (ilt 0 (llen (Prod.fst z449)))
 (.sure (ilt 0 (llen (Prod.fst z449))) true
 (.sure (ilt 0 (llen (Prod.fst z449))) true
 (.sure (ilt 0 (llen (Prod.fst z449))) true
 (.sure (ilt 0 (llen (Prod.fst z449))) true
 (.sure (true) true
 (.sure (true) true
 (.sure (true) true
 (.sure (true) true
 (.sure (true) true
 (.leaf (SV.av (AV.one (Lf.v (Value.bool false))), [(1, Blk.cells 46 [Lf.v (Value.string a0_0), Lf.dat (K.arr 2 (K.int IntKind.i64)) a0_1, Lf.dat (K.sl (K.int IntKind.i64)) a0_2, Lf.dat (K.sl K.str) a0_3]), (4, Blk.cells 44 [Lf.dat (K.arr 2 (K.int IntKind.i64)) a0_1]), (43, Blk.cells 55 [Lf.v (Value.string a0_0), Lf.v (Value.int IntKind.i64 (Prod.fst z407))]), (46, Blk.cells 41 [Lf.v (Value.string a0_0), Lf.v (Value.int IntKind.i64 (Prod.fst z423))]), (83, Blk.dead), (85, Blk.dead), (86, Blk.dead), (88, Blk.dead)]) (false)))))))))))
 (.sure (ilt 0 (llen (Prod.fst z449))) false
 (.sure (ilt 0 (llen (Prod.fst z449))) false
 (.ask (bno (Prod.snd z458))
 (.sure (bno (Prod.snd z458)) true
 (.sure (bno (Prod.snd z458)) true
 (.sure (ilt 0 (llen (Prod.fst z449))) false
 (.sure (bno (Prod.snd z458)) true
 (.sure (ilt 0 (llen (Prod.fst z449))) false
 (.ask (ilt 0 (llen (Prod.fst z458)))
 (.sure (ilt 0 (llen (Prod.fst z458))) true
 (.sure (ilt 0 (llen (Prod.fst z458))) true
 (.sure (ilt 0 (llen (Prod.fst z458))) true
 (.sure (true) true
 (.leaf (SV.av (AV.one (Lf.v (Value.bool false))), [(1, Blk.cells 46 [Lf.v (Value.string a0_0), Lf.dat (K.arr 2 (K.int IntKind.i64)) a0_1, Lf.dat (K.sl (K.int IntKind.i64)) a0_2, Lf.dat (K.sl K.str) a0_3]), (4, Blk.cells 44 [Lf.dat (K.arr 2 (K.int IntKind.i64)) a0_1]), (43, Blk.cells 55 [Lf.v (Value.string a0_0), Lf.v (Value.int IntKind.i64 (Prod.fst z407))]), (46, Blk.cells 41 [Lf.v (Value.string a0_0), Lf.v (Value.int IntKind.i64 (Prod.fst z423))]), (83, Blk.dead), (85, Blk.dead), (86, Blk.dead), (88, Blk.dead)]) (false))))))
 (.sure (ilt 0 (llen (Prod.fst z458))) false
 (.sure (Prod.snd z449) false
 (.sure (Prod.snd z449) false
 (.sure (Prod.snd z449) false
 (.sure (Prod.snd z449) false
 (.sure (Prod.snd z449) false
 (.sure (ilt 0 (llen (Prod.fst z458))) false
 (.sure (Prod.snd z449) false
 (.sure (ilt 0 (llen (Prod.fst z458))) false
 (.sure (false) false
 (.sure (bno (Prod.snd z458)) true
 (.sure (bno (Prod.snd z458)) true
 (.sure (bno (Prod.snd z458)) true
 (.sure (bno (Prod.snd z458)) true
 (.sure (bno (Prod.snd z458)) true
 (.sure (bno (Prod.snd z458)) true
 (.sure (true) true
 (.call 7 [] [] (f7_m) (fun z476 => SV.av (AV.one (Lf.v (Value.bool z476)))) (fun z476 => []) fun z476 =>
 (.sure (true) true
 (.leaf (SV.av (AV.one (Lf.v (Value.bool z476))), [(1, Blk.cells 46 [Lf.v (Value.string a0_0), Lf.dat (K.arr 2 (K.int IntKind.i64)) a0_1, Lf.dat (K.sl (K.int IntKind.i64)) a0_2, Lf.dat (K.sl K.str) a0_3]), (4, Blk.cells 44 [Lf.dat (K.arr 2 (K.int IntKind.i64)) a0_1]), (43, Blk.cells 55 [Lf.v (Value.string a0_0), Lf.v (Value.int IntKind.i64 (Prod.fst z407))]), (46, Blk.cells 41 [Lf.v (Value.string a0_0), Lf.v (Value.int IntKind.i64 (Prod.fst z423))]), (83, Blk.dead), (85, Blk.dead), (86, Blk.dead), (88, Blk.dead)]) (z476)))))))))))))))))))))))))))
 (.sure (bno (Prod.snd z458)) false
 (.sure (bno (Prod.snd z458)) false
 (.sure (ilt 0 (llen (Prod.fst z449))) false
 (.sure (bno (Prod.snd z458)) false
 (.sure (ilt 0 (llen (Prod.fst z449))) false
 (.sure (false) false
 (.sure (false) false
 (.sure (Prod.snd z449) false
 (.sure (Prod.snd z449) false
 (.sure (Prod.snd z449) false
 (.sure (Prod.snd z449) false
 (.sure (Prod.snd z449) false
 (.sure (false) false
 (.sure (Prod.snd z449) false
 (.sure (false) false
 (.sure (false) false
 (.sure (bno (Prod.snd z458)) false
 (.sure (bno (Prod.snd z458)) false
 (.sure (bno (Prod.snd z458)) false
 (.sure (bno (Prod.snd z458)) false
 (.call 18 [AV.one (Lf.dat (K.sl (K.int IntKind.i64)) a0_2), AV.one (Lf.dat (K.sl K.str) a0_3)] [] (f18_m a0_2 a0_3) (fun z484 => SV.av (AV.one (Lf.dat (K.sl K.str) z484))) (fun z484 => []) fun z484 =>
 (.sure (bno (Prod.snd z458)) false
 (.call 13 [AV.one (Lf.dat (K.sl K.str) (Prod.fst z458)), AV.one (Lf.dat (K.sl K.str) z484)] [] (f13_m (Prod.fst z458) z484) (fun z492 => SV.av (AV.one (Lf.v (Value.bool z492)))) (fun z492 => []) fun z492 =>
 (.sure (bno (Prod.snd z458)) false
 (.ask (z492)
 (.call 7 [] [] (f7_m) (fun z494 => SV.av (AV.one (Lf.v (Value.bool z494)))) (fun z494 => []) fun z494 =>
 (.sure (z492) true
 (.leaf (SV.av (AV.one (Lf.v (Value.bool z494))), [(1, Blk.cells 46 [Lf.v (Value.string a0_0), Lf.dat (K.arr 2 (K.int IntKind.i64)) a0_1, Lf.dat (K.sl (K.int IntKind.i64)) a0_2, Lf.dat (K.sl K.str) a0_3]), (4, Blk.cells 44 [Lf.dat (K.arr 2 (K.int IntKind.i64)) a0_1]), (43, Blk.cells 55 [Lf.v (Value.string a0_0), Lf.v (Value.int IntKind.i64 (Prod.fst z407))]), (46, Blk.cells 41 [Lf.v (Value.string a0_0), Lf.v (Value.int IntKind.i64 (Prod.fst z423))]), (83, Blk.dead), (85, Blk.dead), (86, Blk.dead), (88, Blk.dead)]) (z494))))
 (.sure (z492) false
 (.leaf (SV.av (AV.one (Lf.v (Value.bool false))), [(1, Blk.cells 46 [Lf.v (Value.string a0_0), Lf.dat (K.arr 2 (K.int IntKind.i64)) a0_1, Lf.dat (K.sl (K.int IntKind.i64)) a0_2, Lf.dat (K.sl K.str) a0_3]), (4, Blk.cells 44 [Lf.dat (K.arr 2 (K.int IntKind.i64)) a0_1]), (43, Blk.cells 55 [Lf.v (Value.string a0_0), Lf.v (Value.int IntKind.i64 (Prod.fst z407))]), (46, Blk.cells 41 [Lf.v (Value.string a0_0), Lf.v (Value.int IntKind.i64 (Prod.fst z423))]), (83, Blk.dead), (85, Blk.dead), (86, Blk.dead), (88, Blk.dead)]) (false)))))))))))))))))))))))))))))))))))
 (.sure (bno (Prod.snd z449)) false
 (.sure (bno (Prod.snd z449)) false
 (.sure (bno (Prod.snd z449)) false
 (.sure (false) false
 (.sure (false) false
 (.sure (false) false
 (.ask (bno (Prod.snd z458))
 (.sure (bno (Prod.snd z458)) true
 (.sure (bno (Prod.snd z458)) true
 (.sure (false) false
 (.sure (bno (Prod.snd z458)) true
 (.sure (false) false
 (.ask (ilt 0 (llen (Prod.fst z458)))
 (.sure (ilt 0 (llen (Prod.fst z458))) true
 (.sure (ilt 0 (llen (Prod.fst z458))) true
 (.sure (ilt 0 (llen (Prod.fst z458))) true
 (.sure (true) true
 (.leaf (SV.av (AV.one (Lf.v (Value.bool false))), [(1, Blk.cells 46 [Lf.v (Value.string a0_0), Lf.dat (K.arr 2 (K.int IntKind.i64)) a0_1, Lf.dat (K.sl (K.int IntKind.i64)) a0_2, Lf.dat (K.sl K.str) a0_3]), (4, Blk.cells 44 [Lf.dat (K.arr 2 (K.int IntKind.i64)) a0_1]), (43, Blk.cells 55 [Lf.v (Value.string a0_0), Lf.v (Value.int IntKind.i64 (Prod.fst z407))]), (46, Blk.cells 41 [Lf.v (Value.string a0_0), Lf.v (Value.int IntKind.i64 (Prod.fst z423))]), (83, Blk.dead), (85, Blk.dead), (86, Blk.dead), (88, Blk.dead)]) (false))))))
 (.sure (ilt 0 (llen (Prod.fst z458))) false
 (.sure (Prod.snd z449) true
 (.sure (Prod.snd z449) true
 (.sure (Prod.snd z449) true
 (.call 17 [AV.one (Lf.dat (K.sl (K.int IntKind.i64)) a0_2)] [] (f17_m a0_2) (fun z499 => SV.av (AV.one (Lf.dat (K.sl (K.int IntKind.i64)) z499))) (fun z499 => []) fun z499 =>
 (.sure (Prod.snd z449) true
 (.call 12 [AV.one (Lf.dat (K.sl (K.int IntKind.i64)) (Prod.fst z449)), AV.one (Lf.dat (K.sl (K.int IntKind.i64)) z499)] [] (f12_m (Prod.fst z449) z499) (fun z507 => SV.av (AV.one (Lf.v (Value.bool z507)))) (fun z507 => []) fun z507 =>
 (.sure (Prod.snd z449) true
 (.sure (ilt 0 (llen (Prod.fst z458))) false
 (.sure (Prod.snd z449) true
 (.sure (ilt 0 (llen (Prod.fst z458))) false
 (.ask (bno z507)
 (.leaf (SV.av (AV.one (Lf.v (Value.bool false))), [(1, Blk.cells 46 [Lf.v (Value.string a0_0), Lf.dat (K.arr 2 (K.int IntKind.i64)) a0_1, Lf.dat (K.sl (K.int IntKind.i64)) a0_2, Lf.dat (K.sl K.str) a0_3]), (4, Blk.cells 44 [Lf.dat (K.arr 2 (K.int IntKind.i64)) a0_1]), (43, Blk.cells 55 [Lf.v (Value.string a0_0), Lf.v (Value.int IntKind.i64 (Prod.fst z407))]), (46, Blk.cells 41 [Lf.v (Value.string a0_0), Lf.v (Value.int IntKind.i64 (Prod.fst z423))]), (83, Blk.dead), (85, Blk.dead), (86, Blk.dead), (88, Blk.dead)]) (false))
 (.sure (bno (Prod.snd z458)) true
 (.sure (bno (Prod.snd z458)) true
 (.sure (bno (Prod.snd z458)) true
 (.sure (bno (Prod.snd z458)) true
 (.sure (bno (Prod.snd z458)) true
 (.sure (bno (Prod.snd z458)) true
 (.sure (true) true
 (.call 7 [] [] (f7_m) (fun z509 => SV.av (AV.one (Lf.v (Value.bool z509)))) (fun z509 => []) fun z509 =>
 (.sure (true) true
 (.leaf (SV.av (AV.one (Lf.v (Value.bool z509))), [(1, Blk.cells 46 [Lf.v (Value.string a0_0), Lf.dat (K.arr 2 (K.int IntKind.i64)) a0_1, Lf.dat (K.sl (K.int IntKind.i64)) a0_2, Lf.dat (K.sl K.str) a0_3]), (4, Blk.cells 44 [Lf.dat (K.arr 2 (K.int IntKind.i64)) a0_1]), (43, Blk.cells 55 [Lf.v (Value.string a0_0), Lf.v (Value.int IntKind.i64 (Prod.fst z407))]), (46, Blk.cells 41 [Lf.v (Value.string a0_0), Lf.v (Value.int IntKind.i64 (Prod.fst z423))]), (83, Blk.dead), (85, Blk.dead), (86, Blk.dead), (88, Blk.dead)]) (z509)))))))))))))))))))))))))))))
 (.sure (bno (Prod.snd z458)) false
 (.sure (bno (Prod.snd z458)) false
 (.sure (false) false
 (.sure (bno (Prod.snd z458)) false
 (.sure (false) false
 (.sure (false) false
 (.sure (false) false
 (.sure (Prod.snd z449) true
 (.sure (Prod.snd z449) true
 (.sure (Prod.snd z449) true
 (.call 17 [AV.one (Lf.dat (K.sl (K.int IntKind.i64)) a0_2)] [] (f17_m a0_2) (fun z514 => SV.av (AV.one (Lf.dat (K.sl (K.int IntKind.i64)) z514))) (fun z514 => []) fun z514 =>
 (.sure (Prod.snd z449) true
 (.call 12 [AV.one (Lf.dat (K.sl (K.int IntKind.i64)) (Prod.fst z449)), AV.one (Lf.dat (K.sl (K.int IntKind.i64)) z514)] [] (f12_m (Prod.fst z449) z514) (fun z522 => SV.av (AV.one (Lf.v (Value.bool z522)))) (fun z522 => []) fun z522 =>
 (.sure (Prod.snd z449) true
 (.sure (false) false
 (.sure (Prod.snd z449) true
 (.sure (false) false
 (.ask (bno z522)
 (.leaf (SV.av (AV.one (Lf.v (Value.bool false))), [(1, Blk.cells 46 [Lf.v (Value.string a0_0), Lf.dat (K.arr 2 (K.int IntKind.i64)) a0_1, Lf.dat (K.sl (K.int IntKind.i64)) a0_2, Lf.dat (K.sl K.str) a0_3]), (4, Blk.cells 44 [Lf.dat (K.arr 2 (K.int IntKind.i64)) a0_1]), (43, Blk.cells 55 [Lf.v (Value.string a0_0), Lf.v (Value.int IntKind.i64 (Prod.fst z407))]), (46, Blk.cells 41 [Lf.v (Value.string a0_0), Lf.v (Value.int IntKind.i64 (Prod.fst z423))]), (83, Blk.dead), (85, Blk.dead), (86, Blk.dead), (88, Blk.dead)]) (false))
 (.sure (bno (Prod.snd z458)) false
 (.sure (bno (Prod.snd z458)) false
 (.sure (bno (Prod.snd z458)) false
 (.sure (bno (Prod.snd z458)) false
 (.call 18 [AV.one (Lf.dat (K.sl (K.int IntKind.i64)) a0_2), AV.one (Lf.dat (K.sl K.str) a0_3)] [] (f18_m a0_2 a0_3) (fun z530 => SV.av (AV.one (Lf.dat (K.sl K.str) z530))) (fun z530 => []) fun z530 =>
 (.sure (bno (Prod.snd z458)) false
 (.call 13 [AV.one (Lf.dat (K.sl K.str) (Prod.fst z458)), AV.one (Lf.dat (K.sl K.str) z530)] [] (f13_m (Prod.fst z458) z530) (fun z538 => SV.av (AV.one (Lf.v (Value.bool z538)))) (fun z538 => []) fun z538 =>
 (.sure (bno (Prod.snd z458)) false
 (.ask (z538)
 (.call 7 [] [] (f7_m) (fun z540 => SV.av (AV.one (Lf.v (Value.bool z540)))) (fun z540 => []) fun z540 =>
 (.sure (z538) true
 (.leaf (SV.av (AV.one (Lf.v (Value.bool z540))), [(1, Blk.cells 46 [Lf.v (Value.string a0_0), Lf.dat (K.arr 2 (K.int IntKind.i64)) a0_1, Lf.dat (K.sl (K.int IntKind.i64)) a0_2, Lf.dat (K.sl K.str) a0_3]), (4, Blk.cells 44 [Lf.dat (K.arr 2 (K.int IntKind.i64)) a0_1]), (43, Blk.cells 55 [Lf.v (Value.string a0_0), Lf.v (Value.int IntKind.i64 (Prod.fst z407))]), (46, Blk.cells 41 [Lf.v (Value.string a0_0), Lf.v (Value.int IntKind.i64 (Prod.fst z423))]), (83, Blk.dead), (85, Blk.dead), (86, Blk.dead), (88, Blk.dead)]) (z540))))
 (.sure (z538) false
 (.leaf (SV.av (AV.one (Lf.v (Value.bool false))), [(1, Blk.cells 46 [Lf.v (Value.string a0_0), Lf.dat (K.arr 2 (K.int IntKind.i64)) a0_1, Lf.dat (K.sl (K.int IntKind.i64)) a0_2, Lf.dat (K.sl K.str) a0_3]), (4, Blk.cells 44 [Lf.dat (K.arr 2 (K.int IntKind.i64)) a0_1]), (43, Blk.cells 55 [Lf.v (Value.string a0_0), Lf.v (Value.int IntKind.i64 (Prod.fst z407))]), (46, Blk.cells 41 [Lf.v (Value.string a0_0), Lf.v (Value.int IntKind.i64 (Prod.fst z423))]), (83, Blk.dead), (85, Blk.dead), (86, Blk.dead), (88, Blk.dead)]) (false)))))))))))))))))))))))))))))))))))))))))))))))))))))))))))
 (.sure (z443) false
 (.sure (z443) false
 (.sure (z443) false
 (.sure (z443) false
 (.sure (bno (bxn (Prod.snd z449) z443)) false
 (.sure (z443) false
 (.sure (bno (bxn (Prod.snd z449) z443)) false
 (.sure (bno (bxn (Prod.snd z449) z443)) false
 (.ask (bno (bxn (Prod.snd z458) false))
 (.sure (bno (bxn (Prod.snd z458) false)) true
 (.sure (bno (bxn (Prod.snd z458) false)) true
 (.sure (bno (bxn (Prod.snd z458) false)) true
 (.sure (bno (bxn (Prod.snd z458) false)) true
 (.sure (true) true
 (.sure (true) true
 (.sure (true) true
 (.sure (true) true
 (.sure (true) true
 (.sure (true) true
 (.leaf (SV.av (AV.one (Lf.v (Value.bool false))), [(1, Blk.cells 46 [Lf.v (Value.string a0_0), Lf.dat (K.arr 2 (K.int IntKind.i64)) a0_1, Lf.dat (K.sl (K.int IntKind.i64)) a0_2, Lf.dat (K.sl K.str) a0_3]), (4, Blk.cells 44 [Lf.dat (K.arr 2 (K.int IntKind.i64)) a0_1]), (43, Blk.cells 55 [Lf.v (Value.string a0_0), Lf.v (Value.int IntKind.i64 (Prod.fst z407))]), (46, Blk.cells 41 [Lf.v (Value.string a0_0), Lf.v (Value.int IntKind.i64 (Prod.fst z423))]), (83, Blk.dead), (85, Blk.dead), (86, Blk.dead), (88, Blk.dead)]) (false))))))))))))
 (.sure (bno (bxn (Prod.snd z458) false)) false
 (.sure (bno (bxn (Prod.snd z458) false)) false
 (.call 12 [AV.one (Lf.dat (K.sl (K.int IntKind.i64)) (List.append [] a0_2)), AV.one (Lf.dat (K.sl (K.int IntKind.i64)) a0_2)] [] (f12_m (List.append [] a0_2) a0_2) (fun z548 => SV.av (AV.one (Lf.v (Value.bool z548)))) (fun z548 => []) fun z548 =>
 (.sure (bno (bxn (Prod.snd z458) false)) false
 (.sure (bno (bxn (Prod.snd z458) false)) false
 (.ask (bno z548)
 (.sure (bno z548) true
 (.sure (bno z548) true
 (.sure (bno z548) true
 (.sure (bno z548) true
 (.sure (true) true
 (.leaf (SV.av (AV.one (Lf.v (Value.bool false))), [(1, Blk.cells 46 [Lf.v (Value.string a0_0), Lf.dat (K.arr 2 (K.int IntKind.i64)) a0_1, Lf.dat (K.sl (K.int IntKind.i64)) a0_2, Lf.dat (K.sl K.str) a0_3]), (4, Blk.cells 44 [Lf.dat (K.arr 2 (K.int IntKind.i64)) a0_1]), (43, Blk.cells 55 [Lf.v (Value.string a0_0), Lf.v (Value.int IntKind.i64 (Prod.fst z407))]), (46, Blk.cells 41 [Lf.v (Value.string a0_0), Lf.v (Value.int IntKind.i64 (Prod.fst z423))]), (83, Blk.dead), (85, Blk.dead), (86, Blk.dead), (88, Blk.dead)]) (false)))))))
 (.sure (bno z548) false
 (.sure (bno z548) false
 (.call 13 [AV.one (Lf.dat (K.sl K.str) (List.append [] a0_3)), AV.one (Lf.dat (K.sl K.str) a0_3)] [] (f13_m (List.append [] a0_3) a0_3) (fun z556 => SV.av (AV.one (Lf.v (Value.bool z556)))) (fun z556 => []) fun z556 =>
 (.sure (bno z548) false
 (.sure (bno z548) false
 (.ask (bno z556)
 (.leaf (SV.av (AV.one (Lf.v (Value.bool false))), [(1, Blk.cells 46 [Lf.v (Value.string a0_0), Lf.dat (K.arr 2 (K.int IntKind.i64)) a0_1, Lf.dat (K.sl (K.int IntKind.i64)) a0_2, Lf.dat (K.sl K.str) a0_3]), (4, Blk.cells 44 [Lf.dat (K.arr 2 (K.int IntKind.i64)) a0_1]), (43, Blk.cells 55 [Lf.v (Value.string a0_0), Lf.v (Value.int IntKind.i64 (Prod.fst z407))]), (46, Blk.cells 41 [Lf.v (Value.string a0_0), Lf.v (Value.int IntKind.i64 (Prod.fst z423))]), (83, Blk.dead), (85, Blk.dead), (86, Blk.dead), (88, Blk.dead)]) (false))
 (.ask (bno (Prod.snd z449))
 (.sure (bno (Prod.snd z449)) true
 (.sure (bno (Prod.snd z449)) true
 (.sure (bno (Prod.snd z449)) true
 (.ask (ilt 0 (llen (Prod.fst z449)))
 (.sure (ilt 0 (llen (Prod.fst z449))) true
 (.sure (ilt 0 (llen (Prod.fst z449))) true
 (.sure (ilt 0 (llen (Prod.fst z449))) true
 (.sure (ilt 0 (llen (Prod.fst z449))) true
 (.sure (true) true
 (.sure (true) true
 (.sure (true) true
 (.sure (true) true
 (.sure (true) true
 (.leaf (SV.av (AV.one (Lf.v (Value.bool false))), [(1, Blk.cells 46 [Lf.v (Value.string a0_0), Lf.dat (K.arr 2 (K.int IntKind.i64)) a0_1, Lf.dat (K.sl (K.int IntKind.i64)) a0_2, Lf.dat (K.sl K.str) a0_3]), (4, Blk.cells 44 [Lf.dat (K.arr 2 (K.int IntKind.i64)) a0_1]), (43, Blk.cells 55 [Lf.v (Value.string a0_0), Lf.v (Value.int IntKind.i64 (Prod.fst z407))]), (46, Blk.cells 41 [Lf.v (Value.string a0_0), Lf.v (Value.int IntKind.i64 (Prod.fst z423))]), (83, Blk.dead), (85, Blk.dead), (86, Blk.dead), (88, Blk.dead)]) (false)))))))))))
 (.sure (ilt 0 (llen (Prod.fst z449))) false
 (.sure (ilt 0 (llen (Prod.fst z449))) false
 (.ask (bno (Prod.snd z458))
 (.sure (bno (Prod.snd z458)) true
 (.sure (bno (Prod.snd z458)) true
 (.sure (ilt 0 (llen (Prod.fst z449))) false
 (.sure (bno (Prod.snd z458)) true
 (.sure (ilt 0 (llen (Prod.fst z449))) false
 (.ask (ilt 0 (llen (Prod.fst z458)))
 (.sure (ilt 0 (llen (Prod.fst z458))) true
 (.sure (ilt 0 (llen (Prod.fst z458))) true
 (.sure (ilt 0 (llen (Prod.fst z458))) true
 (.sure (true) true
 (.leaf (SV.av (AV.one (Lf.v (Value.bool false))), [(1, Blk.cells 46 [Lf.v (Value.string a0_0), Lf.dat (K.arr 2 (K.int IntKind.i64)) a0_1, Lf.dat (K.sl (K.int IntKind.i64)) a0_2, Lf.dat (K.sl K.str) a0_3]), (4, Blk.cells 44 [Lf.dat (K.arr 2 (K.int IntKind.i64)) a0_1]), (43, Blk.cells 55 [Lf.v (Value.string a0_0), Lf.v (Value.int IntKind.i64 (Prod.fst z407))]), (46, Blk.cells 41 [Lf.v (Value.string a0_0), Lf.v (Value.int IntKind.i64 (Prod.fst z423))]), (83, Blk.dead), (85, Blk.dead), (86, Blk.dead), (88, Blk.dead)]) (false))))))
 (.sure (ilt 0 (llen (Prod.fst z458))) false
 (.sure (Prod.snd z449) false
 (.sure (Prod.snd z449) false
 (.sure (Prod.snd z449) false
 (.sure (Prod.snd z449) false
 (.sure (Prod.snd z449) false
 (.sure (ilt 0 (llen (Prod.fst z458))) false
 (.sure (Prod.snd z449) false
 (.sure (ilt 0 (llen (Prod.fst z458))) false
 (.sure (false) false
 (.sure (bno (Prod.snd z458)) true
 (.sure (bno (Prod.snd z458)) true
 (.sure (bno (Prod.snd z458)) true
 (.sure (bno (Prod.snd z458)) true
 (.sure (bno (Prod.snd z458)) true
 (.sure (bno (Prod.snd z458)) true
 (.sure (true) true
 (.call 7 [] [] (f7_m) (fun z558 => SV.av (AV.one (Lf.v (Value.bool z558)))) (fun z558 => []) fun z558 =>
 (.sure (true) true
 (.leaf (SV.av (AV.one (Lf.v (Value.bool z558))), [(1, Blk.cells 46 [Lf.v (Value.string a0_0), Lf.dat (K.arr 2 (K.int IntKind.i64)) a0_1, Lf.dat (K.sl (K.int IntKind.i64)) a0_2, Lf.dat (K.sl K.str) a0_3]), (4, Blk.cells 44 [Lf.dat (K.arr 2 (K.int IntKind.i64)) a0_1]), (43, Blk.cells 55 [Lf.v (Value.string a0_0), Lf.v (Value.int IntKind.i64 (Prod.fst z407))]), (46, Blk.cells 41 [Lf.v (Value.string a0_0), Lf.v (Value.int IntKind.i64 (Prod.fst z423))]), (83, Blk.dead), (85, Blk.dead), (86, Blk.dead), (88, Blk.dead)]) (z558)))))))))))))))))))))))))))
 (.sure (bno (Prod.snd z458)) false
 (.sure (bno (Prod.snd z458)) false
 (.sure (ilt 0 (llen (Prod.fst z449))) false
 (.sure (bno (Prod.snd z458)) false
 (.sure (ilt 0 (llen (Prod.fst z449))) false
 (.sure (false) false
 (.sure (false) false
 (.sure (Prod.snd z449) false
 (.sure (Prod.snd z449) false
 (.sure (Prod.snd z449) false
 (.sure (Prod.snd z449) false
 (.sure (Prod.snd z449) false
 (.sure (false) false
 (.sure (Prod.snd z449) false
 (.sure (false) false
 (.sure (false) false
 (.sure (bno (Prod.snd z458)) false
 (.sure (bno (Prod.snd z458)) false
 (.sure (bno (Prod.snd z458)) false
 (.sure (bno (Prod.snd z458)) false
 (.call 18 [AV.one (Lf.dat (K.sl (K.int IntKind.i64)) a0_2), AV.one (Lf.dat (K.sl K.str) a0_3)] [] (f18_m a0_2 a0_3) (fun z566 => SV.av (AV.one (Lf.dat (K.sl K.str) z566))) (fun z566 => []) fun z566 =>
 (.sure (bno (Prod.snd z458)) false
 (.call 13 [AV.one (Lf.dat (K.sl K.str) (Prod.fst z458)), AV.one (Lf.dat (K.sl K.str) z566)] [] (f13_m (Prod.fst z458) z566) (fun z574 => SV.av (AV.one (Lf.v (Value.bool z574)))) (fun z574 => []) fun z574 =>
 (.sure (bno (Prod.snd z458)) false
 (.ask (z574)
 (.call 7 [] [] (f7_m) (fun z576 => SV.av (AV.one (Lf.v (Value.bool z576)))) (fun z576 => []) fun z576 =>
 (.sure (z574) true
 (.leaf (SV.av (AV.one (Lf.v (Value.bool z576))), [(1, Blk.cells 46 [Lf.v (Value.string a0_0), Lf.dat (K.arr 2 (K.int IntKind.i64)) a0_1, Lf.dat (K.sl (K.int IntKind.i64)) a0_2, Lf.dat (K.sl K.str) a0_3]), (4, Blk.cells 44 [Lf.dat (K.arr 2 (K.int IntKind.i64)) a0_1]), (43, Blk.cells 55 [Lf.v (Value.string a0_0), Lf.v (Value.int IntKind.i64 (Prod.fst z407))]), (46, Blk.cells 41 [Lf.v (Value.string a0_0), Lf.v (Value.int IntKind.i64 (Prod.fst z423))]), (83, Blk.dead), (85, Blk.dead), (86, Blk.dead), (88, Blk.dead)]) (z576))))
 (.sure (z574) false
 (.leaf (SV.av (AV.one (Lf.v (Value.bool false))), [(1, Blk.cells 46 [Lf.v (Value.string a0_0), Lf.dat (K.arr 2 (K.int IntKind.i64)) a0_1, Lf.dat (K.sl (K.int IntKind.i64)) a0_2, Lf.dat (K.sl K.str) a0_3]), (4, Blk.cells 44 [Lf.dat (K.arr 2 (K.int IntKind.i64)) a0_1]), (43, Blk.cells 55 [Lf.v (Value.string a0_0), Lf.v (Value.int IntKind.i64 (Prod.fst z407))]), (46, Blk.cells 41 [Lf.v (Value.string a0_0), Lf.v (Value.int IntKind.i64 (Prod.fst z423))]), (83, Blk.dead), (85, Blk.dead), (86, Blk.dead), (88, Blk.dead)]) (false)))))))))))))))))))))))))))))))))))
 (.sure (bno (Prod.snd z449)) false
 (.sure (bno (Prod.snd z449)) false
 (.sure (bno (Prod.snd z449)) false
 (.sure (false) false
 (.sure (false) false
 (.sure (false) false
 (.ask (bno (Prod.snd z458))
 (.sure (bno (Prod.snd z458)) true
 (.sure (bno (Prod.snd z458)) true
 (.sure (false) false
 (.sure (bno (Prod.snd z458)) true
 (.sure (false) false
 (.ask (ilt 0 (llen (Prod.fst z458)))
 (.sure (ilt 0 (llen (Prod.fst z458))) true
 (.sure (ilt 0 (llen (Prod.fst z458))) true
 (.sure (ilt 0 (llen (Prod.fst z458))) true
 (.sure (true) true
 (.leaf (SV.av (AV.one (Lf.v (Value.bool false))), [(1, Blk.cells 46 [Lf.v (Value.string a0_0), Lf.dat (K.arr 2 (K.int IntKind.i64)) a0_1, Lf.dat (K.sl (K.int IntKind.i64)) a0_2, Lf.dat (K.sl K.str) a0_3]), (4, Blk.cells 44 [Lf.dat (K.arr 2 (K.int IntKind.i64)) a0_1]), (43, Blk.cells 55 [Lf.v (Value.string a0_0), Lf.v (Value.int IntKind.i64 (Prod.fst z407))]), (46, Blk.cells 41 [Lf.v (Value.string a0_0), Lf.v (Value.int IntKind.i64 (Prod.fst z423))]), (83, Blk.dead), (85, Blk.dead), (86, Blk.dead), (88, Blk.dead)]) (false))))))
 (.sure (ilt 0 (llen (Prod.fst z458))) false
 (.sure (Prod.snd z449) true
 (.sure (Prod.snd z449) true
 (.sure (Prod.snd z449) true
 (.call 17 [AV.one (Lf.dat (K.sl (K.int IntKind.i64)) a0_2)] [] (f17_m a0_2) (fun z581 => SV.av (AV.one (Lf.dat (K.sl (K.int IntKind.i64)) z581))) (fun z581 => []) fun z581 =>
 (.sure (Prod.snd z449) true
 (.call 12 [AV.one (Lf.dat (K.sl (K.int IntKind.i64)) (Prod.fst z449)), AV.one (Lf.dat (K.sl (K.int IntKind.i64)) z581)] [] (f12_m (Prod.fst z449) z581) (fun z589 => SV.av (AV.one (Lf.v (Value.bool z589)))) (fun z589 => []) fun z589 =>
 (.sure (Prod.snd z449) true
 (.sure (ilt 0 (llen (Prod.fst z458))) false
 (.sure (Prod.snd z449) true
 (.sure (ilt 0 (llen (Prod.fst z458))) false
 (.ask (bno z589)
 (.leaf (SV.av (AV.one (Lf.v (Value.bool false))), [(1, Blk.cells 46 [Lf.v (Value.string a0_0), Lf.dat (K.arr 2 (K.int IntKind.i64)) a0_1, Lf.dat (K.sl (K.int IntKind.i64)) a0_2, Lf.dat (K.sl K.str) a0_3]), (4, Blk.cells 44 [Lf.dat (K.arr 2 (K.int IntKind.i64)) a0_1]), (43, Blk.cells 55 [Lf.v (Value.string a0_0), Lf.v (Value.int IntKind.i64 (Prod.fst z407))]), (46, Blk.cells 41 [Lf.v (Value.string a0_0), Lf.v (Value.int IntKind.i64 (Prod.fst z423))]), (83, Blk.dead), (85, Blk.dead), (86, Blk.dead), (88, Blk.dead)]) (false))
 (.sure (bno (Prod.snd z458)) true
 (.sure (bno (Prod.snd z458)) true
 (.sure (bno (Prod.snd z458)) true
 (.sure (bno (Prod.snd z458)) true
 (.sure (bno (Prod.snd z458)) true
 (.sure (bno (Prod.snd z458)) true
 (.sure (true) true
 (.call 7 [] [] (f7_m) (fun z591 => SV.av (AV.one (Lf.v (Value.bool z591)))) (fun z591 => []) fun z591 =>
 (.sure (true) true
 (.leaf (SV.av (AV.one (Lf.v (Value.bool z591))), [(1, Blk.cells 46 [Lf.v (Value.string a0_0), Lf.dat (K.arr 2 (K.int IntKind.i64)) a0_1, Lf.dat (K.sl (K.int IntKind.i64)) a0_2, Lf.dat (K.sl K.str) a0_3]), (4, Blk.cells 44 [Lf.dat (K.arr 2 (K.int IntKind.i64)) a0_1]), (43, Blk.cells 55 [Lf.v (Value.string a0_0), Lf.v (Value.int IntKind.i64 (Prod.fst z407))]), (46, Blk.cells 41 [Lf.v (Value.string a0_0), Lf.v (Value.int IntKind.i64 (Prod.fst z423))]), (83, Blk.dead), (85, Blk.dead), (86, Blk.dead), (88, Blk.dead)]) (z591)))))))))))))))))))))))))))))
 (.sure (bno (Prod.snd z458)) false
 (.sure (bno (Prod.snd z458)) false
 (.sure (false) false
 (.sure (bno (Prod.snd z458)) false
 (.sure (false) false
 (.sure (false) false
 (.sure (false) false
 (.sure (Prod.snd z449) true
 (.sure (Prod.snd z449) true
 (.sure (Prod.snd z449) true
 (.call 17 [AV.one (Lf.dat (K.sl (K.int IntKind.i64)) a0_2)] [] (f17_m a0_2) (fun z596 => SV.av (AV.one (Lf.dat (K.sl (K.int IntKind.i64)) z596))) (fun z596 => []) fun z596 =>
 (.sure (Prod.snd z449) true
 (.call 12 [AV.one (Lf.dat (K.sl (K.int IntKind.i64)) (Prod.fst z449)), AV.one (Lf.dat (K.sl (K.int IntKind.i64)) z596)] [] (f12_m (Prod.fst z449) z596) (fun z604 => SV.av (AV.one (Lf.v (Value.bool z604)))) (fun z604 => []) fun z604 =>
 (.sure (Prod.snd z449) true
 (.sure (false) false
 (.sure (Prod.snd z449) true
 (.sure (false) false
 (.ask (bno z604)
 (.leaf (SV.av (AV.one (Lf.v (Value.bool false))), [(1, Blk.cells 46 [Lf.v (Value.string a0_0), Lf.dat (K.arr 2 (K.int IntKind.i64)) a0_1, Lf.dat (K.sl (K.int IntKind.i64)) a0_2, Lf.dat (K.sl K.str) a0_3]), (4, Blk.cells 44 [Lf.dat (K.arr 2 (K.int IntKind.i64)) a0_1]), (43, Blk.cells 55 [Lf.v (Value.string a0_0), Lf.v (Value.int IntKind.i64 (Prod.fst z407))]), (46, Blk.cells 41 [Lf.v (Value.string a0_0), Lf.v (Value.int IntKind.i64 (Prod.fst z423))]), (83, Blk.dead), (85, Blk.dead), (86, Blk.dead), (88, Blk.dead)]) (false))
 (.sure (bno (Prod.snd z458)) false
 (.sure (bno (Prod.snd z458)) false
 (.sure (bno (Prod.snd z458)) false
 (.sure (bno (Prod.snd z458)) false
 (.call 18 [AV.one (Lf.dat (K.sl (K.int IntKind.i64)) a0_2), AV.one (Lf.dat (K.sl K.str) a0_3)] [] (f18_m a0_2 a0_3) (fun z612 => SV.av (AV.one (Lf.dat (K.sl K.str) z612))) (fun z612 => []) fun z612 =>
 (.sure (bno (Prod.snd z458)) false
 (.call 13 [AV.one (Lf.dat (K.sl K.str) (Prod.fst z458)), AV.one (Lf.dat (K.sl K.str) z612)] [] (f13_m (Prod.fst z458) z612) (fun z620 => SV.av (AV.one (Lf.v (Value.bool z620)))) (fun z620 => []) fun z620 =>
 (.sure (bno (Prod.snd z458)) false
 (.ask (z620)
 (.call 7 [] [] (f7_m) (fun z622 => SV.av (AV.one (Lf.v (Value.bool z622)))) (fun z622 => []) fun z622 =>
 (.sure (z620) true
 (.leaf (SV.av (AV.one (Lf.v (Value.bool z622))), [(1, Blk.cells 46 [Lf.v (Value.string a0_0), Lf.dat (K.arr 2 (K.int IntKind.i64)) a0_1, Lf.dat (K.sl (K.int IntKind.i64)) a0_2, Lf.dat (K.sl K.str) a0_3]), (4, Blk.cells 44 [Lf.dat (K.arr 2 (K.int IntKind.i64)) a0_1]), (43, Blk.cells 55 [Lf.v (Value.string a0_0), Lf.v (Value.int IntKind.i64 (Prod.fst z407))]), (46, Blk.cells 41 [Lf.v (Value.string a0_0), Lf.v (Value.int IntKind.i64 (Prod.fst z423))]), (83, Blk.dead), (85, Blk.dead), (86, Blk.dead), (88, Blk.dead)]) (z622))))
 (.sure (z620) false
 (.leaf (SV.av (AV.one (Lf.v (Value.bool false))), [(1, Blk.cells 46 [Lf.v (Value.string a0_0), Lf.dat (K.arr 2 (K.int IntKind.i64)) a0_1, Lf.dat (K.sl (K.int IntKind.i64)) a0_2, Lf.dat (K.sl K.str) a0_3]), (4, Blk.cells 44 [Lf.dat (K.arr 2 (K.int IntKind.i64)) a0_1]), (43, Blk.cells 55 [Lf.v (Value.string a0_0), Lf.v (Value.int IntKind.i64 (Prod.fst z407))]), (46, Blk.cells 41 [Lf.v (Value.string a0_0), Lf.v (Value.int IntKind.i64 (Prod.fst z423))]), (83, Blk.dead), (85, Blk.dead), (86, Blk.dead), (88, Blk.dead)]) (false)))))))))))))))))))))))))))))))))))))))))))))))))))))))))))))))))))))))))))))))))))))))))))))))))))))))))))))))))))))))))))
theorem f5_v (a0_0 : ByteArray) (a0_1 : List Int) (a0_2 : List Int) (a0_3 : List ByteArray) : vc (runR P noG Try.f5 f5_hn [AV.agg [Lf.v (Value.string a0_0), Lf.dat (K.arr 2 (K.int IntKind.i64)) a0_1, Lf.dat (K.sl (K.int IntKind.i64)) a0_2, Lf.dat (K.sl K.str) a0_3]] []) (f5_t a0_0 a0_1 a0_2 a0_3) = vcT (f5_t a0_0 a0_1 a0_2 a0_3) := by kernel_rfl
theorem f5_o (a0_0 : ByteArray) (a0_1 : List Int) (a0_2 : List Int) (a0_3 : List ByteArray) : obl (Snd P noG) (Lp P noG Try.f5.ntmps [] f5_hn 1) (RelF [] (f5_R a0_0 a0_1 a0_2 a0_3)) (f5_t a0_0 a0_1 a0_2 a0_3) := by
 unfold f5_t
 exact (oAsk (fun h0 => (oSure h0 (oSure h0 (oSure h0 (oSure rfl (oSure rfl (oSure rfl (oSure rfl (oSure rfl (oCall (fun _ e => f7_s e) fun z383 _ =>
 (oLeaf (wks_tw [] [] (by kernel_rfl) (by kernel_rfl)))))))))))))
 (fun h0 => (oSure h0 (oSure h0 (oSure h0 (oAsk (fun h1 => (oSure h1 (oSure h1 (oSure h1 (oSure rfl (oCall (fun _ e => f7_s e) fun z385 _ =>
 (oLeaf (wks_tw [] [] (by kernel_rfl) (by kernel_rfl)))))))))
 (fun h1 => (oSure h1 (oSure h1 (oSure h1 (oAsk (fun h2 => (oCall (fun _ e => f7_s e) fun z387 _ =>
 (oLeaf (wks_tw [] [] (by kernel_rfl) (by kernel_rfl)))))
 (fun h2 => (oCall (fun _ e => f9_s e) fun z391 _ =>
 (oSure rfl (oSure rfl (oSure rfl (oSure rfl (oSure rfl (oSure rfl (oCall (fun _ e => f8_s e) fun z407 _ =>
 (oSure rfl (oSure rfl (oSure rfl (oSure rfl (oSure rfl (oSure rfl (oCall (fun _ e => f14_s e) fun z423 _ =>
 (oCall (fun _ e => f12_s e) fun z431 _ =>
 (oAsk (fun h3 => (oSure h3 (oSure h3 (oSure h3 (oSure rfl (oSure rfl (oSure rfl (oSure rfl (oSure rfl (oSure rfl (oSure rfl (oSure rfl (oSure rfl (oLeaf (wks_tw [] [] (by kernel_rfl) (by kernel_rfl))))))))))))))))
 (fun h3 => (oSure h3 (oSure h3 (oSure h3 (oAsk (fun h4 => (oSure h4 (oSure h4 (oSure h4 (oSure h4 (oSure h4 (oSure h4 (oSure h4 (oSure rfl (oLeaf (wks_tw [] [] (by kernel_rfl) (by kernel_rfl))))))))))))
 (fun h4 => (oSure h4 (oCall (fun _ e => f15_s e) fun z438 _ =>
 (oSure h4 (oSure h4 (oSure h4 (oSure h4 (oSure h4 (oSure h4 (oAsk (fun h5 => (oLeaf (wks_tw [] [] (by kernel_rfl) (by kernel_rfl))))
 (fun h5 => (oPick (oSure rfl (oSure rfl (oNeed fun h6 => (oNeed fun h7 => (oPick (oSure rfl (oSure rfl (oNeed fun h8 => (oNeed fun h9 => (oCall (fun _ e => f16_s e) fun z443 _ =>
 (oPick (oSure (nEq_t.2 rfl) (oPick (oSure (nEq_t.2 rfl) (oCall (fun _ e => f10_s e) fun z449 _ =>
 (oPick (oSure (nEq_t.2 rfl) (oPick (oSure (nEq_t.2 rfl) (oCall (fun _ e => f11_s e) fun z458 _ =>
 (oAsk (fun h10 => (oSure h10 (oSure h10 (oSure h10 (oSure h10 (oSure h10 (oSure rfl (oSure rfl (oSure rfl (oSure rfl (oSure rfl (oSure rfl (oSure rfl (oSure rfl (oSure rfl (oSure rfl (oSure rfl (oLeaf (wks_tw [] [] (by kernel_rfl) (by kernel_rfl))))))))))))))))))))
 (fun h10 => (oSure h10 (oSure h10 (oAsk (fun h11 => (oSure h11 (oSure h11 (oSure h11 (oSure h11 (oSure h10 (oSure h11 (oSure h10 (oSure h10 (oAsk (fun h12 => (oSure h12 (oSure h12 (oSure h12 (oSure h12 (oSure rfl (oSure rfl (oSure rfl (oSure rfl (oSure rfl (oSure rfl (oLeaf (wks_tw [] [] (by kernel_rfl) (by kernel_rfl))))))))))))))
 (fun h12 => (oSure h12 (oSure h12 (oCall (fun _ e => f12_s e) fun z466 _ =>
 (oSure h12 (oSure h12 (oAsk (fun h13 => (oSure h13 (oSure h13 (oSure h13 (oSure h13 (oSure rfl (oLeaf (wks_tw [] [] (by kernel_rfl) (by kernel_rfl)))))))))
 (fun h13 => (oSure h13 (oSure h13 (oCall (fun _ e => f13_s e) fun z474 _ =>
 (oSure h13 (oSure h13 (oAsk (fun h14 => (oLeaf (wks_tw [] [] (by kernel_rfl) (by kernel_rfl))))
 (fun h14 => (oAsk (fun h15 => (oSure h15 (oSure h15 (oSure h15 (oAsk (fun h16 => (oSure h16 (oSure h16 (oSure h16 (oSure h16 (oSure rfl (oSure rfl (oSure rfl (oSure rfl (oSure rfl (oLeaf (wks_tw [] [] (by kernel_rfl) (by kernel_rfl)))))))))))))
 (fun h16 => (oSure h16 (oSure h16 (oAsk (fun h17 => (oSure h17 (oSure h17 (oSure h16 (oSure h17 (oSure h16 (oAsk (fun h18 => (oSure h18 (oSure h18 (oSure h18 (oSure rfl (oLeaf (wks_tw [] [] (by kernel_rfl) (by kernel_rfl))))))))
 (fun h18 => (oSure h18 (oSure (bno_t.1 h15) (oSure (bno_t.1 h15) (oSure (bno_t.1 h15) (oSure (bno_t.1 h15) (oSure (bno_t.1 h15) (oSure h18 (oSure (bno_t.1 h15) (oSure h18 (oSure rfl (oSure h17 (oSure h17 (oSure h17 (oSure h17 (oSure h17 (oSure h17 (oSure rfl (oCall (fun _ e => f7_s e) fun z476 _ =>
 (oSure rfl (oLeaf (wks_tw [] [] (by kernel_rfl) (by kernel_rfl))))))))))))))))))))))))))))))
 (fun h17 => (oSure h17 (oSure h17 (oSure h16 (oSure h17 (oSure h16 (oSure rfl (oSure rfl (oSure (bno_t.1 h15) (oSure (bno_t.1 h15) (oSure (bno_t.1 h15) (oSure (bno_t.1 h15) (oSure (bno_t.1 h15) (oSure rfl (oSure (bno_t.1 h15) (oSure rfl (oSure rfl (oSure h17 (oSure h17 (oSure h17 (oSure h17 (oCall (fun _ e => f18_s e) fun z484 _ =>
 (oSure h17 (oCall (fun _ e => f13_s e) fun z492 _ =>
 (oSure h17 (oAsk (fun h18 => (oCall (fun _ e => f7_s e) fun z494 _ =>
 (oSure h18 (oLeaf (wks_tw [] [] (by kernel_rfl) (by kernel_rfl))))))
 (fun h18 => (oSure h18 (oLeaf (wks_tw [] [] (by kernel_rfl) (by kernel_rfl))))))))))))))))))))))))))))))))))))))))
 (fun h15 => (oSure h15 (oSure h15 (oSure h15 (oSure rfl (oSure rfl (oSure rfl (oAsk (fun h16 => (oSure h16 (oSure h16 (oSure rfl (oSure h16 (oSure rfl (oAsk (fun h17 => (oSure h17 (oSure h17 (oSure h17 (oSure rfl (oLeaf (wks_tw [] [] (by kernel_rfl) (by kernel_rfl))))))))
 (fun h17 => (oSure h17 (oSure (bno_f.1 h15) (oSure (bno_f.1 h15) (oSure (bno_f.1 h15) (oCall (fun _ e => f17_s e) fun z499 _ =>
 (oSure (bno_f.1 h15) (oCall (fun _ e => f12_s e) fun z507 _ =>
 (oSure (bno_f.1 h15) (oSure h17 (oSure (bno_f.1 h15) (oSure h17 (oAsk (fun h18 => (oLeaf (wks_tw [] [] (by kernel_rfl) (by kernel_rfl))))
 (fun h18 => (oSure h16 (oSure h16 (oSure h16 (oSure h16 (oSure h16 (oSure h16 (oSure rfl (oCall (fun _ e => f7_s e) fun z509 _ =>
 (oSure rfl (oLeaf (wks_tw [] [] (by kernel_rfl) (by kernel_rfl)))))))))))))))))))))))))))))))))
 (fun h16 => (oSure h16 (oSure h16 (oSure rfl (oSure h16 (oSure rfl (oSure rfl (oSure rfl (oSure (bno_f.1 h15) (oSure (bno_f.1 h15) (oSure (bno_f.1 h15) (oCall (fun _ e => f17_s e) fun z514 _ =>
 (oSure (bno_f.1 h15) (oCall (fun _ e => f12_s e) fun z522 _ =>
 (oSure (bno_f.1 h15) (oSure rfl (oSure (bno_f.1 h15) (oSure rfl (oAsk (fun h17 => (oLeaf (wks_tw [] [] (by kernel_rfl) (by kernel_rfl))))
 (fun h17 => (oSure h16 (oSure h16 (oSure h16 (oSure h16 (oCall (fun _ e => f18_s e) fun z530 _ =>
 (oSure h16 (oCall (fun _ e => f13_s e) fun z538 _ =>
 (oSure h16 (oAsk (fun h18 => (oCall (fun _ e => f7_s e) fun z540 _ =>
 (oSure h18 (oLeaf (wks_tw [] [] (by kernel_rfl) (by kernel_rfl))))))
 (fun h18 => (oSure h18 (oLeaf (wks_tw [] [] (by kernel_rfl) (by kernel_rfl))))))))))))))))))))))))))))))))))))))))))))))))))))))))))))))))))))
 (fun h11 => (oSure h11 (oSure h11 (oSure h11 (oSure h11 (oSure h10 (oSure h11 (oSure h10 (oSure h10 (oAsk (fun h12 => (oSure h12 (oSure h12 (oSure h12 (oSure h12 (oSure rfl (oSure rfl (oSure rfl (oSure rfl (oSure rfl (oSure rfl (oLeaf (wks_tw [] [] (by kernel_rfl) (by kernel_rfl))))))))))))))
 (fun h12 => (oSure h12 (oSure h12 (oCall (fun _ e => f12_s e) fun z548 _ =>
 (oSure h12 (oSure h12 (oAsk (fun h13 => (oSure h13 (oSure h13 (oSure h13 (oSure h13 (oSure rfl (oLeaf (wks_tw [] [] (by kernel_rfl) (by kernel_rfl)))))))))
 (fun h13 => (oSure h13 (oSure h13 (oCall (fun _ e => f13_s e) fun z556 _ =>
 (oSure h13 (oSure h13 (oAsk (fun h14 => (oLeaf (wks_tw [] [] (by kernel_rfl) (by kernel_rfl))))
 (fun h14 => (oAsk (fun h15 => (oSure h15 (oSure h15 (oSure h15 (oAsk (fun h16 => (oSure h16 (oSure h16 (oSure h16 (oSure h16 (oSure rfl (oSure rfl (oSure rfl (oSure rfl (oSure rfl (oLeaf (wks_tw [] [] (by kernel_rfl) (by kernel_rfl)))))))))))))
 (fun h16 => (oSure h16 (oSure h16 (oAsk (fun h17 => (oSure h17 (oSure h17 (oSure h16 (oSure h17 (oSure h16 (oAsk (fun h18 => (oSure h18 (oSure h18 (oSure h18 (oSure rfl (oLeaf (wks_tw [] [] (by kernel_rfl) (by kernel_rfl))))))))
 (fun h18 => (oSure h18 (oSure (bno_t.1 h15) (oSure (bno_t.1 h15) (oSure (bno_t.1 h15) (oSure (bno_t.1 h15) (oSure (bno_t.1 h15) (oSure h18 (oSure (bno_t.1 h15) (oSure h18 (oSure rfl (oSure h17 (oSure h17 (oSure h17 (oSure h17 (oSure h17 (oSure h17 (oSure rfl (oCall (fun _ e => f7_s e) fun z558 _ =>
 (oSure rfl (oLeaf (wks_tw [] [] (by kernel_rfl) (by kernel_rfl))))))))))))))))))))))))))))))
 (fun h17 => (oSure h17 (oSure h17 (oSure h16 (oSure h17 (oSure h16 (oSure rfl (oSure rfl (oSure (bno_t.1 h15) (oSure (bno_t.1 h15) (oSure (bno_t.1 h15) (oSure (bno_t.1 h15) (oSure (bno_t.1 h15) (oSure rfl (oSure (bno_t.1 h15) (oSure rfl (oSure rfl (oSure h17 (oSure h17 (oSure h17 (oSure h17 (oCall (fun _ e => f18_s e) fun z566 _ =>
 (oSure h17 (oCall (fun _ e => f13_s e) fun z574 _ =>
 (oSure h17 (oAsk (fun h18 => (oCall (fun _ e => f7_s e) fun z576 _ =>
 (oSure h18 (oLeaf (wks_tw [] [] (by kernel_rfl) (by kernel_rfl))))))
 (fun h18 => (oSure h18 (oLeaf (wks_tw [] [] (by kernel_rfl) (by kernel_rfl))))))))))))))))))))))))))))))))))))))))
 (fun h15 => (oSure h15 (oSure h15 (oSure h15 (oSure rfl (oSure rfl (oSure rfl (oAsk (fun h16 => (oSure h16 (oSure h16 (oSure rfl (oSure h16 (oSure rfl (oAsk (fun h17 => (oSure h17 (oSure h17 (oSure h17 (oSure rfl (oLeaf (wks_tw [] [] (by kernel_rfl) (by kernel_rfl))))))))
 (fun h17 => (oSure h17 (oSure (bno_f.1 h15) (oSure (bno_f.1 h15) (oSure (bno_f.1 h15) (oCall (fun _ e => f17_s e) fun z581 _ =>
 (oSure (bno_f.1 h15) (oCall (fun _ e => f12_s e) fun z589 _ =>
 (oSure (bno_f.1 h15) (oSure h17 (oSure (bno_f.1 h15) (oSure h17 (oAsk (fun h18 => (oLeaf (wks_tw [] [] (by kernel_rfl) (by kernel_rfl))))
 (fun h18 => (oSure h16 (oSure h16 (oSure h16 (oSure h16 (oSure h16 (oSure h16 (oSure rfl (oCall (fun _ e => f7_s e) fun z591 _ =>
 (oSure rfl (oLeaf (wks_tw [] [] (by kernel_rfl) (by kernel_rfl)))))))))))))))))))))))))))))))))
 (fun h16 => (oSure h16 (oSure h16 (oSure rfl (oSure h16 (oSure rfl (oSure rfl (oSure rfl (oSure (bno_f.1 h15) (oSure (bno_f.1 h15) (oSure (bno_f.1 h15) (oCall (fun _ e => f17_s e) fun z596 _ =>
 (oSure (bno_f.1 h15) (oCall (fun _ e => f12_s e) fun z604 _ =>
 (oSure (bno_f.1 h15) (oSure rfl (oSure (bno_f.1 h15) (oSure rfl (oAsk (fun h17 => (oLeaf (wks_tw [] [] (by kernel_rfl) (by kernel_rfl))))
 (fun h17 => (oSure h16 (oSure h16 (oSure h16 (oSure h16 (oCall (fun _ e => f18_s e) fun z612 _ =>
 (oSure h16 (oCall (fun _ e => f13_s e) fun z620 _ =>
 (oSure h16 (oAsk (fun h18 => (oCall (fun _ e => f7_s e) fun z622 _ =>
 (oSure h18 (oLeaf (wks_tw [] [] (by kernel_rfl) (by kernel_rfl))))))
 (fun h18 => (oSure h18 (oLeaf (wks_tw [] [] (by kernel_rfl) (by kernel_rfl)))))))))))))))))))))))))))))))))))))))))))))))))))))))))))))))))))))))))))))))))))))))))))))))))))))))))))))))))))))))))))))))))))))))))))
noncomputable def f5_m (a0_0 : ByteArray) (a0_1 : List Int) (a0_2 : List Int) (a0_3 : List ByteArray) : Option (Bool) := mod (f5_t a0_0 a0_1 a0_2 a0_3)
theorem f5_e (a0_0 : ByteArray) (a0_1 : List Int) (a0_2 : List Int) (a0_3 : List ByteArray) : f5_m a0_0 a0_1 a0_2 a0_3 =
 (sel (ilt 3000 (ssz a0_0))
 (Option.bind (f7_m) fun z383 =>
 (some ((z383))))
 (sel (ilt 100 (llen a0_2))
 (Option.bind (f7_m) fun z385 =>
 (some ((z385))))
 (sel (ilt 100 (llen a0_3))
 (Option.bind (f7_m) fun z387 =>
 (some ((z387))))
 (Option.bind (f9_m a0_0) fun z391 =>
 (Option.bind (f8_m a0_0 0 (gd (K.int IntKind.i64) a0_1 0) (gd (K.int IntKind.i64) a0_1 1)) fun z407 =>
 (Option.bind (f14_m a0_0 0 (gd (K.int IntKind.i64) a0_1 0) (gd (K.int IntKind.i64) a0_1 1)) fun z423 =>
 (Option.bind (f12_m (Prod.snd (Prod.snd z407)) (Prod.snd (Prod.snd z423))) fun z431 =>
 (sel (bno z431)
 (some ((false)))
 (sel (bno (ieq (Prod.fst (Prod.snd z407)) (Prod.fst (Prod.snd z423))))
 (some ((false)))
 (Option.bind (f15_m a0_0 (Prod.fst z407)) fun z438 =>
 (sel (bno (ieq (Prod.fst z407) (Prod.fst z423)))
 (some ((false)))
 (sel (nle (List.length (List.append [] a0_2)) 9223372036854775807)
 (sel (nle (List.length (List.append [] a0_2) * 8) 140737488355328)
 (sel (nle (List.length (List.append [] a0_3)) 9223372036854775807)
 (sel (nle (List.length (List.append [] a0_3) * 16) 140737488355328)
 (Option.bind (f16_m a0_2) fun z443 =>
 (Option.bind (f10_m (List.append [] a0_2)) fun z449 =>
 (Option.bind (f11_m (List.append [] a0_2) (List.append [] a0_3)) fun z458 =>
 (sel (bno (bxn (Prod.snd z449) z443))
 (some ((false)))
 (sel (z443)
 (sel (bno (bxn (Prod.snd z458) (ieq (llen a0_2) (llen a0_3))))
 (some ((false)))
 (Option.bind (f12_m (List.append [] a0_2) a0_2) fun z466 =>
 (sel (bno z466)
 (some ((false)))
 (Option.bind (f13_m (List.append [] a0_3) a0_3) fun z474 =>
 (sel (bno z474)
 (some ((false)))
 (sel (bno (Prod.snd z449))
 (sel (ilt 0 (llen (Prod.fst z449)))
 (some ((false)))
 (sel (bno (Prod.snd z458))
 (sel (ilt 0 (llen (Prod.fst z458)))
 (some ((false)))
 (Option.bind (f7_m) fun z476 =>
 (some ((z476)))))
 (Option.bind (f18_m a0_2 a0_3) fun z484 =>
 (Option.bind (f13_m (Prod.fst z458) z484) fun z492 =>
 (sel (z492)
 (Option.bind (f7_m) fun z494 =>
 (some ((z494))))
 (some ((false))))))))
 (sel (bno (Prod.snd z458))
 (sel (ilt 0 (llen (Prod.fst z458)))
 (some ((false)))
 (Option.bind (f17_m a0_2) fun z499 =>
 (Option.bind (f12_m (Prod.fst z449) z499) fun z507 =>
 (sel (bno z507)
 (some ((false)))
 (Option.bind (f7_m) fun z509 =>
 (some ((z509))))))))
 (Option.bind (f17_m a0_2) fun z514 =>
 (Option.bind (f12_m (Prod.fst z449) z514) fun z522 =>
 (sel (bno z522)
 (some ((false)))
 (Option.bind (f18_m a0_2 a0_3) fun z530 =>
 (Option.bind (f13_m (Prod.fst z458) z530) fun z538 =>
 (sel (z538)
 (Option.bind (f7_m) fun z540 =>
 (some ((z540))))
 (some ((false))))))))))))))))
 (sel (bno (bxn (Prod.snd z458) false))
 (some ((false)))
 (Option.bind (f12_m (List.append [] a0_2) a0_2) fun z548 =>
 (sel (bno z548)
 (some ((false)))
 (Option.bind (f13_m (List.append [] a0_3) a0_3) fun z556 =>
 (sel (bno z556)
 (some ((false)))
 (sel (bno (Prod.snd z449))
 (sel (ilt 0 (llen (Prod.fst z449)))
 (some ((false)))
 (sel (bno (Prod.snd z458))
 (sel (ilt 0 (llen (Prod.fst z458)))
 (some ((false)))
 (Option.bind (f7_m) fun z558 =>
 (some ((z558)))))
 (Option.bind (f18_m a0_2 a0_3) fun z566 =>
 (Option.bind (f13_m (Prod.fst z458) z566) fun z574 =>
 (sel (z574)
 (Option.bind (f7_m) fun z576 =>
 (some ((z576))))
 (some ((false))))))))
 (sel (bno (Prod.snd z458))
 (sel (ilt 0 (llen (Prod.fst z458)))
 (some ((false)))
 (Option.bind (f17_m a0_2) fun z581 =>
 (Option.bind (f12_m (Prod.fst z449) z581) fun z589 =>
 (sel (bno z589)
 (some ((false)))
 (Option.bind (f7_m) fun z591 =>
 (some ((z591))))))))
 (Option.bind (f17_m a0_2) fun z596 =>
 (Option.bind (f12_m (Prod.fst z449) z596) fun z604 =>
 (sel (bno z604)
 (some ((false)))
 (Option.bind (f18_m a0_2 a0_3) fun z612 =>
 (Option.bind (f13_m (Prod.fst z458) z612) fun z620 =>
 (sel (z620)
 (Option.bind (f7_m) fun z622 =>
 (some ((z622))))
 (some ((false))))))))))))))))))))) none) none) none) none)))))))))))) := by kernel_rfl
theorem f5_s {a0_0 : ByteArray} {a0_1 : List Int} {a0_2 : List Int} {a0_3 : List ByteArray} {z : Bool} (h : f5_m a0_0 a0_1 a0_2 a0_3 = some z) : Snd P noG 5 [AV.agg [Lf.v (Value.string a0_0), Lf.dat (K.arr 2 (K.int IntKind.i64)) a0_1, Lf.dat (K.sl (K.int IntKind.i64)) a0_2, Lf.dat (K.sl K.str) a0_3]] [] (SV.av (AV.one (Lf.v (Value.bool z)))) [] :=
 snd_tree (hn := f5_hn) 1 (f5_R a0_0 a0_1 a0_2 a0_3) mixed (by kernel_rfl) (by kernel_rfl) (by kernel_rfl) (by kernel_rfl) (by kernel_rfl) (f5_v a0_0 a0_1 a0_2 a0_3) (f5_o a0_0 a0_1 a0_2 a0_3) h
def f6_hn : Hn := Hn.mk [(4001, [(100, 17)]), (5002, [(0, 17)]), (8010, [(0, 17)])] [] [] [] []
def f6_R (a0 : ByteArray) (a1 : Int) : Bool → SV × Hp
  | z => (SV.av (AV.one (Lf.v (Value.bool z))), [])
noncomputable def f6_t (a0 : ByteArray) (a1 : Int) : DT (SV × Hp) (Bool) :=
 (.ask (ilt 300 (ssz a0))
 (.call 7 [] [] (f7_m) (fun z84 => SV.av (AV.one (Lf.v (Value.bool z84)))) (fun z84 => []) fun z84 =>
 (.leaf (SV.av (AV.one (Lf.v (Value.bool z84))), []) (z84)))
 (.sure (true) true
 (.call 9 [AV.one (Lf.v (Value.string a0))] [] (f9_m a0) (fun z88 => SV.av (AV.one (Lf.ptr 100 0 0 0 0))) (fun z88 => [(100, Blk.cells 55 [Lf.v (Value.string a0), Lf.v (Value.int IntKind.i64 0)])]) fun z88 =>
 (.call 8 [AV.one (Lf.ptr 0 0 0 0 0), AV.one (Lf.v (Value.int IntKind.i64 (irem (icv IntKind.i64 a1) 65))), AV.one (Lf.v (Value.int IntKind.i64 1))] [(0, Blk.cells 55 [Lf.v (Value.string a0), Lf.v (Value.int IntKind.i64 0)])] (f8_m a0 0 (irem (icv IntKind.i64 a1) 65) 1) (fun z104 => SV.tup [AV.one (Lf.dat (K.sl (K.int IntKind.i64)) (Prod.snd (Prod.snd z104))), AV.one (Lf.v (Value.int IntKind.i64 (Prod.fst (Prod.snd z104))))]) (fun z104 => [(0, Blk.cells 55 [Lf.v (Value.string a0), Lf.v (Value.int IntKind.i64 (Prod.fst z104))])]) fun z104 =>
 (.ask (bno (ieq (Prod.fst (Prod.snd z104)) 0))
 (.ask (ieq (Prod.fst (Prod.snd z104)) 3)
 (.sure (ieq (Prod.fst (Prod.snd z104)) 3) true
 (.sure (ieq (Prod.fst (Prod.snd z104)) 3) true
 (.sure (ieq (Prod.fst (Prod.snd z104)) 3) true
 (.ask (ieq (llen (Prod.snd (Prod.snd z104))) 0)
 (.call 7 [] [] (f7_m) (fun z106 => SV.av (AV.one (Lf.v (Value.bool z106)))) (fun z106 => []) fun z106 =>
 (.sure (ieq (llen (Prod.snd (Prod.snd z104))) 0) true
 (.leaf (SV.av (AV.one (Lf.v (Value.bool z106))), [(17, Blk.cells 55 [Lf.v (Value.string a0), Lf.v (Value.int IntKind.i64 (Prod.fst z104))])]) (z106))))
 (.sure (ieq (llen (Prod.snd (Prod.snd z104))) 0) false
 (.leaf (SV.av (AV.one (Lf.v (Value.bool false))), [(17, Blk.cells 55 [Lf.v (Value.string a0), Lf.v (Value.int IntKind.i64 (Prod.fst z104))])]) (false)))))))
 (.sure (ieq (Prod.fst (Prod.snd z104)) 3) false
 (.sure (ieq (Prod.fst (Prod.snd z104)) 3) false
 (.sure (ieq (Prod.fst (Prod.snd z104)) 3) false
 (.sure (false) false
 (.sure (false) false
 (.leaf (SV.av (AV.one (Lf.v (Value.bool false))), [(17, Blk.cells 55 [Lf.v (Value.string a0), Lf.v (Value.int IntKind.i64 (Prod.fst z104))])]) (false))))))))
 (.ask (ieq (llen (Prod.snd (Prod.snd z104))) (irem (icv IntKind.i64 a1) 65))
 (.sure (ieq (llen (Prod.snd (Prod.snd z104))) (irem (icv IntKind.i64 a1) 65)) true
 (.call 16 [AV.one (Lf.dat (K.sl (K.int IntKind.i64)) (Prod.snd (Prod.snd z104)))] [] (f16_m (Prod.snd (Prod.snd z104))) (fun z112 => SV.av (AV.one (Lf.v (Value.bool z112)))) (fun z112 => []) fun z112 =>
 (.sure (ieq (llen (Prod.snd (Prod.snd z104))) (irem (icv IntKind.i64 a1) 65)) true
 (.ask (z112)
 (.sure (z112) true
 (.call 15 [AV.one (Lf.ptr 0 0 0 0 0)] [(0, Blk.cells 55 [Lf.v (Value.string a0), Lf.v (Value.int IntKind.i64 (Prod.fst z104))])] (f15_m a0 (Prod.fst z104)) (fun z119 => SV.av (AV.one (Lf.v (Value.int IntKind.i64 (Prod.fst z104))))) (fun z119 => [(0, Blk.cells 55 [Lf.v (Value.string a0), Lf.v (Value.int IntKind.i64 (Prod.fst z104))])]) fun z119 =>
 (.sure (z112) true
 (.sure (z112) true
 (.sure (z112) true
 (.sure (z112) true
 (.sure (z112) true
 (.sure (z112) true
 (.ask (ieq (Prod.fst z104) (imul IntKind.i64 2 (mx 0 (isub IntKind.i64 (irem (icv IntKind.i64 a1) 65) 1))))
 (.call 7 [] [] (f7_m) (fun z121 => SV.av (AV.one (Lf.v (Value.bool z121)))) (fun z121 => []) fun z121 =>
 (.sure (ieq (Prod.fst z104) (imul IntKind.i64 2 (mx 0 (isub IntKind.i64 (irem (icv IntKind.i64 a1) 65) 1)))) true
 (.leaf (SV.av (AV.one (Lf.v (Value.bool z121))), [(17, Blk.cells 55 [Lf.v (Value.string a0), Lf.v (Value.int IntKind.i64 (Prod.fst z104))])]) (z121))))
 (.sure (ieq (Prod.fst z104) (imul IntKind.i64 2 (mx 0 (isub IntKind.i64 (irem (icv IntKind.i64 a1) 65) 1)))) false
 (.leaf (SV.av (AV.one (Lf.v (Value.bool false))), [(17, Blk.cells 55 [Lf.v (Value.string a0), Lf.v (Value.int IntKind.i64 (Prod.fst z104))])]) (false))))))))))))
 (.sure (z112) false
 (.sure (z112) false
 (.sure (z112) false
 (.sure (z112) false
 (.sure (z112) false
 (.sure (z112) false
 (.sure (z112) false
 (.sure (false) false
 (.sure (false) false
 (.leaf (SV.av (AV.one (Lf.v (Value.bool false))), [(17, Blk.cells 55 [Lf.v (Value.string a0), Lf.v (Value.int IntKind.i64 (Prod.fst z104))])]) (false)))))))))))))))
 (.sure (ieq (llen (Prod.snd (Prod.snd z104))) (irem (icv IntKind.i64 a1) 65)) false
 (.sure (ieq (llen (Prod.snd (Prod.snd z104))) (irem (icv IntKind.i64 a1) 65)) false
 (.sure (false) false
 (.sure (false) false
 (.sure (false) false
 (.sure (false) false
 (.sure (false) false
 (.sure (false) false
 (.sure (false) false
 (.sure (false) false
 (.sure (false) false
 (.sure (false) false
 (.leaf (SV.av (AV.one (Lf.v (Value.bool false))), [(17, Blk.cells 55 [Lf.v (Value.string a0), Lf.v (Value.int IntKind.i64 (Prod.fst z104))])]) (false))))))))))))))))))))
theorem f6_v (a0 : ByteArray) (a1 : Int) : vc (runR P noG Try.f6 f6_hn [AV.one (Lf.v (Value.string a0)), AV.one (Lf.v (Value.int IntKind.u8 a1))] []) (f6_t a0 a1) = vcT (f6_t a0 a1) := by kernel_rfl
theorem f6_o (a0 : ByteArray) (a1 : Int) : obl (Snd P noG) (Lp P noG Try.f6.ntmps [] f6_hn 1) (RelF [] (f6_R a0 a1)) (f6_t a0 a1) := by
 unfold f6_t
 exact (oAsk (fun h0 => (oCall (fun _ e => f7_s e) fun z84 _ =>
 (oLeaf (wks_tw [] [] (by kernel_rfl) (by kernel_rfl)))))
 (fun h0 => (oSure rfl (oCall (fun _ e => f9_s e) fun z88 _ =>
 (oCall (fun _ e => f8_s e) fun z104 _ =>
 (oAsk (fun h1 => (oAsk (fun h2 => (oSure h2 (oSure h2 (oSure h2 (oAsk (fun h3 => (oCall (fun _ e => f7_s e) fun z106 _ =>
 (oSure h3 (oLeaf (wks_tw [] [] (by kernel_rfl) (by kernel_rfl))))))
 (fun h3 => (oSure h3 (oLeaf (wks_tw [] [] (by kernel_rfl) (by kernel_rfl))))))))))
 (fun h2 => (oSure h2 (oSure h2 (oSure h2 (oSure rfl (oSure rfl (oLeaf (wks_tw [] [] (by kernel_rfl) (by kernel_rfl)))))))))))
 (fun h1 => (oAsk (fun h2 => (oSure h2 (oCall (fun _ e => f16_s e) fun z112 _ =>
 (oSure h2 (oAsk (fun h3 => (oSure h3 (oCall (fun _ e => f15_s e) fun z119 _ =>
 (oSure h3 (oSure h3 (oSure h3 (oSure h3 (oSure h3 (oSure h3 (oAsk (fun h4 => (oCall (fun _ e => f7_s e) fun z121 _ =>
 (oSure h4 (oLeaf (wks_tw [] [] (by kernel_rfl) (by kernel_rfl))))))
 (fun h4 => (oSure h4 (oLeaf (wks_tw [] [] (by kernel_rfl) (by kernel_rfl)))))))))))))))
 (fun h3 => (oSure h3 (oSure h3 (oSure h3 (oSure h3 (oSure h3 (oSure h3 (oSure h3 (oSure rfl (oSure rfl (oLeaf (wks_tw [] [] (by kernel_rfl) (by kernel_rfl))))))))))))))))))
 (fun h2 => (oSure h2 (oSure h2 (oSure rfl (oSure rfl (oSure rfl (oSure rfl (oSure rfl (oSure rfl (oSure rfl (oSure rfl (oSure rfl (oSure rfl (oLeaf (wks_tw [] [] (by kernel_rfl) (by kernel_rfl))))))))))))))))))))))))
noncomputable def f6_m (a0 : ByteArray) (a1 : Int) : Option (Bool) := mod (f6_t a0 a1)
theorem f6_e (a0 : ByteArray) (a1 : Int) : f6_m a0 a1 =
 (sel (ilt 300 (ssz a0))
 (Option.bind (f7_m) fun z84 =>
 (some ((z84))))
 (Option.bind (f9_m a0) fun z88 =>
 (Option.bind (f8_m a0 0 (irem (icv IntKind.i64 a1) 65) 1) fun z104 =>
 (sel (bno (ieq (Prod.fst (Prod.snd z104)) 0))
 (sel (ieq (Prod.fst (Prod.snd z104)) 3)
 (sel (ieq (llen (Prod.snd (Prod.snd z104))) 0)
 (Option.bind (f7_m) fun z106 =>
 (some ((z106))))
 (some ((false))))
 (some ((false))))
 (sel (ieq (llen (Prod.snd (Prod.snd z104))) (irem (icv IntKind.i64 a1) 65))
 (Option.bind (f16_m (Prod.snd (Prod.snd z104))) fun z112 =>
 (sel (z112)
 (Option.bind (f15_m a0 (Prod.fst z104)) fun z119 =>
 (sel (ieq (Prod.fst z104) (imul IntKind.i64 2 (mx 0 (isub IntKind.i64 (irem (icv IntKind.i64 a1) 65) 1))))
 (Option.bind (f7_m) fun z121 =>
 (some ((z121))))
 (some ((false)))))
 (some ((false)))))
 (some ((false)))))))) := by kernel_rfl
theorem f6_s {a0 : ByteArray} {a1 : Int} {z : Bool} (h : f6_m a0 a1 = some z) : Snd P noG 6 [AV.one (Lf.v (Value.string a0)), AV.one (Lf.v (Value.int IntKind.u8 a1))] [] (SV.av (AV.one (Lf.v (Value.bool z)))) [] :=
 snd_tree (hn := f6_hn) 1 (f6_R a0 a1) mixed (by kernel_rfl) (by kernel_rfl) (by kernel_rfl) (by kernel_rfl) (by kernel_rfl) (f6_v a0 a1) (f6_o a0 a1) h

end Go.Proofs.Ytjpnpdidgaeegaa
