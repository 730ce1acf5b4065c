/- A part of the proof that the laws of this seat hold for every input; no conditions of its own. -/
import Derived.Test.YtkbpgmhkmhojnaaCS
open Go Vam Vam.Pg Go.Proofs
set_option linter.unusedVariables false
set_option maxRecDepth 100000
namespace Go.Proofs.Ytkbpgmhkmhojnaa
def f19_hn : Hn := Hn.mk [] [] [] [] []
def f19_R (a0 : Int) (a1 : Int) : Int → SV × Hp
  | z => (SV.av (AV.one (Lf.v (Value.int IntKind.u32 z))), [])
noncomputable def f19_t (a0 : Int) (a1 : Int) : DT (SV × Hp) (Int) :=
 (.need (ile 0 (iand IntKind.u64 (icv IntKind.u64 a1) 31)) true
 (.need (ile 0 (isub IntKind.u64 32 (iand IntKind.u64 (icv IntKind.u64 a1) 31))) true
 (.leaf (SV.av (AV.one (Lf.v (Value.int IntKind.u32 (ior IntKind.u32 (shl IntKind.u32 a0 (iand IntKind.u64 (icv IntKind.u64 a1) 31)) (shr IntKind.u32 a0 (isub IntKind.u64 32 (iand IntKind.u64 (icv IntKind.u64 a1) 31))))))), []) (ior IntKind.u32 (shl IntKind.u32 a0 (iand IntKind.u64 (icv IntKind.u64 a1) 31)) (shr IntKind.u32 a0 (isub IntKind.u64 32 (iand IntKind.u64 (icv IntKind.u64 a1) 31)))))))
theorem f19_v (a0 : Int) (a1 : Int) : vc (runR P noG Try.f19 f19_hn [AV.one (Lf.v (Value.int IntKind.u32 a0)), AV.one (Lf.v (Value.int IntKind.i64 a1))] []) (f19_t a0 a1) = vcT (f19_t a0 a1) := by kernel_rfl
theorem f19_o (a0 : Int) (a1 : Int) : obl (Snd P noG) (Lp P noG Try.f19.ntmps [] f19_hn 1) (RelF [] (f19_R a0 a1)) (f19_t a0 a1) := by
 unfold f19_t
 exact (oNeed fun h0 => (oNeed fun h1 => (oLeaf (wks_tw [] [] (by kernel_rfl) (by kernel_rfl)))))
noncomputable def f19_m (a0 : Int) (a1 : Int) : Option (Int) := mod (f19_t a0 a1)
theorem f19_e (a0 : Int) (a1 : Int) : f19_m a0 a1 =
 (sel (ile 0 (iand IntKind.u64 (icv IntKind.u64 a1) 31))
 (sel (ile 0 (isub IntKind.u64 32 (iand IntKind.u64 (icv IntKind.u64 a1) 31)))
 (some ((ior IntKind.u32 (shl IntKind.u32 a0 (iand IntKind.u64 (icv IntKind.u64 a1) 31)) (shr IntKind.u32 a0 (isub IntKind.u64 32 (iand IntKind.u64 (icv IntKind.u64 a1) 31)))))) none) none) := by kernel_rfl
theorem f19_s {a0 : Int} {a1 : Int} {z : Int} (h : f19_m a0 a1 = some z) : Snd P noG 19 [AV.one (Lf.v (Value.int IntKind.u32 a0)), AV.one (Lf.v (Value.int IntKind.i64 a1))] [] (SV.av (AV.one (Lf.v (Value.int IntKind.u32 z)))) [] :=
 snd_tree (hn := f19_hn) 1 (f19_R a0 a1) mixed (by kernel_rfl) (by kernel_rfl) (by kernel_rfl) (by kernel_rfl) (by kernel_rfl) (f19_v a0 a1) (f19_o a0 a1) h
def f17_hn : Hn := Hn.mk [] [] [] [] []
def f17_R (a0 : Int) (a1 : Int) : Int → SV × Hp
  | z => (SV.av (AV.one (Lf.v (Value.int IntKind.u32 z))), [])
noncomputable def f17_t (a0 : Int) (a1 : Int) : DT (SV × Hp) (Int) :=
 (.need (ile 0 a1) true
 (.need (ile 0 (isub IntKind.u32 32 a1)) true
 (.leaf (SV.av (AV.one (Lf.v (Value.int IntKind.u32 (ior IntKind.u32 (shl IntKind.u32 a0 a1) (shr IntKind.u32 a0 (isub IntKind.u32 32 a1)))))), []) (ior IntKind.u32 (shl IntKind.u32 a0 a1) (shr IntKind.u32 a0 (isub IntKind.u32 32 a1))))))
theorem f17_v (a0 : Int) (a1 : Int) : vc (runR P noG Try.f17 f17_hn [AV.one (Lf.v (Value.int IntKind.u32 a0)), AV.one (Lf.v (Value.int IntKind.u32 a1))] []) (f17_t a0 a1) = vcT (f17_t a0 a1) := by kernel_rfl
theorem f17_o (a0 : Int) (a1 : Int) : obl (Snd P noG) (Lp P noG Try.f17.ntmps [] f17_hn 1) (RelF [] (f17_R a0 a1)) (f17_t a0 a1) := by
 unfold f17_t
 exact (oNeed fun h0 => (oNeed fun h1 => (oLeaf (wks_tw [] [] (by kernel_rfl) (by kernel_rfl)))))
noncomputable def f17_m (a0 : Int) (a1 : Int) : Option (Int) := mod (f17_t a0 a1)
theorem f17_e (a0 : Int) (a1 : Int) : f17_m a0 a1 =
 (sel (ile 0 a1)
 (sel (ile 0 (isub IntKind.u32 32 a1))
 (some ((ior IntKind.u32 (shl IntKind.u32 a0 a1) (shr IntKind.u32 a0 (isub IntKind.u32 32 a1))))) none) none) := by kernel_rfl
theorem f17_s {a0 : Int} {a1 : Int} {z : Int} (h : f17_m a0 a1 = some z) : Snd P noG 17 [AV.one (Lf.v (Value.int IntKind.u32 a0)), AV.one (Lf.v (Value.int IntKind.u32 a1))] [] (SV.av (AV.one (Lf.v (Value.int IntKind.u32 z)))) [] :=
 snd_tree (hn := f17_hn) 1 (f17_R a0 a1) mixed (by kernel_rfl) (by kernel_rfl) (by kernel_rfl) (by kernel_rfl) (by kernel_rfl) (f17_v a0 a1) (f17_o a0 a1) h
def f18_hn : Hn := Hn.mk [] [] [] [] []
def f18_s0 (a0 : List Int) : Int := ior IntKind.u32 (ior IntKind.u32 (ior IntKind.u32 (icv IntKind.u32 (gd (K.int IntKind.u8) a0 0)) (shl IntKind.u32 (icv IntKind.u32 (gd (K.int IntKind.u8) a0 1)) 8)) (shl IntKind.u32 (icv IntKind.u32 (gd (K.int IntKind.u8) a0 2)) 16)) (shl IntKind.u32 (icv IntKind.u32 (gd (K.int IntKind.u8) a0 3)) 24)
def f18_R (a0 : List Int) : Int → SV × Hp
  | z => (SV.av (AV.one (Lf.v (Value.int IntKind.u32 z))), [])
noncomputable def f18_t (a0 : List Int) : DT (SV × Hp) (Int) :=
 (.sure (true) true
 (.need (ilt 0 (llen a0)) true
 (.sure (true) true
 (.need (ilt 1 (llen a0)) true
 (.sure (true) true
 (.sure (true) true
 (.need (ilt 2 (llen a0)) true
 (.sure (true) true
 (.sure (true) true
 (.need (ilt 3 (llen a0)) true
 (.sure (true) true
 (.leaf (SV.av (AV.one (Lf.v (Value.int IntKind.u32 (f18_s0 a0)))), []) (f18_s0 a0)))))))))))))
theorem f18_v (a0 : List Int) : vc (runR P noG Try.f18 f18_hn [AV.one (Lf.dat (K.sl (K.int IntKind.u8)) a0)] []) (f18_t a0) = vcT (f18_t a0) := by kernel_rfl
theorem f18_o (a0 : List Int) : obl (Snd P noG) (Lp P noG Try.f18.ntmps [] f18_hn 1) (RelF [] (f18_R a0)) (f18_t a0) := by
 unfold f18_t
 exact (oSure rfl (oNeed fun h0 => (oSure rfl (oNeed fun h1 => (oSure rfl (oSure rfl (oNeed fun h2 => (oSure rfl (oSure rfl (oNeed fun h3 => (oSure rfl (oLeaf (wks_tw [] [] (by kernel_rfl) (by kernel_rfl))))))))))))))
noncomputable def f18_m (a0 : List Int) : Option (Int) := mod (f18_t a0)
theorem f18_e (a0 : List Int) : f18_m a0 =
 (sel (ilt 0 (llen a0))
 (sel (ilt 1 (llen a0))
 (sel (ilt 2 (llen a0))
 (sel (ilt 3 (llen a0))
 (some ((f18_s0 a0))) none) none) none) none) := by kernel_rfl
theorem f18_s {a0 : List Int} {z : Int} (h : f18_m a0 = some z) : Snd P noG 18 [AV.one (Lf.dat (K.sl (K.int IntKind.u8)) a0)] [] (SV.av (AV.one (Lf.v (Value.int IntKind.u32 z)))) [] :=
 snd_tree (hn := f18_hn) 1 (f18_R a0) mixed (by kernel_rfl) (by kernel_rfl) (by kernel_rfl) (by kernel_rfl) (by kernel_rfl) (f18_v a0) (f18_o a0) h
def f13_hn : Hn := Hn.mk [] [] [] [] []
def f13_R (a0 : ByteArray) : Int → SV × Hp
  | z => (SV.av (AV.one (Lf.v (Value.int IntKind.u32 z))), [])
noncomputable def f13_t (a0 : ByteArray) : DT (SV × Hp) (Int) :=
 (.sure (true) true
 (.need (ilt 0 (ssz a0)) true
 (.sure (true) true
 (.need (ilt 1 (ssz a0)) true
 (.sure (true) true
 (.sure (true) true
 (.need (ilt 2 (ssz a0)) true
 (.sure (true) true
 (.sure (true) true
 (.need (ilt 3 (ssz a0)) true
 (.sure (true) true
 (.leaf (SV.av (AV.one (Lf.v (Value.int IntKind.u32 (ior IntKind.u32 (ior IntKind.u32 (ior IntKind.u32 (icv IntKind.u32 (bt a0 0)) (shl IntKind.u32 (icv IntKind.u32 (bt a0 1)) 8)) (shl IntKind.u32 (icv IntKind.u32 (bt a0 2)) 16)) (shl IntKind.u32 (icv IntKind.u32 (bt a0 3)) 24))))), []) (ior IntKind.u32 (ior IntKind.u32 (ior IntKind.u32 (icv IntKind.u32 (bt a0 0)) (shl IntKind.u32 (icv IntKind.u32 (bt a0 1)) 8)) (shl IntKind.u32 (icv IntKind.u32 (bt a0 2)) 16)) (shl IntKind.u32 (icv IntKind.u32 (bt a0 3)) 24))))))))))))))
theorem f13_v (a0 : ByteArray) : vc (runR P noG Try.f13 f13_hn [AV.one (Lf.v (Value.string a0))] []) (f13_t a0) = vcT (f13_t a0) := by kernel_rfl
theorem f13_o (a0 : ByteArray) : obl (Snd P noG) (Lp P noG Try.f13.ntmps [] f13_hn 1) (RelF [] (f13_R a0)) (f13_t a0) := by
 unfold f13_t
 exact (oSure rfl (oNeed fun h0 => (oSure rfl (oNeed fun h1 => (oSure rfl (oSure rfl (oNeed fun h2 => (oSure rfl (oSure rfl (oNeed fun h3 => (oSure rfl (oLeaf (wks_tw [] [] (by kernel_rfl) (by kernel_rfl))))))))))))))
noncomputable def f13_m (a0 : ByteArray) : Option (Int) := mod (f13_t a0)
theorem f13_e (a0 : ByteArray) : f13_m a0 =
 (sel (ilt 0 (ssz a0))
 (sel (ilt 1 (ssz a0))
 (sel (ilt 2 (ssz a0))
 (sel (ilt 3 (ssz a0))
 (some ((ior IntKind.u32 (ior IntKind.u32 (ior IntKind.u32 (icv IntKind.u32 (bt a0 0)) (shl IntKind.u32 (icv IntKind.u32 (bt a0 1)) 8)) (shl IntKind.u32 (icv IntKind.u32 (bt a0 2)) 16)) (shl IntKind.u32 (icv IntKind.u32 (bt a0 3)) 24)))) none) none) none) none) := by kernel_rfl
theorem f13_s {a0 : ByteArray} {z : Int} (h : f13_m a0 = some z) : Snd P noG 13 [AV.one (Lf.v (Value.string a0))] [] (SV.av (AV.one (Lf.v (Value.int IntKind.u32 z)))) [] :=
 snd_tree (hn := f13_hn) 1 (f13_R a0) mixed (by kernel_rfl) (by kernel_rfl) (by kernel_rfl) (by kernel_rfl) (by kernel_rfl) (f13_v a0) (f13_o a0) h
def f16_hn : Hn := Hn.mk [] [] [] [] []
def f16_s0 (a0 : List Int) (a1 : Int) (a2 : Int) (a4 : Int) (z72 : Int) (a3 : Int) : Int := iadd IntKind.u32 (gd (K.int IntKind.u32) (List.set (List.set a0 (Int.toNat a1) (iadd IntKind.u32 (gd (K.int IntKind.u32) a0 (Int.toNat a1)) (gd (K.int IntKind.u32) a0 (Int.toNat a2)))) (Int.toNat a4) z72) (Int.toNat a3)) (gd (K.int IntKind.u32) (List.set (List.set a0 (Int.toNat a1) (iadd IntKind.u32 (gd (K.int IntKind.u32) a0 (Int.toNat a1)) (gd (K.int IntKind.u32) a0 (Int.toNat a2)))) (Int.toNat a4) z72) (Int.toNat a4))
def f16_s1 (a0 : List Int) (a1 : Int) (a2 : Int) (a4 : Int) (z72 : Int) (a3 : Int) (z80 : Int) : Int := gd (K.int IntKind.u32) (List.set (List.set (List.set (List.set a0 (Int.toNat a1) (iadd IntKind.u32 (gd (K.int IntKind.u32) a0 (Int.toNat a1)) (gd (K.int IntKind.u32) a0 (Int.toNat a2)))) (Int.toNat a4) z72) (Int.toNat a3) (f16_s0 a0 a1 a2 a4 z72 a3)) (Int.toNat a2) z80) (Int.toNat a1)
def f16_s2 (a0 : List Int) (a1 : Int) (a2 : Int) (a4 : Int) (z72 : Int) (a3 : Int) (z80 : Int) : Int := gd (K.int IntKind.u32) (List.set (List.set (List.set (List.set a0 (Int.toNat a1) (iadd IntKind.u32 (gd (K.int IntKind.u32) a0 (Int.toNat a1)) (gd (K.int IntKind.u32) a0 (Int.toNat a2)))) (Int.toNat a4) z72) (Int.toNat a3) (f16_s0 a0 a1 a2 a4 z72 a3)) (Int.toNat a2) z80) (Int.toNat a2)
def f16_s3 (a0 : List Int) (a1 : Int) (a2 : Int) (a4 : Int) (z72 : Int) (a3 : Int) (z80 : Int) : List Int := List.set (List.set (List.set (List.set (List.set a0 (Int.toNat a1) (iadd IntKind.u32 (gd (K.int IntKind.u32) a0 (Int.toNat a1)) (gd (K.int IntKind.u32) a0 (Int.toNat a2)))) (Int.toNat a4) z72) (Int.toNat a3) (f16_s0 a0 a1 a2 a4 z72 a3)) (Int.toNat a2) z80) (Int.toNat a1) (iadd IntKind.u32 (f16_s1 a0 a1 a2 a4 z72 a3 z80) (f16_s2 a0 a1 a2 a4 z72 a3 z80))
def f16_s4 (a0 : List Int) (a1 : Int) (a2 : Int) (a4 : Int) (z72 : Int) (a3 : Int) (z80 : Int) (z88 : Int) : List Int := List.set (List.set (f16_s3 a0 a1 a2 a4 z72 a3 z80) (Int.toNat a4) z88) (Int.toNat a3) (iadd IntKind.u32 (gd (K.int IntKind.u32) (List.set (f16_s3 a0 a1 a2 a4 z72 a3 z80) (Int.toNat a4) z88) (Int.toNat a3)) (gd (K.int IntKind.u32) (List.set (f16_s3 a0 a1 a2 a4 z72 a3 z80) (Int.toNat a4) z88) (Int.toNat a4)))
def f16_s5 (a0 : List Int) (a1 : Int) (a2 : Int) (a4 : Int) : Int := ixor IntKind.u32 (gd (K.int IntKind.u32) (List.set a0 (Int.toNat a1) (iadd IntKind.u32 (gd (K.int IntKind.u32) a0 (Int.toNat a1)) (gd (K.int IntKind.u32) a0 (Int.toNat a2)))) (Int.toNat a4)) (gd (K.int IntKind.u32) (List.set a0 (Int.toNat a1) (iadd IntKind.u32 (gd (K.int IntKind.u32) a0 (Int.toNat a1)) (gd (K.int IntKind.u32) a0 (Int.toNat a2)))) (Int.toNat a1))
def f16_s6 (a0 : List Int) (a1 : Int) (a2 : Int) (a4 : Int) (z72 : Int) (a3 : Int) : Int := ixor IntKind.u32 (gd (K.int IntKind.u32) (List.set (List.set (List.set a0 (Int.toNat a1) (iadd IntKind.u32 (gd (K.int IntKind.u32) a0 (Int.toNat a1)) (gd (K.int IntKind.u32) a0 (Int.toNat a2)))) (Int.toNat a4) z72) (Int.toNat a3) (f16_s0 a0 a1 a2 a4 z72 a3)) (Int.toNat a2)) (gd (K.int IntKind.u32) (List.set (List.set (List.set a0 (Int.toNat a1) (iadd IntKind.u32 (gd (K.int IntKind.u32) a0 (Int.toNat a1)) (gd (K.int IntKind.u32) a0 (Int.toNat a2)))) (Int.toNat a4) z72) (Int.toNat a3) (f16_s0 a0 a1 a2 a4 z72 a3)) (Int.toNat a3))
def f16_R (a0 : List Int) (a1 : Int) (a2 : Int) (a3 : Int) (a4 : Int) : List Int → SV × Hp
  | z => (SV.tup [], [(0, Blk.cells 50 [Lf.dat (K.arr 16 (K.int IntKind.u32)) z])])
noncomputable def f16_t (a0 : List Int) (a1 : Int) (a2 : Int) (a3 : Int) (a4 : Int) : DT (SV × Hp) (List Int) :=
 (.need (ile 0 a1) true
 (.need (ilt a1 16) true
 (.need (nlt (Int.toNat a1) 16) true
 (.need (ile 0 a2) true
 (.need (ilt a2 16) true
 (.need (nlt (Int.toNat a2) 16) true
 (.sure (ile 0 a1) true
 (.sure (ilt a1 16) true
 (.sure (nlt (Int.toNat a1) 16) true
 (.need (ile 0 a4) true
 (.need (ilt a4 16) true
 (.need (nlt (Int.toNat a4) 16) true
 (.sure (ile 0 a1) true
 (.sure (ilt a1 16) true
 (.sure (nlt (Int.toNat a1) 16) true
 (.call 19 [AV.one (Lf.v (Value.int IntKind.u32 (f16_s5 a0 a1 a2 a4))), AV.one (Lf.v (Value.int IntKind.i64 16))] [] (f19_m (f16_s5 a0 a1 a2 a4) 16) (fun z72 => SV.av (AV.one (Lf.v (Value.int IntKind.u32 z72)))) (fun z72 => []) fun z72 =>
 (.sure (ile 0 a4) true
 (.sure (ilt a4 16) true
 (.sure (nlt (Int.toNat a4) 16) true
 (.need (ile 0 a3) true
 (.need (ilt a3 16) true
 (.need (nlt (Int.toNat a3) 16) true
 (.sure (ile 0 a4) true
 (.sure (ilt a4 16) true
 (.sure (nlt (Int.toNat a4) 16) true
 (.sure (ile 0 a3) true
 (.sure (ilt a3 16) true
 (.sure (nlt (Int.toNat a3) 16) true
 (.sure (ile 0 a2) true
 (.sure (ilt a2 16) true
 (.sure (nlt (Int.toNat a2) 16) true
 (.sure (ile 0 a3) true
 (.sure (ilt a3 16) true
 (.sure (nlt (Int.toNat a3) 16) true
 (.call 19 [AV.one (Lf.v (Value.int IntKind.u32 (f16_s6 a0 a1 a2 a4 z72 a3))), AV.one (Lf.v (Value.int IntKind.i64 12))] [] (f19_m (f16_s6 a0 a1 a2 a4 z72 a3) 12) (fun z80 => SV.av (AV.one (Lf.v (Value.int IntKind.u32 z80)))) (fun z80 => []) fun z80 =>
 (.sure (ile 0 a2) true
 (.sure (ilt a2 16) true
 (.sure (nlt (Int.toNat a2) 16) true
 (.sure (ile 0 a1) true
 (.sure (ilt a1 16) true
 (.sure (nlt (Int.toNat a1) 16) true
 (.sure (ile 0 a2) true
 (.sure (ilt a2 16) true
 (.sure (nlt (Int.toNat a2) 16) true
 (.sure (ile 0 a1) true
 (.sure (ilt a1 16) true
 (.sure (nlt (Int.toNat a1) 16) true
 (.sure (ile 0 a4) true
 (.sure (ilt a4 16) true
 (.sure (nlt (Int.toNat a4) 16) true
 (.sure (ile 0 a1) true
 (.sure (ilt a1 16) true
 (.sure (nlt (Int.toNat a1) 16) true
 (.call 19 [AV.one (Lf.v (Value.int IntKind.u32 (ixor IntKind.u32 (gd (K.int IntKind.u32) (f16_s3 a0 a1 a2 a4 z72 a3 z80) (Int.toNat a4)) (gd (K.int IntKind.u32) (f16_s3 a0 a1 a2 a4 z72 a3 z80) (Int.toNat a1))))), AV.one (Lf.v (Value.int IntKind.i64 8))] [] (f19_m (ixor IntKind.u32 (gd (K.int IntKind.u32) (f16_s3 a0 a1 a2 a4 z72 a3 z80) (Int.toNat a4)) (gd (K.int IntKind.u32) (f16_s3 a0 a1 a2 a4 z72 a3 z80) (Int.toNat a1))) 8) (fun z88 => SV.av (AV.one (Lf.v (Value.int IntKind.u32 z88)))) (fun z88 => []) fun z88 =>
 (.sure (ile 0 a4) true
 (.sure (ilt a4 16) true
 (.sure (nlt (Int.toNat a4) 16) true
 (.sure (ile 0 a3) true
 (.sure (ilt a3 16) true
 (.sure (nlt (Int.toNat a3) 16) true
 (.sure (ile 0 a4) true
 (.sure (ilt a4 16) true
 (.sure (nlt (Int.toNat a4) 16) true
 (.sure (ile 0 a3) true
 (.sure (ilt a3 16) true
 (.sure (nlt (Int.toNat a3) 16) true
 (.sure (ile 0 a2) true
 (.sure (ilt a2 16) true
 (.sure (nlt (Int.toNat a2) 16) true
 (.sure (ile 0 a3) true
 (.sure (ilt a3 16) true
 (.sure (nlt (Int.toNat a3) 16) true
 (.call 19 [AV.one (Lf.v (Value.int IntKind.u32 (ixor IntKind.u32 (gd (K.int IntKind.u32) (f16_s4 a0 a1 a2 a4 z72 a3 z80 z88) (Int.toNat a2)) (gd (K.int IntKind.u32) (f16_s4 a0 a1 a2 a4 z72 a3 z80 z88) (Int.toNat a3))))), AV.one (Lf.v (Value.int IntKind.i64 7))] [] (f19_m (ixor IntKind.u32 (gd (K.int IntKind.u32) (f16_s4 a0 a1 a2 a4 z72 a3 z80 z88) (Int.toNat a2)) (gd (K.int IntKind.u32) (f16_s4 a0 a1 a2 a4 z72 a3 z80 z88) (Int.toNat a3))) 7) (fun z96 => SV.av (AV.one (Lf.v (Value.int IntKind.u32 z96)))) (fun z96 => []) fun z96 =>
 (.sure (ile 0 a2) true
 (.sure (ilt a2 16) true
 (.sure (nlt (Int.toNat a2) 16) true
 (.leaf (SV.tup [], [(0, Blk.cells 50 [Lf.dat (K.arr 16 (K.int IntKind.u32)) (List.set (f16_s4 a0 a1 a2 a4 z72 a3 z80 z88) (Int.toNat a2) z96)])]) (List.set (f16_s4 a0 a1 a2 a4 z72 a3 z80 z88) (Int.toNat a2) z96))))))))))))))))))))))))))))))))))))))))))))))))))))))))))))))))))))))))))))))
theorem f16_v (a0 : List Int) (a1 : Int) (a2 : Int) (a3 : Int) (a4 : Int) : vc (runR P noG Try.f16 f16_hn [AV.one (Lf.ptr 0 0 0 0 0), AV.one (Lf.v (Value.int IntKind.i64 a1)), AV.one (Lf.v (Value.int IntKind.i64 a2)), AV.one (Lf.v (Value.int IntKind.i64 a3)), AV.one (Lf.v (Value.int IntKind.i64 a4))] [(0, Blk.cells 50 [Lf.dat (K.arr 16 (K.int IntKind.u32)) a0])]) (f16_t a0 a1 a2 a3 a4) = vcT (f16_t a0 a1 a2 a3 a4) := by kernel_rfl
theorem f16_o (a0 : List Int) (a1 : Int) (a2 : Int) (a3 : Int) (a4 : Int) : obl (Snd P noG) (Lp P noG Try.f16.ntmps [0] f16_hn 1) (RelF [0] (f16_R a0 a1 a2 a3 a4)) (f16_t a0 a1 a2 a3 a4) := by
 unfold f16_t
 exact (oNeed fun h0 => (oNeed fun h1 => (oNeed fun h2 => (oNeed fun h3 => (oNeed fun h4 => (oNeed fun h5 => (oSure h0 (oSure h1 (oSure h2 (oNeed fun h6 => (oNeed fun h7 => (oNeed fun h8 => (oSure h0 (oSure h1 (oSure h2 (oCall (fun _ e => f19_s e) fun z72 _ =>
 (oSure h6 (oSure h7 (oSure h8 (oNeed fun h9 => (oNeed fun h10 => (oNeed fun h11 => (oSure h6 (oSure h7 (oSure h8 (oSure h9 (oSure h10 (oSure h11 (oSure h3 (oSure h4 (oSure h5 (oSure h9 (oSure h10 (oSure h11 (oCall (fun _ e => f19_s e) fun z80 _ =>
 (oSure h3 (oSure h4 (oSure h5 (oSure h0 (oSure h1 (oSure h2 (oSure h3 (oSure h4 (oSure h5 (oSure h0 (oSure h1 (oSure h2 (oSure h6 (oSure h7 (oSure h8 (oSure h0 (oSure h1 (oSure h2 (oCall (fun _ e => f19_s e) fun z88 _ =>
 (oSure h6 (oSure h7 (oSure h8 (oSure h9 (oSure h10 (oSure h11 (oSure h6 (oSure h7 (oSure h8 (oSure h9 (oSure h10 (oSure h11 (oSure h3 (oSure h4 (oSure h5 (oSure h9 (oSure h10 (oSure h11 (oCall (fun _ e => f19_s e) fun z96 _ =>
 (oSure h3 (oSure h4 (oSure h5 (oLeaf (wks_tw [(0, 0)] [] (by kernel_rfl) (by kernel_rfl)))))))))))))))))))))))))))))))))))))))))))))))))))))))))))))))))))))))))))))))
noncomputable def f16_m (a0 : List Int) (a1 : Int) (a2 : Int) (a3 : Int) (a4 : Int) : Option (List Int) := mod (f16_t a0 a1 a2 a3 a4)
theorem f16_e (a0 : List Int) (a1 : Int) (a2 : Int) (a3 : Int) (a4 : Int) : f16_m a0 a1 a2 a3 a4 =
 (sel (ile 0 a1)
 (sel (ilt a1 16)
 (sel (nlt (Int.toNat a1) 16)
 (sel (ile 0 a2)
 (sel (ilt a2 16)
 (sel (nlt (Int.toNat a2) 16)
 (sel (ile 0 a4)
 (sel (ilt a4 16)
 (sel (nlt (Int.toNat a4) 16)
 (Option.bind (f19_m (f16_s5 a0 a1 a2 a4) 16) fun z72 =>
 (sel (ile 0 a3)
 (sel (ilt a3 16)
 (sel (nlt (Int.toNat a3) 16)
 (Option.bind (f19_m (f16_s6 a0 a1 a2 a4 z72 a3) 12) fun z80 =>
 (Option.bind (f19_m (ixor IntKind.u32 (gd (K.int IntKind.u32) (f16_s3 a0 a1 a2 a4 z72 a3 z80) (Int.toNat a4)) (gd (K.int IntKind.u32) (f16_s3 a0 a1 a2 a4 z72 a3 z80) (Int.toNat a1))) 8) fun z88 =>
 (Option.bind (f19_m (ixor IntKind.u32 (gd (K.int IntKind.u32) (f16_s4 a0 a1 a2 a4 z72 a3 z80 z88) (Int.toNat a2)) (gd (K.int IntKind.u32) (f16_s4 a0 a1 a2 a4 z72 a3 z80 z88) (Int.toNat a3))) 7) fun z96 =>
 (some ((List.set (f16_s4 a0 a1 a2 a4 z72 a3 z80 z88) (Int.toNat a2) z96)))))) none) none) none)) none) none) none) none) none) none) none) none) none) := by kernel_rfl
theorem f16_s {a0 : List Int} {a1 : Int} {a2 : Int} {a3 : Int} {a4 : Int} {z : List Int} (h : f16_m a0 a1 a2 a3 a4 = some z) : Snd P noG 16 [AV.one (Lf.ptr 0 0 0 0 0), AV.one (Lf.v (Value.int IntKind.i64 a1)), AV.one (Lf.v (Value.int IntKind.i64 a2)), AV.one (Lf.v (Value.int IntKind.i64 a3)), AV.one (Lf.v (Value.int IntKind.i64 a4))] [(0, Blk.cells 50 [Lf.dat (K.arr 16 (K.int IntKind.u32)) a0])] (SV.tup []) [(0, Blk.cells 50 [Lf.dat (K.arr 16 (K.int IntKind.u32)) z])] :=
 snd_tree (hn := f16_hn) 1 (f16_R a0 a1 a2 a3 a4) mixed (by kernel_rfl) (by kernel_rfl) (by kernel_rfl) (by kernel_rfl) (by kernel_rfl) (f16_v a0 a1 a2 a3 a4) (f16_o a0 a1 a2 a3 a4) h
def f14_hn : Hn := Hn.mk [] [] [] [] []
def f14_s0 (a0 : List Int) (a1 : Int) (a2 : Int) (a4 : Int) (z72 : Int) (a3 : Int) : Int := iadd IntKind.u32 (gd (K.int IntKind.u32) (List.set (List.set a0 (Int.toNat a1) (iadd IntKind.u32 (gd (K.int IntKind.u32) a0 (Int.toNat a1)) (gd (K.int IntKind.u32) a0 (Int.toNat a2)))) (Int.toNat a4) z72) (Int.toNat a3)) (gd (K.int IntKind.u32) (List.set (List.set a0 (Int.toNat a1) (iadd IntKind.u32 (gd (K.int IntKind.u32) a0 (Int.toNat a1)) (gd (K.int IntKind.u32) a0 (Int.toNat a2)))) (Int.toNat a4) z72) (Int.toNat a4))
def f14_s1 (a0 : List Int) (a1 : Int) (a2 : Int) (a4 : Int) (z72 : Int) (a3 : Int) (z80 : Int) : Int := gd (K.int IntKind.u32) (List.set (List.set (List.set (List.set a0 (Int.toNat a1) (iadd IntKind.u32 (gd (K.int IntKind.u32) a0 (Int.toNat a1)) (gd (K.int IntKind.u32) a0 (Int.toNat a2)))) (Int.toNat a4) z72) (Int.toNat a3) (f14_s0 a0 a1 a2 a4 z72 a3)) (Int.toNat a2) z80) (Int.toNat a1)
def f14_s2 (a0 : List Int) (a1 : Int) (a2 : Int) (a4 : Int) (z72 : Int) (a3 : Int) (z80 : Int) : Int := gd (K.int IntKind.u32) (List.set (List.set (List.set (List.set a0 (Int.toNat a1) (iadd IntKind.u32 (gd (K.int IntKind.u32) a0 (Int.toNat a1)) (gd (K.int IntKind.u32) a0 (Int.toNat a2)))) (Int.toNat a4) z72) (Int.toNat a3) (f14_s0 a0 a1 a2 a4 z72 a3)) (Int.toNat a2) z80) (Int.toNat a2)
def f14_s3 (a0 : List Int) (a1 : Int) (a2 : Int) (a4 : Int) (z72 : Int) (a3 : Int) (z80 : Int) : List Int := List.set (List.set (List.set (List.set (List.set a0 (Int.toNat a1) (iadd IntKind.u32 (gd (K.int IntKind.u32) a0 (Int.toNat a1)) (gd (K.int IntKind.u32) a0 (Int.toNat a2)))) (Int.toNat a4) z72) (Int.toNat a3) (f14_s0 a0 a1 a2 a4 z72 a3)) (Int.toNat a2) z80) (Int.toNat a1) (iadd IntKind.u32 (f14_s1 a0 a1 a2 a4 z72 a3 z80) (f14_s2 a0 a1 a2 a4 z72 a3 z80))
def f14_s4 (a0 : List Int) (a1 : Int) (a2 : Int) (a4 : Int) (z72 : Int) (a3 : Int) (z80 : Int) (z88 : Int) : List Int := List.set (List.set (f14_s3 a0 a1 a2 a4 z72 a3 z80) (Int.toNat a4) z88) (Int.toNat a3) (iadd IntKind.u32 (gd (K.int IntKind.u32) (List.set (f14_s3 a0 a1 a2 a4 z72 a3 z80) (Int.toNat a4) z88) (Int.toNat a3)) (gd (K.int IntKind.u32) (List.set (f14_s3 a0 a1 a2 a4 z72 a3 z80) (Int.toNat a4) z88) (Int.toNat a4)))
def f14_s5 (a0 : List Int) (a1 : Int) (a2 : Int) (a4 : Int) : Int := ixor IntKind.u32 (gd (K.int IntKind.u32) (List.set a0 (Int.toNat a1) (iadd IntKind.u32 (gd (K.int IntKind.u32) a0 (Int.toNat a1)) (gd (K.int IntKind.u32) a0 (Int.toNat a2)))) (Int.toNat a4)) (gd (K.int IntKind.u32) (List.set a0 (Int.toNat a1) (iadd IntKind.u32 (gd (K.int IntKind.u32) a0 (Int.toNat a1)) (gd (K.int IntKind.u32) a0 (Int.toNat a2)))) (Int.toNat a1))
def f14_s6 (a0 : List Int) (a1 : Int) (a2 : Int) (a4 : Int) (z72 : Int) (a3 : Int) : Int := ixor IntKind.u32 (gd (K.int IntKind.u32) (List.set (List.set (List.set a0 (Int.toNat a1) (iadd IntKind.u32 (gd (K.int IntKind.u32) a0 (Int.toNat a1)) (gd (K.int IntKind.u32) a0 (Int.toNat a2)))) (Int.toNat a4) z72) (Int.toNat a3) (f14_s0 a0 a1 a2 a4 z72 a3)) (Int.toNat a2)) (gd (K.int IntKind.u32) (List.set (List.set (List.set a0 (Int.toNat a1) (iadd IntKind.u32 (gd (K.int IntKind.u32) a0 (Int.toNat a1)) (gd (K.int IntKind.u32) a0 (Int.toNat a2)))) (Int.toNat a4) z72) (Int.toNat a3) (f14_s0 a0 a1 a2 a4 z72 a3)) (Int.toNat a3))
def f14_R (a0 : List Int) (a1 : Int) (a2 : Int) (a3 : Int) (a4 : Int) : List Int → SV × Hp
  | z => (SV.av (AV.one (Lf.dat (K.arr 16 (K.int IntKind.u32)) z)), [])
noncomputable def f14_t (a0 : List Int) (a1 : Int) (a2 : Int) (a3 : Int) (a4 : Int) : DT (SV × Hp) (List Int) :=
 (.need (ile 0 a1) true
 (.need (ilt a1 16) true
 (.need (nlt (Int.toNat a1) 16) true
 (.need (ile 0 a2) true
 (.need (ilt a2 16) true
 (.need (nlt (Int.toNat a2) 16) true
 (.sure (ile 0 a1) true
 (.sure (ilt a1 16) true
 (.sure (nlt (Int.toNat a1) 16) true
 (.need (ile 0 a4) true
 (.need (ilt a4 16) true
 (.need (nlt (Int.toNat a4) 16) true
 (.sure (ile 0 a1) true
 (.sure (ilt a1 16) true
 (.sure (nlt (Int.toNat a1) 16) true
 (.call 17 [AV.one (Lf.v (Value.int IntKind.u32 (f14_s5 a0 a1 a2 a4))), AV.one (Lf.v (Value.int IntKind.u32 16))] [] (f17_m (f14_s5 a0 a1 a2 a4) 16) (fun z72 => SV.av (AV.one (Lf.v (Value.int IntKind.u32 z72)))) (fun z72 => []) fun z72 =>
 (.sure (ile 0 a4) true
 (.sure (ilt a4 16) true
 (.sure (nlt (Int.toNat a4) 16) true
 (.need (ile 0 a3) true
 (.need (ilt a3 16) true
 (.need (nlt (Int.toNat a3) 16) true
 (.sure (ile 0 a4) true
 (.sure (ilt a4 16) true
 (.sure (nlt (Int.toNat a4) 16) true
 (.sure (ile 0 a3) true
 (.sure (ilt a3 16) true
 (.sure (nlt (Int.toNat a3) 16) true
 (.sure (ile 0 a2) true
 (.sure (ilt a2 16) true
 (.sure (nlt (Int.toNat a2) 16) true
 (.sure (ile 0 a3) true
 (.sure (ilt a3 16) true
 (.sure (nlt (Int.toNat a3) 16) true
 (.call 17 [AV.one (Lf.v (Value.int IntKind.u32 (f14_s6 a0 a1 a2 a4 z72 a3))), AV.one (Lf.v (Value.int IntKind.u32 12))] [] (f17_m (f14_s6 a0 a1 a2 a4 z72 a3) 12) (fun z80 => SV.av (AV.one (Lf.v (Value.int IntKind.u32 z80)))) (fun z80 => []) fun z80 =>
 (.sure (ile 0 a2) true
 (.sure (ilt a2 16) true
 (.sure (nlt (Int.toNat a2) 16) true
 (.sure (ile 0 a1) true
 (.sure (ilt a1 16) true
 (.sure (nlt (Int.toNat a1) 16) true
 (.sure (ile 0 a2) true
 (.sure (ilt a2 16) true
 (.sure (nlt (Int.toNat a2) 16) true
 (.sure (ile 0 a1) true
 (.sure (ilt a1 16) true
 (.sure (nlt (Int.toNat a1) 16) true
 (.sure (ile 0 a4) true
 (.sure (ilt a4 16) true
 (.sure (nlt (Int.toNat a4) 16) true
 (.sure (ile 0 a1) true
 (.sure (ilt a1 16) true
 (.sure (nlt (Int.toNat a1) 16) true
 (.call 17 [AV.one (Lf.v (Value.int IntKind.u32 (ixor IntKind.u32 (gd (K.int IntKind.u32) (f14_s3 a0 a1 a2 a4 z72 a3 z80) (Int.toNat a4)) (gd (K.int IntKind.u32) (f14_s3 a0 a1 a2 a4 z72 a3 z80) (Int.toNat a1))))), AV.one (Lf.v (Value.int IntKind.u32 8))] [] (f17_m (ixor IntKind.u32 (gd (K.int IntKind.u32) (f14_s3 a0 a1 a2 a4 z72 a3 z80) (Int.toNat a4)) (gd (K.int IntKind.u32) (f14_s3 a0 a1 a2 a4 z72 a3 z80) (Int.toNat a1))) 8) (fun z88 => SV.av (AV.one (Lf.v (Value.int IntKind.u32 z88)))) (fun z88 => []) fun z88 =>
 (.sure (ile 0 a4) true
 (.sure (ilt a4 16) true
 (.sure (nlt (Int.toNat a4) 16) true
 (.sure (ile 0 a3) true
 (.sure (ilt a3 16) true
 (.sure (nlt (Int.toNat a3) 16) true
 (.sure (ile 0 a4) true
 (.sure (ilt a4 16) true
 (.sure (nlt (Int.toNat a4) 16) true
 (.sure (ile 0 a3) true
 (.sure (ilt a3 16) true
 (.sure (nlt (Int.toNat a3) 16) true
 (.sure (ile 0 a2) true
 (.sure (ilt a2 16) true
 (.sure (nlt (Int.toNat a2) 16) true
 (.sure (ile 0 a3) true
 (.sure (ilt a3 16) true
 (.sure (nlt (Int.toNat a3) 16) true
 (.call 17 [AV.one (Lf.v (Value.int IntKind.u32 (ixor IntKind.u32 (gd (K.int IntKind.u32) (f14_s4 a0 a1 a2 a4 z72 a3 z80 z88) (Int.toNat a2)) (gd (K.int IntKind.u32) (f14_s4 a0 a1 a2 a4 z72 a3 z80 z88) (Int.toNat a3))))), AV.one (Lf.v (Value.int IntKind.u32 7))] [] (f17_m (ixor IntKind.u32 (gd (K.int IntKind.u32) (f14_s4 a0 a1 a2 a4 z72 a3 z80 z88) (Int.toNat a2)) (gd (K.int IntKind.u32) (f14_s4 a0 a1 a2 a4 z72 a3 z80 z88) (Int.toNat a3))) 7) (fun z96 => SV.av (AV.one (Lf.v (Value.int IntKind.u32 z96)))) (fun z96 => []) fun z96 =>
 (.sure (ile 0 a2) true
 (.sure (ilt a2 16) true
 (.sure (nlt (Int.toNat a2) 16) true
 (.leaf (SV.av (AV.one (Lf.dat (K.arr 16 (K.int IntKind.u32)) (List.set (f14_s4 a0 a1 a2 a4 z72 a3 z80 z88) (Int.toNat a2) z96))), [(5, Blk.cells 46 [Lf.dat (K.arr 16 (K.int IntKind.u32)) (List.set (f14_s4 a0 a1 a2 a4 z72 a3 z80 z88) (Int.toNat a2) z96)]), (10, Blk.cells 46 [Lf.dat (K.arr 16 (K.int IntKind.u32)) (List.set (f14_s4 a0 a1 a2 a4 z72 a3 z80 z88) (Int.toNat a2) z96)])]) (List.set (f14_s4 a0 a1 a2 a4 z72 a3 z80 z88) (Int.toNat a2) z96))))))))))))))))))))))))))))))))))))))))))))))))))))))))))))))))))))))))))))))
theorem f14_v (a0 : List Int) (a1 : Int) (a2 : Int) (a3 : Int) (a4 : Int) : vc (runR P noG Try.f14 f14_hn [AV.one (Lf.dat (K.arr 16 (K.int IntKind.u32)) a0), AV.one (Lf.v (Value.int IntKind.i64 a1)), AV.one (Lf.v (Value.int IntKind.i64 a2)), AV.one (Lf.v (Value.int IntKind.i64 a3)), AV.one (Lf.v (Value.int IntKind.i64 a4))] []) (f14_t a0 a1 a2 a3 a4) = vcT (f14_t a0 a1 a2 a3 a4) := by kernel_rfl
theorem f14_o (a0 : List Int) (a1 : Int) (a2 : Int) (a3 : Int) (a4 : Int) : obl (Snd P noG) (Lp P noG Try.f14.ntmps [] f14_hn 1) (RelF [] (f14_R a0 a1 a2 a3 a4)) (f14_t a0 a1 a2 a3 a4) := by
 unfold f14_t
 exact (oNeed fun h0 => (oNeed fun h1 => (oNeed fun h2 => (oNeed fun h3 => (oNeed fun h4 => (oNeed fun h5 => (oSure h0 (oSure h1 (oSure h2 (oNeed fun h6 => (oNeed fun h7 => (oNeed fun h8 => (oSure h0 (oSure h1 (oSure h2 (oCall (fun _ e => f17_s e) fun z72 _ =>
 (oSure h6 (oSure h7 (oSure h8 (oNeed fun h9 => (oNeed fun h10 => (oNeed fun h11 => (oSure h6 (oSure h7 (oSure h8 (oSure h9 (oSure h10 (oSure h11 (oSure h3 (oSure h4 (oSure h5 (oSure h9 (oSure h10 (oSure h11 (oCall (fun _ e => f17_s e) fun z80 _ =>
 (oSure h3 (oSure h4 (oSure h5 (oSure h0 (oSure h1 (oSure h2 (oSure h3 (oSure h4 (oSure h5 (oSure h0 (oSure h1 (oSure h2 (oSure h6 (oSure h7 (oSure h8 (oSure h0 (oSure h1 (oSure h2 (oCall (fun _ e => f17_s e) fun z88 _ =>
 (oSure h6 (oSure h7 (oSure h8 (oSure h9 (oSure h10 (oSure h11 (oSure h6 (oSure h7 (oSure h8 (oSure h9 (oSure h10 (oSure h11 (oSure h3 (oSure h4 (oSure h5 (oSure h9 (oSure h10 (oSure h11 (oCall (fun _ e => f17_s e) fun z96 _ =>
 (oSure h3 (oSure h4 (oSure h5 (oLeaf (wks_tw [] [] (by kernel_rfl) (by kernel_rfl)))))))))))))))))))))))))))))))))))))))))))))))))))))))))))))))))))))))))))))))
noncomputable def f14_m (a0 : List Int) (a1 : Int) (a2 : Int) (a3 : Int) (a4 : Int) : Option (List Int) := mod (f14_t a0 a1 a2 a3 a4)
theorem f14_e (a0 : List Int) (a1 : Int) (a2 : Int) (a3 : Int) (a4 : Int) : f14_m a0 a1 a2 a3 a4 =
 (sel (ile 0 a1)
 (sel (ilt a1 16)
 (sel (nlt (Int.toNat a1) 16)
 (sel (ile 0 a2)
 (sel (ilt a2 16)
 (sel (nlt (Int.toNat a2) 16)
 (sel (ile 0 a4)
 (sel (ilt a4 16)
 (sel (nlt (Int.toNat a4) 16)
 (Option.bind (f17_m (f14_s5 a0 a1 a2 a4) 16) fun z72 =>
 (sel (ile 0 a3)
 (sel (ilt a3 16)
 (sel (nlt (Int.toNat a3) 16)
 (Option.bind (f17_m (f14_s6 a0 a1 a2 a4 z72 a3) 12) fun z80 =>
 (Option.bind (f17_m (ixor IntKind.u32 (gd (K.int IntKind.u32) (f14_s3 a0 a1 a2 a4 z72 a3 z80) (Int.toNat a4)) (gd (K.int IntKind.u32) (f14_s3 a0 a1 a2 a4 z72 a3 z80) (Int.toNat a1))) 8) fun z88 =>
 (Option.bind (f17_m (ixor IntKind.u32 (gd (K.int IntKind.u32) (f14_s4 a0 a1 a2 a4 z72 a3 z80 z88) (Int.toNat a2)) (gd (K.int IntKind.u32) (f14_s4 a0 a1 a2 a4 z72 a3 z80 z88) (Int.toNat a3))) 7) fun z96 =>
 (some ((List.set (f14_s4 a0 a1 a2 a4 z72 a3 z80 z88) (Int.toNat a2) z96)))))) none) none) none)) none) none) none) none) none) none) none) none) none) := by kernel_rfl
theorem f14_s {a0 : List Int} {a1 : Int} {a2 : Int} {a3 : Int} {a4 : Int} {z : List Int} (h : f14_m a0 a1 a2 a3 a4 = some z) : Snd P noG 14 [AV.one (Lf.dat (K.arr 16 (K.int IntKind.u32)) a0), AV.one (Lf.v (Value.int IntKind.i64 a1)), AV.one (Lf.v (Value.int IntKind.i64 a2)), AV.one (Lf.v (Value.int IntKind.i64 a3)), AV.one (Lf.v (Value.int IntKind.i64 a4))] [] (SV.av (AV.one (Lf.dat (K.arr 16 (K.int IntKind.u32)) z))) [] :=
 snd_tree (hn := f14_hn) 1 (f14_R a0 a1 a2 a3 a4) mixed (by kernel_rfl) (by kernel_rfl) (by kernel_rfl) (by kernel_rfl) (by kernel_rfl) (f14_v a0 a1 a2 a3 a4) (f14_o a0 a1 a2 a3 a4) h
def f15_hn : Hn := Hn.mk [(5008, [(1000000, 30300)]), (11008, [(1000000, 30900)])] [] [] [] [(4, [1, 3, 5, 6, 7, 11]), (10, [5, 6, 7, 27])]
def f15_l3_D (p3_0 : Int) (p3_1 : List Int) (p3_2 : List Int) (x : List Int × Int) : St := St.mk [(1, SV.av (AV.one (Lf.v (Value.int IntKind.u32 p3_0)))), (3, SV.av (AV.one (Lf.ptr 30300 0 0 0 0))), (5, SV.av (AV.one (Lf.ptr 30301 0 0 0 0))), (6, SV.av (AV.one (Lf.ptr 30302 0 0 0 0))), (7, SV.av (AV.one (Lf.ptr 30303 0 0 0 0))), (11, SV.av (AV.one (Lf.v (Value.int IntKind.i64 (Prod.snd x)))))] [(30300, Blk.cells 23 [Lf.dat (K.arr 32 (K.int IntKind.u8)) p3_1]), (30301, Blk.cells 26 [Lf.dat (K.arr 12 (K.int IntKind.u8)) p3_2]), (30302, Blk.cells 50 [Lf.dat (K.arr 16 (K.int IntKind.u32)) [0, 0, 0, 0, 0, 0, 0, 0, 0, 0, 0, 0, 0, 0, 0, 0]]), (30303, Blk.cells 50 [Lf.dat (K.arr 16 (K.int IntKind.u32)) (Prod.fst x)])]
def f15_l3_E0 (p3_0 : Int) (p3_1 : List Int) (p3_2 : List Int) (y : List Int) : St := St.mk [(1, SV.av (AV.one (Lf.v (Value.int IntKind.u32 p3_0)))), (5, SV.av (AV.one (Lf.ptr 60300 0 0 0 0))), (6, SV.av (AV.one (Lf.ptr 60301 0 0 0 0))), (7, SV.av (AV.one (Lf.ptr 60302 0 0 0 0)))] [(60300, Blk.cells 26 [Lf.dat (K.arr 12 (K.int IntKind.u8)) p3_2]), (60301, Blk.cells 50 [Lf.dat (K.arr 16 (K.int IntKind.u32)) [0, 0, 0, 0, 0, 0, 0, 0, 0, 0, 0, 0, 0, 0, 0, 0]]), (60302, Blk.cells 50 [Lf.dat (K.arr 16 (K.int IntKind.u32)) y])]
def f15_l3_E (p3_0 : Int) (p3_1 : List Int) (p3_2 : List Int) : List Int → Ex × St
  | y => (Ex.exit 0, f15_l3_E0 p3_0 p3_1 p3_2 y)
noncomputable def f15_l3_t (p3_0 : Int) (p3_1 : List Int) (p3_2 : List Int) (x : List Int × Int) : DT (Ex × St) ((List Int × Int) ⊕ (List Int)) :=
 (.ask (ilt (Prod.snd x) 8)
 (.need (ile 0 (imul IntKind.i64 4 (Prod.snd x))) true
 (.need (ile (imul IntKind.i64 4 (Prod.snd x)) (iadd IntKind.i64 (imul IntKind.i64 4 (Prod.snd x)) 4)) true
 (.need (ile (iadd IntKind.i64 (imul IntKind.i64 4 (Prod.snd x)) 4) 32) true
 (.pick false (.need (nle (Int.toNat (imul IntKind.i64 4 (Prod.snd x)) + (Int.toNat (iadd IntKind.i64 (imul IntKind.i64 4 (Prod.snd x)) 4) - Int.toNat (imul IntKind.i64 4 (Prod.snd x)))) 32) true
 (.call 18 [AV.one (Lf.dat (K.sl (K.int IntKind.u8)) (List.take (Int.toNat (iadd IntKind.i64 (imul IntKind.i64 4 (Prod.snd x)) 4) - Int.toNat (imul IntKind.i64 4 (Prod.snd x))) (List.drop (Int.toNat (imul IntKind.i64 4 (Prod.snd x))) p3_1)))] [] (f18_m (List.take (Int.toNat (iadd IntKind.i64 (imul IntKind.i64 4 (Prod.snd x)) 4) - Int.toNat (imul IntKind.i64 4 (Prod.snd x))) (List.drop (Int.toNat (imul IntKind.i64 4 (Prod.snd x))) p3_1))) (fun z72 => SV.av (AV.one (Lf.v (Value.int IntKind.u32 z72)))) (fun z72 => []) fun z72 =>
 (.need (ile 0 (iadd IntKind.i64 4 (Prod.snd x))) true
 (.need (ilt (iadd IntKind.i64 4 (Prod.snd x)) 16) true
 (.need (nlt (Int.toNat (iadd IntKind.i64 4 (Prod.snd x))) 16) true
 (.leaf (Vam.Ex.normal, St.mk [(1, SV.av (AV.one (Lf.v (Value.int IntKind.u32 p3_0)))), (3, SV.av (AV.one (Lf.ptr 30300 0 0 0 0))), (5, SV.av (AV.one (Lf.ptr 30301 0 0 0 0))), (6, SV.av (AV.one (Lf.ptr 30302 0 0 0 0))), (7, SV.av (AV.one (Lf.ptr 30303 0 0 0 0))), (11, SV.av (AV.one (Lf.v (Value.int IntKind.i64 (iadd IntKind.i64 (Prod.snd x) 1)))))] [(30300, Blk.cells 23 [Lf.dat (K.arr 32 (K.int IntKind.u8)) p3_1]), (30301, Blk.cells 26 [Lf.dat (K.arr 12 (K.int IntKind.u8)) p3_2]), (30302, Blk.cells 50 [Lf.dat (K.arr 16 (K.int IntKind.u32)) [0, 0, 0, 0, 0, 0, 0, 0, 0, 0, 0, 0, 0, 0, 0, 0]]), (30303, Blk.cells 50 [Lf.dat (K.arr 16 (K.int IntKind.u32)) (List.set (Prod.fst x) (Int.toNat (iadd IntKind.i64 4 (Prod.snd x))) z72)])]) (.inl ((List.set (Prod.fst x) (Int.toNat (iadd IntKind.i64 4 (Prod.snd x))) z72, iadd IntKind.i64 (Prod.snd x) 1)))))))))))))
 (.leaf (Ex.exit 0, St.mk [(1, SV.av (AV.one (Lf.v (Value.int IntKind.u32 p3_0)))), (3, SV.av (AV.one (Lf.ptr 30300 0 0 0 0))), (5, SV.av (AV.one (Lf.ptr 30301 0 0 0 0))), (6, SV.av (AV.one (Lf.ptr 30302 0 0 0 0))), (7, SV.av (AV.one (Lf.ptr 30303 0 0 0 0))), (11, SV.av (AV.one (Lf.v (Value.int IntKind.i64 (Prod.snd x)))))] [(30300, Blk.cells 23 [Lf.dat (K.arr 32 (K.int IntKind.u8)) p3_1]), (30301, Blk.cells 26 [Lf.dat (K.arr 12 (K.int IntKind.u8)) p3_2]), (30302, Blk.cells 50 [Lf.dat (K.arr 16 (K.int IntKind.u32)) [0, 0, 0, 0, 0, 0, 0, 0, 0, 0, 0, 0, 0, 0, 0, 0]]), (30303, Blk.cells 50 [Lf.dat (K.arr 16 (K.int IntKind.u32)) (Prod.fst x)])]) (.inr (Prod.fst x))))
theorem f15_l3_v (p3_0 : Int) (p3_1 : List Int) (p3_2 : List Int) (x : List Int × Int) : vc (execK P noG Try.f15.ntmps f15_hn [1, 3, 5, 6, 7, 11] (loopOf Try.f15 3) (f15_l3_D p3_0 p3_1 p3_2 x)) (f15_l3_t p3_0 p3_1 p3_2 x) = vcT (f15_l3_t p3_0 p3_1 p3_2 x) := by kernel_rfl
theorem f15_l3_o (d : Nat) (p3_0 : Int) (p3_1 : List Int) (p3_2 : List Int) (x : List Int × Int) : obl (Snd P noG) (Lp P noG Try.f15.ntmps [] f15_hn d) (RelL Try.f15.ntmps noG [] (f15_l3_D p3_0 p3_1 p3_2) (f15_l3_E p3_0 p3_1 p3_2)) (f15_l3_t p3_0 p3_1 p3_2 x) := by
 unfold f15_l3_t
 exact (oAsk (fun h0 => (oNeed fun h1 => (oNeed fun h2 => (oNeed fun h3 => (oPick (oNeed fun h4 => (oCall (fun _ e => f18_s e) fun z72 _ =>
 (oNeed fun h5 => (oNeed fun h6 => (oNeed fun h7 => (oLeaf (relN (wk_tw [(30303, 30303), (30302, 30302), (30301, 30301), (30300, 30300)] [1, 3, 5, 6, 7, 11] [] (by kernel_rfl) (by kernel_rfl))))))))))))))
 (fun h0 => (oLeaf (relE rfl (wk_tw [(30303, 60302), (30302, 60301), (30301, 60300)] [1, 5, 6, 7] [] (by kernel_rfl) (by kernel_rfl))))))
noncomputable def f15_l3_m (p3_0 : Int) (p3_1 : List Int) (p3_2 : List Int) (x : List Int × Int) : Option (List Int) := lrun (fun x => mod (f15_l3_t p3_0 p3_1 p3_2 x)) x
theorem f15_l3_e (p3_0 : Int) (p3_1 : List Int) (p3_2 : List Int) (x : List Int × Int) : mod (f15_l3_t p3_0 p3_1 p3_2 x) =
 (sel (ilt (Prod.snd x) 8)
 (sel (ile 0 (imul IntKind.i64 4 (Prod.snd x)))
 (sel (ile (imul IntKind.i64 4 (Prod.snd x)) (iadd IntKind.i64 (imul IntKind.i64 4 (Prod.snd x)) 4))
 (sel (ile (iadd IntKind.i64 (imul IntKind.i64 4 (Prod.snd x)) 4) 32)
 (sel (nle (Int.toNat (imul IntKind.i64 4 (Prod.snd x)) + (Int.toNat (iadd IntKind.i64 (imul IntKind.i64 4 (Prod.snd x)) 4) - Int.toNat (imul IntKind.i64 4 (Prod.snd x)))) 32)
 (Option.bind (f18_m (List.take (Int.toNat (iadd IntKind.i64 (imul IntKind.i64 4 (Prod.snd x)) 4) - Int.toNat (imul IntKind.i64 4 (Prod.snd x))) (List.drop (Int.toNat (imul IntKind.i64 4 (Prod.snd x))) p3_1))) fun z72 =>
 (sel (ile 0 (iadd IntKind.i64 4 (Prod.snd x)))
 (sel (ilt (iadd IntKind.i64 4 (Prod.snd x)) 16)
 (sel (nlt (Int.toNat (iadd IntKind.i64 4 (Prod.snd x))) 16)
 (some ((.inl ((List.set (Prod.fst x) (Int.toNat (iadd IntKind.i64 4 (Prod.snd x))) z72, iadd IntKind.i64 (Prod.snd x) 1))))) none) none) none)) none) none) none) none)
 (some ((.inr (Prod.fst x))))) := by kernel_rfl
theorem f15_l3_s0 (d : Nat) {p3_0 : Int} {p3_1 : List Int} {p3_2 : List Int} {σ : St} {x : List Int × Int} {z : List Int} (h : f15_l3_m p3_0 p3_1 p3_2 x = some z) (hw : Wk Try.f15.ntmps noG [] σ (f15_l3_D p3_0 p3_1 p3_2 x)) : Lp P noG Try.f15.ntmps [] f15_hn (d + 1) (loopOf Try.f15 3) σ (Ex.exit 0) (f15_l3_E0 p3_0 p3_1 p3_2 z) :=
 lp_tree (D := f15_l3_D p3_0 p3_1 p3_2) (E := f15_l3_E p3_0 p3_1 p3_2) (f15_l3_v p3_0 p3_1 p3_2) (f15_l3_o d p3_0 p3_1 p3_2) h hw
def f15_l9_D (p9_17 : List Int) (x : List Int × Int) : St := St.mk [(5, SV.av (AV.one (Lf.ptr 30900 0 0 0 0))), (6, SV.av (AV.one (Lf.ptr 30901 0 0 0 0))), (7, SV.av (AV.one (Lf.ptr 30902 0 0 0 0))), (27, SV.av (AV.one (Lf.v (Value.int IntKind.i64 (Prod.snd x)))))] [(30900, Blk.cells 26 [Lf.dat (K.arr 12 (K.int IntKind.u8)) p9_17]), (30901, Blk.cells 50 [Lf.dat (K.arr 16 (K.int IntKind.u32)) [0, 0, 0, 0, 0, 0, 0, 0, 0, 0, 0, 0, 0, 0, 0, 0]]), (30902, Blk.cells 50 [Lf.dat (K.arr 16 (K.int IntKind.u32)) (Prod.fst x)])]
def f15_l9_E0 (p9_17 : List Int) (y : List Int) : St := St.mk [(6, SV.av (AV.one (Lf.ptr 60900 0 0 0 0))), (7, SV.av (AV.one (Lf.ptr 60901 0 0 0 0)))] [(60900, Blk.cells 50 [Lf.dat (K.arr 16 (K.int IntKind.u32)) [0, 0, 0, 0, 0, 0, 0, 0, 0, 0, 0, 0, 0, 0, 0, 0]]), (60901, Blk.cells 50 [Lf.dat (K.arr 16 (K.int IntKind.u32)) y])]
def f15_l9_E (p9_17 : List Int) : List Int → Ex × St
  | y => (Ex.exit 2, f15_l9_E0 p9_17 y)
noncomputable def f15_l9_t (p9_17 : List Int) (x : List Int × Int) : DT (Ex × St) ((List Int × Int) ⊕ (List Int)) :=
 (.ask (ilt (Prod.snd x) 3)
 (.need (ile 0 (imul IntKind.i64 4 (Prod.snd x))) true
 (.need (ile (imul IntKind.i64 4 (Prod.snd x)) (iadd IntKind.i64 (imul IntKind.i64 4 (Prod.snd x)) 4)) true
 (.need (ile (iadd IntKind.i64 (imul IntKind.i64 4 (Prod.snd x)) 4) 12) true
 (.pick false (.need (nle (Int.toNat (imul IntKind.i64 4 (Prod.snd x)) + (Int.toNat (iadd IntKind.i64 (imul IntKind.i64 4 (Prod.snd x)) 4) - Int.toNat (imul IntKind.i64 4 (Prod.snd x)))) 12) true
 (.call 18 [AV.one (Lf.dat (K.sl (K.int IntKind.u8)) (List.take (Int.toNat (iadd IntKind.i64 (imul IntKind.i64 4 (Prod.snd x)) 4) - Int.toNat (imul IntKind.i64 4 (Prod.snd x))) (List.drop (Int.toNat (imul IntKind.i64 4 (Prod.snd x))) p9_17)))] [] (f18_m (List.take (Int.toNat (iadd IntKind.i64 (imul IntKind.i64 4 (Prod.snd x)) 4) - Int.toNat (imul IntKind.i64 4 (Prod.snd x))) (List.drop (Int.toNat (imul IntKind.i64 4 (Prod.snd x))) p9_17))) (fun z77 => SV.av (AV.one (Lf.v (Value.int IntKind.u32 z77)))) (fun z77 => []) fun z77 =>
 (.need (ile 0 (iadd IntKind.i64 13 (Prod.snd x))) true
 (.need (ilt (iadd IntKind.i64 13 (Prod.snd x)) 16) true
 (.need (nlt (Int.toNat (iadd IntKind.i64 13 (Prod.snd x))) 16) true
 (.leaf (Vam.Ex.normal, St.mk [(5, SV.av (AV.one (Lf.ptr 30900 0 0 0 0))), (6, SV.av (AV.one (Lf.ptr 30901 0 0 0 0))), (7, SV.av (AV.one (Lf.ptr 30902 0 0 0 0))), (27, SV.av (AV.one (Lf.v (Value.int IntKind.i64 (iadd IntKind.i64 (Prod.snd x) 1)))))] [(30900, Blk.cells 26 [Lf.dat (K.arr 12 (K.int IntKind.u8)) p9_17]), (30901, Blk.cells 50 [Lf.dat (K.arr 16 (K.int IntKind.u32)) [0, 0, 0, 0, 0, 0, 0, 0, 0, 0, 0, 0, 0, 0, 0, 0]]), (30902, Blk.cells 50 [Lf.dat (K.arr 16 (K.int IntKind.u32)) (List.set (Prod.fst x) (Int.toNat (iadd IntKind.i64 13 (Prod.snd x))) z77)])]) (.inl ((List.set (Prod.fst x) (Int.toNat (iadd IntKind.i64 13 (Prod.snd x))) z77, iadd IntKind.i64 (Prod.snd x) 1)))))))))))))
 (.leaf (Ex.exit 2, St.mk [(5, SV.av (AV.one (Lf.ptr 30900 0 0 0 0))), (6, SV.av (AV.one (Lf.ptr 30901 0 0 0 0))), (7, SV.av (AV.one (Lf.ptr 30902 0 0 0 0))), (27, SV.av (AV.one (Lf.v (Value.int IntKind.i64 (Prod.snd x)))))] [(30900, Blk.cells 26 [Lf.dat (K.arr 12 (K.int IntKind.u8)) p9_17]), (30901, Blk.cells 50 [Lf.dat (K.arr 16 (K.int IntKind.u32)) [0, 0, 0, 0, 0, 0, 0, 0, 0, 0, 0, 0, 0, 0, 0, 0]]), (30902, Blk.cells 50 [Lf.dat (K.arr 16 (K.int IntKind.u32)) (Prod.fst x)])]) (.inr (Prod.fst x))))
theorem f15_l9_v (p9_17 : List Int) (x : List Int × Int) : vc (execK P noG Try.f15.ntmps f15_hn [5, 6, 7, 27] (loopOf Try.f15 9) (f15_l9_D p9_17 x)) (f15_l9_t p9_17 x) = vcT (f15_l9_t p9_17 x) := by kernel_rfl
theorem f15_l9_o (d : Nat) (p9_17 : List Int) (x : List Int × Int) : obl (Snd P noG) (Lp P noG Try.f15.ntmps [] f15_hn d) (RelL Try.f15.ntmps noG [] (f15_l9_D p9_17) (f15_l9_E p9_17)) (f15_l9_t p9_17 x) := by
 unfold f15_l9_t
 exact (oAsk (fun h0 => (oNeed fun h1 => (oNeed fun h2 => (oNeed fun h3 => (oPick (oNeed fun h4 => (oCall (fun _ e => f18_s e) fun z77 _ =>
 (oNeed fun h5 => (oNeed fun h6 => (oNeed fun h7 => (oLeaf (relN (wk_tw [(30902, 30902), (30901, 30901), (30900, 30900)] [5, 6, 7, 27] [] (by kernel_rfl) (by kernel_rfl))))))))))))))
 (fun h0 => (oLeaf (relE rfl (wk_tw [(30902, 60901), (30901, 60900)] [6, 7] [] (by kernel_rfl) (by kernel_rfl))))))
noncomputable def f15_l9_m (p9_17 : List Int) (x : List Int × Int) : Option (List Int) := lrun (fun x => mod (f15_l9_t p9_17 x)) x
theorem f15_l9_e (p9_17 : List Int) (x : List Int × Int) : mod (f15_l9_t p9_17 x) =
 (sel (ilt (Prod.snd x) 3)
 (sel (ile 0 (imul IntKind.i64 4 (Prod.snd x)))
 (sel (ile (imul IntKind.i64 4 (Prod.snd x)) (iadd IntKind.i64 (imul IntKind.i64 4 (Prod.snd x)) 4))
 (sel (ile (iadd IntKind.i64 (imul IntKind.i64 4 (Prod.snd x)) 4) 12)
 (sel (nle (Int.toNat (imul IntKind.i64 4 (Prod.snd x)) + (Int.toNat (iadd IntKind.i64 (imul IntKind.i64 4 (Prod.snd x)) 4) - Int.toNat (imul IntKind.i64 4 (Prod.snd x)))) 12)
 (Option.bind (f18_m (List.take (Int.toNat (iadd IntKind.i64 (imul IntKind.i64 4 (Prod.snd x)) 4) - Int.toNat (imul IntKind.i64 4 (Prod.snd x))) (List.drop (Int.toNat (imul IntKind.i64 4 (Prod.snd x))) p9_17))) fun z77 =>
 (sel (ile 0 (iadd IntKind.i64 13 (Prod.snd x)))
 (sel (ilt (iadd IntKind.i64 13 (Prod.snd x)) 16)
 (sel (nlt (Int.toNat (iadd IntKind.i64 13 (Prod.snd x))) 16)
 (some ((.inl ((List.set (Prod.fst x) (Int.toNat (iadd IntKind.i64 13 (Prod.snd x))) z77, iadd IntKind.i64 (Prod.snd x) 1))))) none) none) none)) none) none) none) none)
 (some ((.inr (Prod.fst x))))) := by kernel_rfl
theorem f15_l9_s0 (d : Nat) {p9_17 : List Int} {σ : St} {x : List Int × Int} {z : List Int} (h : f15_l9_m p9_17 x = some z) (hw : Wk Try.f15.ntmps noG [] σ (f15_l9_D p9_17 x)) : Lp P noG Try.f15.ntmps [] f15_hn (d + 1) (loopOf Try.f15 9) σ (Ex.exit 2) (f15_l9_E0 p9_17 z) :=
 lp_tree (D := f15_l9_D p9_17) (E := f15_l9_E p9_17) (f15_l9_v p9_17) (f15_l9_o d p9_17) h hw
def f15_R (a0 : List Int) (a1 : Int) (a2 : List Int) : List Int → SV × Hp
  | z => (SV.av (AV.one (Lf.dat (K.arr 16 (K.int IntKind.u32)) z)), [])
noncomputable def f15_t (a0 : List Int) (a1 : Int) (a2 : List Int) : DT (SV × Hp) (List Int) :=
 (.loop (loopOf Try.f15 3) (St.mk [(1, SV.av (AV.one (Lf.v (Value.int IntKind.u32 a1)))), (3, SV.av (AV.one (Lf.ptr 3 0 0 0 0))), (5, SV.av (AV.one (Lf.ptr 5 0 0 0 0))), (6, SV.av (AV.one (Lf.ptr 6 0 0 0 0))), (7, SV.av (AV.one (Lf.ptr 7 0 0 0 0))), (11, SV.av (AV.one (Lf.v (Value.int IntKind.i64 0))))] [(3, Blk.cells 23 [Lf.dat (K.arr 32 (K.int IntKind.u8)) a0]), (5, Blk.cells 26 [Lf.dat (K.arr 12 (K.int IntKind.u8)) a2]), (6, Blk.cells 50 [Lf.dat (K.arr 16 (K.int IntKind.u32)) [0, 0, 0, 0, 0, 0, 0, 0, 0, 0, 0, 0, 0, 0, 0, 0]]), (7, Blk.cells 50 [Lf.dat (K.arr 16 (K.int IntKind.u32)) [1634760805, 857760878, 2036477234, 1797285236, 0, 0, 0, 0, 0, 0, 0, 0, 0, 0, 0, 0]])]) (f15_l3_m a1 a0 a2 ([1634760805, 857760878, 2036477234, 1797285236, 0, 0, 0, 0, 0, 0, 0, 0, 0, 0, 0, 0], 0)) (Ex.exit 0) (f15_l3_E0 a1 a0 a2) fun z78 =>
 (.sure (true) true
 (.sure (true) true
 (.sure (true) true
 (.loop (loopOf Try.f15 9) (St.mk [(5, SV.av (AV.one (Lf.ptr 60300 0 0 0 0))), (6, SV.av (AV.one (Lf.ptr 60301 0 0 0 0))), (7, SV.av (AV.one (Lf.ptr 60302 0 0 0 0))), (27, SV.av (AV.one (Lf.v (Value.int IntKind.i64 0))))] [(60300, Blk.cells 26 [Lf.dat (K.arr 12 (K.int IntKind.u8)) a2]), (60301, Blk.cells 50 [Lf.dat (K.arr 16 (K.int IntKind.u32)) [0, 0, 0, 0, 0, 0, 0, 0, 0, 0, 0, 0, 0, 0, 0, 0]]), (60302, Blk.cells 50 [Lf.dat (K.arr 16 (K.int IntKind.u32)) (List.set z78 12 a1)])]) (f15_l9_m a2 (List.set z78 12 a1, 0)) (Ex.exit 2) (f15_l9_E0 a2) fun z79 =>
 (.leaf (SV.av (AV.one (Lf.dat (K.arr 16 (K.int IntKind.u32)) z79)), [(60900, Blk.cells 50 [Lf.dat (K.arr 16 (K.int IntKind.u32)) z79]), (60901, Blk.cells 50 [Lf.dat (K.arr 16 (K.int IntKind.u32)) z79])]) (z79)))))))
theorem f15_v (a0 : List Int) (a1 : Int) (a2 : List Int) : vc (runR P noG Try.f15 f15_hn [AV.one (Lf.dat (K.arr 32 (K.int IntKind.u8)) a0), AV.one (Lf.v (Value.int IntKind.u32 a1)), AV.one (Lf.dat (K.arr 12 (K.int IntKind.u8)) a2)] []) (f15_t a0 a1 a2) = vcT (f15_t a0 a1 a2) := by kernel_rfl
theorem f15_o (a0 : List Int) (a1 : Int) (a2 : List Int) : obl (Snd P noG) (Lp P noG Try.f15.ntmps [] f15_hn 1) (RelF [] (f15_R a0 a1 a2)) (f15_t a0 a1 a2) := by
 unfold f15_t
 exact (oLoop (fun _ e => f15_l3_s0 0 e (wk_tw [(7, 30303), (6, 30302), (5, 30301), (3, 30300)] [1, 3, 5, 6, 7, 11] [] (by kernel_rfl) (by kernel_rfl))) fun z78 _ =>
 (oSure rfl (oSure rfl (oSure rfl (oLoop (fun _ e => f15_l9_s0 0 e (wk_tw [(60302, 30902), (60301, 30901), (60300, 30900)] [5, 6, 7, 27] [] (by kernel_rfl) (by kernel_rfl))) fun z79 _ =>
 (oLeaf (wks_tw [] [] (by kernel_rfl) (by kernel_rfl))))))))
noncomputable def f15_m (a0 : List Int) (a1 : Int) (a2 : List Int) : Option (List Int) := mod (f15_t a0 a1 a2)
theorem f15_e (a0 : List Int) (a1 : Int) (a2 : List Int) : f15_m a0 a1 a2 =
 (Option.bind (f15_l3_m a1 a0 a2 ([1634760805, 857760878, 2036477234, 1797285236, 0, 0, 0, 0, 0, 0, 0, 0, 0, 0, 0, 0], 0)) fun z78 =>
 (Option.bind (f15_l9_m a2 (List.set z78 12 a1, 0)) fun z79 =>
 (some ((z79))))) := by kernel_rfl
theorem f15_s {a0 : List Int} {a1 : Int} {a2 : List Int} {z : List Int} (h : f15_m a0 a1 a2 = some z) : Snd P noG 15 [AV.one (Lf.dat (K.arr 32 (K.int IntKind.u8)) a0), AV.one (Lf.v (Value.int IntKind.u32 a1)), AV.one (Lf.dat (K.arr 12 (K.int IntKind.u8)) a2)] [] (SV.av (AV.one (Lf.dat (K.arr 16 (K.int IntKind.u32)) z))) [] :=
 snd_tree (hn := f15_hn) 1 (f15_R a0 a1 a2) mixed (by kernel_rfl) (by kernel_rfl) (by kernel_rfl) (by kernel_rfl) (by kernel_rfl) (f15_v a0 a1 a2) (f15_o a0 a1 a2) h
def f12_hn : Hn := Hn.mk [(8007, [(0, 30602)]), (13013, [(0, 31102)])] [] [] [] [(5, [6, 7, 8, 20]), (7, [6, 7, 8, 20, 22]), (12, [6, 7, 8, 20, 34]), (19, [6, 7, 8, 11, 53]), (23, [6, 7, 8, 11, 12, 13, 53, 63])]
def f12_l6_D (p6_12 : List Int) (p6_258 : Int) (x : List Int × Int) : St := St.mk [(6, SV.av (AV.one (Lf.ptr 30600 0 0 0 0))), (7, SV.av (AV.one (Lf.ptr 30601 0 0 0 0))), (8, SV.av (AV.one (Lf.ptr 30602 0 0 0 0))), (20, SV.av (AV.one (Lf.v (Value.int IntKind.i64 p6_258)))), (22, SV.av (AV.one (Lf.v (Value.int IntKind.i64 (Prod.snd x)))))] [(30600, Blk.cells 44 [Lf.dat (K.arr 64 (K.int IntKind.u8)) (List.replicate 64 0)]), (30601, Blk.cells 50 [Lf.dat (K.arr 16 (K.int IntKind.u32)) p6_12]), (30602, Blk.cells 50 [Lf.dat (K.arr 16 (K.int IntKind.u32)) (Prod.fst x)])]
def f12_l6_E0 (p6_12 : List Int) (p6_258 : Int) (y : List Int) : St := St.mk [(6, SV.av (AV.one (Lf.ptr 60600 0 0 0 0))), (7, SV.av (AV.one (Lf.ptr 60601 0 0 0 0))), (8, SV.av (AV.one (Lf.ptr 60602 0 0 0 0))), (20, SV.av (AV.one (Lf.v (Value.int IntKind.i64 p6_258))))] [(60600, Blk.cells 44 [Lf.dat (K.arr 64 (K.int IntKind.u8)) (List.replicate 64 0)]), (60601, Blk.cells 50 [Lf.dat (K.arr 16 (K.int IntKind.u32)) p6_12]), (60602, Blk.cells 50 [Lf.dat (K.arr 16 (K.int IntKind.u32)) y])]
def f12_l6_E (p6_12 : List Int) (p6_258 : Int) : List Int → Ex × St
  | y => (Ex.exit 2, f12_l6_E0 p6_12 p6_258 y)
noncomputable def f12_l6_t (p6_12 : List Int) (p6_258 : Int) (x : List Int × Int) : DT (Ex × St) ((List Int × Int) ⊕ (List Int)) :=
 (.ask (ilt (Prod.snd x) 4)
 (.call 16 [AV.one (Lf.ptr 0 0 0 0 0), AV.one (Lf.v (Value.int IntKind.i64 (Prod.snd x))), AV.one (Lf.v (Value.int IntKind.i64 (iadd IntKind.i64 4 (Prod.snd x)))), AV.one (Lf.v (Value.int IntKind.i64 (iadd IntKind.i64 8 (Prod.snd x)))), AV.one (Lf.v (Value.int IntKind.i64 (iadd IntKind.i64 12 (Prod.snd x))))] [(0, Blk.cells 50 [Lf.dat (K.arr 16 (K.int IntKind.u32)) (Prod.fst x)])] (f16_m (Prod.fst x) (Prod.snd x) (iadd IntKind.i64 4 (Prod.snd x)) (iadd IntKind.i64 8 (Prod.snd x)) (iadd IntKind.i64 12 (Prod.snd x))) (fun z669 => SV.tup []) (fun z669 => [(0, Blk.cells 50 [Lf.dat (K.arr 16 (K.int IntKind.u32)) z669])]) fun z669 =>
 (.leaf (Vam.Ex.normal, St.mk [(6, SV.av (AV.one (Lf.ptr 30600 0 0 0 0))), (7, SV.av (AV.one (Lf.ptr 30601 0 0 0 0))), (8, SV.av (AV.one (Lf.ptr 30602 0 0 0 0))), (20, SV.av (AV.one (Lf.v (Value.int IntKind.i64 p6_258)))), (22, SV.av (AV.one (Lf.v (Value.int IntKind.i64 (iadd IntKind.i64 (Prod.snd x) 1)))))] [(30600, Blk.cells 44 [Lf.dat (K.arr 64 (K.int IntKind.u8)) (List.replicate 64 0)]), (30601, Blk.cells 50 [Lf.dat (K.arr 16 (K.int IntKind.u32)) p6_12]), (30602, Blk.cells 50 [Lf.dat (K.arr 16 (K.int IntKind.u32)) z669])]) (.inl ((z669, iadd IntKind.i64 (Prod.snd x) 1)))))
 (.leaf (Ex.exit 2, St.mk [(6, SV.av (AV.one (Lf.ptr 30600 0 0 0 0))), (7, SV.av (AV.one (Lf.ptr 30601 0 0 0 0))), (8, SV.av (AV.one (Lf.ptr 30602 0 0 0 0))), (20, SV.av (AV.one (Lf.v (Value.int IntKind.i64 p6_258)))), (22, SV.av (AV.one (Lf.v (Value.int IntKind.i64 (Prod.snd x)))))] [(30600, Blk.cells 44 [Lf.dat (K.arr 64 (K.int IntKind.u8)) (List.replicate 64 0)]), (30601, Blk.cells 50 [Lf.dat (K.arr 16 (K.int IntKind.u32)) p6_12]), (30602, Blk.cells 50 [Lf.dat (K.arr 16 (K.int IntKind.u32)) (Prod.fst x)])]) (.inr (Prod.fst x))))
theorem f12_l6_v (p6_12 : List Int) (p6_258 : Int) (x : List Int × Int) : vc (execK P noG Try.f12.ntmps f12_hn [6, 7, 8, 20, 22] (loopOf Try.f12 6) (f12_l6_D p6_12 p6_258 x)) (f12_l6_t p6_12 p6_258 x) = vcT (f12_l6_t p6_12 p6_258 x) := by kernel_rfl
theorem f12_l6_o (d : Nat) (p6_12 : List Int) (p6_258 : Int) (x : List Int × Int) : obl (Snd P noG) (Lp P noG Try.f12.ntmps [] f12_hn d) (RelL Try.f12.ntmps noG [] (f12_l6_D p6_12 p6_258) (f12_l6_E p6_12 p6_258)) (f12_l6_t p6_12 p6_258 x) := by
 unfold f12_l6_t
 exact (oAsk (fun h0 => (oCall (fun _ e => f16_s e) fun z669 _ =>
 (oLeaf (relN (wk_tw [(30602, 30602), (30601, 30601), (30600, 30600)] [6, 7, 8, 20, 22] [] (by kernel_rfl) (by kernel_rfl))))))
 (fun h0 => (oLeaf (relE rfl (wk_tw [(30602, 60602), (30601, 60601), (30600, 60600)] [6, 7, 8, 20] [] (by kernel_rfl) (by kernel_rfl))))))
noncomputable def f12_l6_m (p6_12 : List Int) (p6_258 : Int) (x : List Int × Int) : Option (List Int) := lrun (fun x => mod (f12_l6_t p6_12 p6_258 x)) x
theorem f12_l6_e (p6_12 : List Int) (p6_258 : Int) (x : List Int × Int) : mod (f12_l6_t p6_12 p6_258 x) =
 (sel (ilt (Prod.snd x) 4)
 (Option.bind (f16_m (Prod.fst x) (Prod.snd x) (iadd IntKind.i64 4 (Prod.snd x)) (iadd IntKind.i64 8 (Prod.snd x)) (iadd IntKind.i64 12 (Prod.snd x))) fun z669 =>
 (some ((.inl ((z669, iadd IntKind.i64 (Prod.snd x) 1))))))
 (some ((.inr (Prod.fst x))))) := by kernel_rfl
theorem f12_l6_s0 (d : Nat) {p6_12 : List Int} {p6_258 : Int} {σ : St} {x : List Int × Int} {z : List Int} (h : f12_l6_m p6_12 p6_258 x = some z) (hw : Wk Try.f12.ntmps noG [] σ (f12_l6_D p6_12 p6_258 x)) : Lp P noG Try.f12.ntmps [] f12_hn (d + 1) (loopOf Try.f12 6) σ (Ex.exit 2) (f12_l6_E0 p6_12 p6_258 z) :=
 lp_tree (D := f12_l6_D p6_12 p6_258) (E := f12_l6_E p6_12 p6_258) (f12_l6_v p6_12 p6_258) (f12_l6_o d p6_12 p6_258) h hw
def f12_l11_D (p11_84 : List Int) (p11_311 : Int) (x : List Int × Int) : St := St.mk [(6, SV.av (AV.one (Lf.ptr 31100 0 0 0 0))), (7, SV.av (AV.one (Lf.ptr 31101 0 0 0 0))), (8, SV.av (AV.one (Lf.ptr 31102 0 0 0 0))), (20, SV.av (AV.one (Lf.v (Value.int IntKind.i64 p11_311)))), (34, SV.av (AV.one (Lf.v (Value.int IntKind.i64 (Prod.snd x)))))] [(31100, Blk.cells 44 [Lf.dat (K.arr 64 (K.int IntKind.u8)) (List.replicate 64 0)]), (31101, Blk.cells 50 [Lf.dat (K.arr 16 (K.int IntKind.u32)) p11_84]), (31102, Blk.cells 50 [Lf.dat (K.arr 16 (K.int IntKind.u32)) (Prod.fst x)])]
def f12_l11_E0 (p11_84 : List Int) (p11_311 : Int) (y : List Int) : St := St.mk [(6, SV.av (AV.one (Lf.ptr 61100 0 0 0 0))), (7, SV.av (AV.one (Lf.ptr 61101 0 0 0 0))), (8, SV.av (AV.one (Lf.ptr 61102 0 0 0 0))), (20, SV.av (AV.one (Lf.v (Value.int IntKind.i64 p11_311))))] [(61100, Blk.cells 44 [Lf.dat (K.arr 64 (K.int IntKind.u8)) (List.replicate 64 0)]), (61101, Blk.cells 50 [Lf.dat (K.arr 16 (K.int IntKind.u32)) p11_84]), (61102, Blk.cells 50 [Lf.dat (K.arr 16 (K.int IntKind.u32)) y])]
def f12_l11_E (p11_84 : List Int) (p11_311 : Int) : List Int → Ex × St
  | y => (Ex.exit 4, f12_l11_E0 p11_84 p11_311 y)
noncomputable def f12_l11_t (p11_84 : List Int) (p11_311 : Int) (x : List Int × Int) : DT (Ex × St) ((List Int × Int) ⊕ (List Int)) :=
 (.ask (ilt (Prod.snd x) 4)
 (.sure (true) true
 (.sure (true) true
 (.sure (true) true
 (.call 16 [AV.one (Lf.ptr 0 0 0 0 0), AV.one (Lf.v (Value.int IntKind.i64 (Prod.snd x))), AV.one (Lf.v (Value.int IntKind.i64 (iadd IntKind.i64 4 (irem (iadd IntKind.i64 (Prod.snd x) 1) 4)))), AV.one (Lf.v (Value.int IntKind.i64 (iadd IntKind.i64 8 (irem (iadd IntKind.i64 (Prod.snd x) 2) 4)))), AV.one (Lf.v (Value.int IntKind.i64 (iadd IntKind.i64 12 (irem (iadd IntKind.i64 (Prod.snd x) 3) 4))))] [(0, Blk.cells 50 [Lf.dat (K.arr 16 (K.int IntKind.u32)) (Prod.fst x)])] (f16_m (Prod.fst x) (Prod.snd x) (iadd IntKind.i64 4 (irem (iadd IntKind.i64 (Prod.snd x) 1) 4)) (iadd IntKind.i64 8 (irem (iadd IntKind.i64 (Prod.snd x) 2) 4)) (iadd IntKind.i64 12 (irem (iadd IntKind.i64 (Prod.snd x) 3) 4))) (fun z686 => SV.tup []) (fun z686 => [(0, Blk.cells 50 [Lf.dat (K.arr 16 (K.int IntKind.u32)) z686])]) fun z686 =>
 (.leaf (Vam.Ex.normal, St.mk [(6, SV.av (AV.one (Lf.ptr 31100 0 0 0 0))), (7, SV.av (AV.one (Lf.ptr 31101 0 0 0 0))), (8, SV.av (AV.one (Lf.ptr 31102 0 0 0 0))), (20, SV.av (AV.one (Lf.v (Value.int IntKind.i64 p11_311)))), (34, SV.av (AV.one (Lf.v (Value.int IntKind.i64 (iadd IntKind.i64 (Prod.snd x) 1)))))] [(31100, Blk.cells 44 [Lf.dat (K.arr 64 (K.int IntKind.u8)) (List.replicate 64 0)]), (31101, Blk.cells 50 [Lf.dat (K.arr 16 (K.int IntKind.u32)) p11_84]), (31102, Blk.cells 50 [Lf.dat (K.arr 16 (K.int IntKind.u32)) z686])]) (.inl ((z686, iadd IntKind.i64 (Prod.snd x) 1))))))))
 (.leaf (Ex.exit 4, St.mk [(6, SV.av (AV.one (Lf.ptr 31100 0 0 0 0))), (7, SV.av (AV.one (Lf.ptr 31101 0 0 0 0))), (8, SV.av (AV.one (Lf.ptr 31102 0 0 0 0))), (20, SV.av (AV.one (Lf.v (Value.int IntKind.i64 p11_311)))), (34, SV.av (AV.one (Lf.v (Value.int IntKind.i64 (Prod.snd x)))))] [(31100, Blk.cells 44 [Lf.dat (K.arr 64 (K.int IntKind.u8)) (List.replicate 64 0)]), (31101, Blk.cells 50 [Lf.dat (K.arr 16 (K.int IntKind.u32)) p11_84]), (31102, Blk.cells 50 [Lf.dat (K.arr 16 (K.int IntKind.u32)) (Prod.fst x)])]) (.inr (Prod.fst x))))
theorem f12_l11_v (p11_84 : List Int) (p11_311 : Int) (x : List Int × Int) : vc (execK P noG Try.f12.ntmps f12_hn [6, 7, 8, 20, 34] (loopOf Try.f12 11) (f12_l11_D p11_84 p11_311 x)) (f12_l11_t p11_84 p11_311 x) = vcT (f12_l11_t p11_84 p11_311 x) := by kernel_rfl
theorem f12_l11_o (d : Nat) (p11_84 : List Int) (p11_311 : Int) (x : List Int × Int) : obl (Snd P noG) (Lp P noG Try.f12.ntmps [] f12_hn d) (RelL Try.f12.ntmps noG [] (f12_l11_D p11_84 p11_311) (f12_l11_E p11_84 p11_311)) (f12_l11_t p11_84 p11_311 x) := by
 unfold f12_l11_t
 exact (oAsk (fun h0 => (oSure rfl (oSure rfl (oSure rfl (oCall (fun _ e => f16_s e) fun z686 _ =>
 (oLeaf (relN (wk_tw [(31102, 31102), (31101, 31101), (31100, 31100)] [6, 7, 8, 20, 34] [] (by kernel_rfl) (by kernel_rfl)))))))))
 (fun h0 => (oLeaf (relE rfl (wk_tw [(31102, 61102), (31101, 61101), (31100, 61100)] [6, 7, 8, 20] [] (by kernel_rfl) (by kernel_rfl))))))
noncomputable def f12_l11_m (p11_84 : List Int) (p11_311 : Int) (x : List Int × Int) : Option (List Int) := lrun (fun x => mod (f12_l11_t p11_84 p11_311 x)) x
theorem f12_l11_e (p11_84 : List Int) (p11_311 : Int) (x : List Int × Int) : mod (f12_l11_t p11_84 p11_311 x) =
 (sel (ilt (Prod.snd x) 4)
 (Option.bind (f16_m (Prod.fst x) (Prod.snd x) (iadd IntKind.i64 4 (irem (iadd IntKind.i64 (Prod.snd x) 1) 4)) (iadd IntKind.i64 8 (irem (iadd IntKind.i64 (Prod.snd x) 2) 4)) (iadd IntKind.i64 12 (irem (iadd IntKind.i64 (Prod.snd x) 3) 4))) fun z686 =>
 (some ((.inl ((z686, iadd IntKind.i64 (Prod.snd x) 1))))))
 (some ((.inr (Prod.fst x))))) := by kernel_rfl
theorem f12_l11_s0 (d : Nat) {p11_84 : List Int} {p11_311 : Int} {σ : St} {x : List Int × Int} {z : List Int} (h : f12_l11_m p11_84 p11_311 x = some z) (hw : Wk Try.f12.ntmps noG [] σ (f12_l11_D p11_84 p11_311 x)) : Lp P noG Try.f12.ntmps [] f12_hn (d + 1) (loopOf Try.f12 11) σ (Ex.exit 4) (f12_l11_E0 p11_84 p11_311 z) :=
 lp_tree (D := f12_l11_D p11_84 p11_311) (E := f12_l11_E p11_84 p11_311) (f12_l11_v p11_84 p11_311) (f12_l11_o d p11_84 p11_311) h hw
def f12_l22_D (p22_347 : Int) (p22_348 : List Int) (p22_349 : List Int) (p22_548 : Int) (p22_549 : Int) (x : List Int × Int) : St := St.mk [(6, SV.av (AV.one (Lf.ptr 32200 0 0 0 0))), (7, SV.av (AV.one (Lf.ptr 32201 0 0 0 0))), (8, SV.av (AV.one (Lf.ptr 32202 0 0 0 0))), (11, SV.av (AV.one (Lf.ptr 32203 0 0 0 0))), (12, SV.av (AV.one (Lf.v (Value.int IntKind.i64 p22_548)))), (13, SV.av (AV.one (Lf.v (Value.int IntKind.u32 p22_347)))), (53, SV.av (AV.one (Lf.v (Value.int IntKind.i64 p22_549)))), (63, SV.av (AV.one (Lf.v (Value.int IntKind.i64 (Prod.snd x)))))] [(32200, Blk.cells 44 [Lf.dat (K.arr 64 (K.int IntKind.u8)) (List.replicate 64 0)]), (32201, Blk.cells 50 [Lf.dat (K.arr 16 (K.int IntKind.u32)) p22_348]), (32202, Blk.cells 50 [Lf.dat (K.arr 16 (K.int IntKind.u32)) p22_349]), (32203, Blk.cells 44 [Lf.dat (K.arr 64 (K.int IntKind.u8)) (Prod.fst x)])]
def f12_l22_E0 (p22_347 : Int) (p22_348 : List Int) (p22_349 : List Int) (p22_548 : Int) (p22_549 : Int) (y : List Int) : St := St.mk [(6, SV.av (AV.one (Lf.ptr 62200 0 0 0 0))), (7, SV.av (AV.one (Lf.ptr 62201 0 0 0 0))), (8, SV.av (AV.one (Lf.ptr 62202 0 0 0 0))), (11, SV.av (AV.one (Lf.ptr 62203 0 0 0 0))), (53, SV.av (AV.one (Lf.v (Value.int IntKind.i64 p22_549))))] [(62200, Blk.cells 44 [Lf.dat (K.arr 64 (K.int IntKind.u8)) (List.replicate 64 0)]), (62201, Blk.cells 50 [Lf.dat (K.arr 16 (K.int IntKind.u32)) p22_348]), (62202, Blk.cells 50 [Lf.dat (K.arr 16 (K.int IntKind.u32)) p22_349]), (62203, Blk.cells 44 [Lf.dat (K.arr 64 (K.int IntKind.u8)) y])]
def f12_l22_E (p22_347 : Int) (p22_348 : List Int) (p22_349 : List Int) (p22_548 : Int) (p22_549 : Int) : List Int → Ex × St
  | y => (Ex.exit 8, f12_l22_E0 p22_347 p22_348 p22_349 p22_548 p22_549 y)
noncomputable def f12_l22_t (p22_347 : Int) (p22_348 : List Int) (p22_349 : List Int) (p22_548 : Int) (p22_549 : Int) (x : List Int × Int) : DT (Ex × St) ((List Int × Int) ⊕ (List Int)) :=
 (.ask (ilt (Prod.snd x) 4)
 (.need (ile 0 (imul IntKind.i64 8 (Prod.snd x))) true
 (.need (ile 0 (iadd IntKind.i64 (imul IntKind.i64 4 p22_548) (Prod.snd x))) true
 (.need (ilt (iadd IntKind.i64 (imul IntKind.i64 4 p22_548) (Prod.snd x)) 64) true
 (.need (nlt (Int.toNat (iadd IntKind.i64 (imul IntKind.i64 4 p22_548) (Prod.snd x))) 64) true
 (.leaf (Vam.Ex.normal, St.mk [(6, SV.av (AV.one (Lf.ptr 32200 0 0 0 0))), (7, SV.av (AV.one (Lf.ptr 32201 0 0 0 0))), (8, SV.av (AV.one (Lf.ptr 32202 0 0 0 0))), (11, SV.av (AV.one (Lf.ptr 32203 0 0 0 0))), (12, SV.av (AV.one (Lf.v (Value.int IntKind.i64 p22_548)))), (13, SV.av (AV.one (Lf.v (Value.int IntKind.u32 p22_347)))), (53, SV.av (AV.one (Lf.v (Value.int IntKind.i64 p22_549)))), (63, SV.av (AV.one (Lf.v (Value.int IntKind.i64 (iadd IntKind.i64 (Prod.snd x) 1)))))] [(32200, Blk.cells 44 [Lf.dat (K.arr 64 (K.int IntKind.u8)) (List.replicate 64 0)]), (32201, Blk.cells 50 [Lf.dat (K.arr 16 (K.int IntKind.u32)) p22_348]), (32202, Blk.cells 50 [Lf.dat (K.arr 16 (K.int IntKind.u32)) p22_349]), (32203, Blk.cells 44 [Lf.dat (K.arr 64 (K.int IntKind.u8)) (List.set (Prod.fst x) (Int.toNat (iadd IntKind.i64 (imul IntKind.i64 4 p22_548) (Prod.snd x))) (icv IntKind.u8 (shr IntKind.u32 p22_347 (imul IntKind.i64 8 (Prod.snd x)))))])]) (.inl ((List.set (Prod.fst x) (Int.toNat (iadd IntKind.i64 (imul IntKind.i64 4 p22_548) (Prod.snd x))) (icv IntKind.u8 (shr IntKind.u32 p22_347 (imul IntKind.i64 8 (Prod.snd x)))), iadd IntKind.i64 (Prod.snd x) 1))))))))
 (.leaf (Ex.exit 8, St.mk [(6, SV.av (AV.one (Lf.ptr 32200 0 0 0 0))), (7, SV.av (AV.one (Lf.ptr 32201 0 0 0 0))), (8, SV.av (AV.one (Lf.ptr 32202 0 0 0 0))), (11, SV.av (AV.one (Lf.ptr 32203 0 0 0 0))), (12, SV.av (AV.one (Lf.v (Value.int IntKind.i64 p22_548)))), (13, SV.av (AV.one (Lf.v (Value.int IntKind.u32 p22_347)))), (53, SV.av (AV.one (Lf.v (Value.int IntKind.i64 p22_549)))), (63, SV.av (AV.one (Lf.v (Value.int IntKind.i64 (Prod.snd x)))))] [(32200, Blk.cells 44 [Lf.dat (K.arr 64 (K.int IntKind.u8)) (List.replicate 64 0)]), (32201, Blk.cells 50 [Lf.dat (K.arr 16 (K.int IntKind.u32)) p22_348]), (32202, Blk.cells 50 [Lf.dat (K.arr 16 (K.int IntKind.u32)) p22_349]), (32203, Blk.cells 44 [Lf.dat (K.arr 64 (K.int IntKind.u8)) (Prod.fst x)])]) (.inr (Prod.fst x))))
theorem f12_l22_v (p22_347 : Int) (p22_348 : List Int) (p22_349 : List Int) (p22_548 : Int) (p22_549 : Int) (x : List Int × Int) : vc (execK P noG Try.f12.ntmps f12_hn [6, 7, 8, 11, 12, 13, 53, 63] (loopOf Try.f12 22) (f12_l22_D p22_347 p22_348 p22_349 p22_548 p22_549 x)) (f12_l22_t p22_347 p22_348 p22_349 p22_548 p22_549 x) = vcT (f12_l22_t p22_347 p22_348 p22_349 p22_548 p22_549 x) := by kernel_rfl
theorem f12_l22_o (d : Nat) (p22_347 : Int) (p22_348 : List Int) (p22_349 : List Int) (p22_548 : Int) (p22_549 : Int) (x : List Int × Int) : obl (Snd P noG) (Lp P noG Try.f12.ntmps [] f12_hn d) (RelL Try.f12.ntmps noG [] (f12_l22_D p22_347 p22_348 p22_349 p22_548 p22_549) (f12_l22_E p22_347 p22_348 p22_349 p22_548 p22_549)) (f12_l22_t p22_347 p22_348 p22_349 p22_548 p22_549 x) := by
 unfold f12_l22_t
 exact (oAsk (fun h0 => (oNeed fun h1 => (oNeed fun h2 => (oNeed fun h3 => (oNeed fun h4 => (oLeaf (relN (wk_tw [(32203, 32203), (32202, 32202), (32201, 32201), (32200, 32200)] [6, 7, 8, 11, 12, 13, 53, 63] [] (by kernel_rfl) (by kernel_rfl)))))))))
 (fun h0 => (oLeaf (relE rfl (wk_tw [(32203, 62203), (32202, 62202), (32201, 62201), (32200, 62200)] [6, 7, 8, 11, 53] [] (by kernel_rfl) (by kernel_rfl))))))
noncomputable def f12_l22_m (p22_347 : Int) (p22_348 : List Int) (p22_349 : List Int) (p22_548 : Int) (p22_549 : Int) (x : List Int × Int) : Option (List Int) := lrun (fun x => mod (f12_l22_t p22_347 p22_348 p22_349 p22_548 p22_549 x)) x
theorem f12_l22_e (p22_347 : Int) (p22_348 : List Int) (p22_349 : List Int) (p22_548 : Int) (p22_549 : Int) (x : List Int × Int) : mod (f12_l22_t p22_347 p22_348 p22_349 p22_548 p22_549 x) =
 (sel (ilt (Prod.snd x) 4)
 (sel (ile 0 (imul IntKind.i64 8 (Prod.snd x)))
 (sel (ile 0 (iadd IntKind.i64 (imul IntKind.i64 4 p22_548) (Prod.snd x)))
 (sel (ilt (iadd IntKind.i64 (imul IntKind.i64 4 p22_548) (Prod.snd x)) 64)
 (sel (nlt (Int.toNat (iadd IntKind.i64 (imul IntKind.i64 4 p22_548) (Prod.snd x))) 64)
 (some ((.inl ((List.set (Prod.fst x) (Int.toNat (iadd IntKind.i64 (imul IntKind.i64 4 p22_548) (Prod.snd x))) (icv IntKind.u8 (shr IntKind.u32 p22_347 (imul IntKind.i64 8 (Prod.snd x)))), iadd IntKind.i64 (Prod.snd x) 1))))) none) none) none) none)
 (some ((.inr (Prod.fst x))))) := by kernel_rfl
theorem f12_l22_s0 (d : Nat) {p22_347 : Int} {p22_348 : List Int} {p22_349 : List Int} {p22_548 : Int} {p22_549 : Int} {σ : St} {x : List Int × Int} {z : List Int} (h : f12_l22_m p22_347 p22_348 p22_349 p22_548 p22_549 x = some z) (hw : Wk Try.f12.ntmps noG [] σ (f12_l22_D p22_347 p22_348 p22_349 p22_548 p22_549 x)) : Lp P noG Try.f12.ntmps [] f12_hn (d + 1) (loopOf Try.f12 22) σ (Ex.exit 8) (f12_l22_E0 p22_347 p22_348 p22_349 p22_548 p22_549 z) :=
 lp_tree (D := f12_l22_D p22_347 p22_348 p22_349 p22_548 p22_549) (E := f12_l22_E p22_347 p22_348 p22_349 p22_548 p22_549) (f12_l22_v p22_347 p22_348 p22_349 p22_548 p22_549) (f12_l22_o d p22_347 p22_348 p22_349 p22_548 p22_549) h hw
def f12_l4_D (p4_11 : List Int) (x : List Int × Int) : St := St.mk [(6, SV.av (AV.one (Lf.ptr 30400 0 0 0 0))), (7, SV.av (AV.one (Lf.ptr 30401 0 0 0 0))), (8, SV.av (AV.one (Lf.ptr 30402 0 0 0 0))), (20, SV.av (AV.one (Lf.v (Value.int IntKind.i64 (Prod.snd x)))))] [(30400, Blk.cells 44 [Lf.dat (K.arr 64 (K.int IntKind.u8)) (List.replicate 64 0)]), (30401, Blk.cells 50 [Lf.dat (K.arr 16 (K.int IntKind.u32)) p4_11]), (30402, Blk.cells 50 [Lf.dat (K.arr 16 (K.int IntKind.u32)) (Prod.fst x)])]
def f12_l4_E0 (p4_11 : List Int) (y : List Int) : St := St.mk [(6, SV.av (AV.one (Lf.ptr 60400 0 0 0 0))), (7, SV.av (AV.one (Lf.ptr 60401 0 0 0 0))), (8, SV.av (AV.one (Lf.ptr 60402 0 0 0 0)))] [(60400, Blk.cells 44 [Lf.dat (K.arr 64 (K.int IntKind.u8)) (List.replicate 64 0)]), (60401, Blk.cells 50 [Lf.dat (K.arr 16 (K.int IntKind.u32)) p4_11]), (60402, Blk.cells 50 [Lf.dat (K.arr 16 (K.int IntKind.u32)) y])]
def f12_l4_E (p4_11 : List Int) : List Int → Ex × St
  | y => (Ex.exit 0, f12_l4_E0 p4_11 y)
noncomputable def f12_l4_t (p4_11 : List Int) (x : List Int × Int) : DT (Ex × St) ((List Int × Int) ⊕ (List Int)) :=
 (.ask (ilt (Prod.snd x) 10)
 (.loop (loopOf Try.f12 6) (St.mk [(6, SV.av (AV.one (Lf.ptr 30400 0 0 0 0))), (7, SV.av (AV.one (Lf.ptr 30401 0 0 0 0))), (8, SV.av (AV.one (Lf.ptr 30402 0 0 0 0))), (20, SV.av (AV.one (Lf.v (Value.int IntKind.i64 (Prod.snd x))))), (22, SV.av (AV.one (Lf.v (Value.int IntKind.i64 0))))] [(30400, Blk.cells 44 [Lf.dat (K.arr 64 (K.int IntKind.u8)) (List.replicate 64 0)]), (30401, Blk.cells 50 [Lf.dat (K.arr 16 (K.int IntKind.u32)) p4_11]), (30402, Blk.cells 50 [Lf.dat (K.arr 16 (K.int IntKind.u32)) (Prod.fst x)])]) (f12_l6_m p4_11 (Prod.snd x) (Prod.fst x, 0)) (Ex.exit 2) (f12_l6_E0 p4_11 (Prod.snd x)) fun z687 =>
 (.loop (loopOf Try.f12 11) (St.mk [(6, SV.av (AV.one (Lf.ptr 60600 0 0 0 0))), (7, SV.av (AV.one (Lf.ptr 60601 0 0 0 0))), (8, SV.av (AV.one (Lf.ptr 60602 0 0 0 0))), (20, SV.av (AV.one (Lf.v (Value.int IntKind.i64 (Prod.snd x))))), (34, SV.av (AV.one (Lf.v (Value.int IntKind.i64 0))))] [(60600, Blk.cells 44 [Lf.dat (K.arr 64 (K.int IntKind.u8)) (List.replicate 64 0)]), (60601, Blk.cells 50 [Lf.dat (K.arr 16 (K.int IntKind.u32)) p4_11]), (60602, Blk.cells 50 [Lf.dat (K.arr 16 (K.int IntKind.u32)) z687])]) (f12_l11_m p4_11 (Prod.snd x) (z687, 0)) (Ex.exit 4) (f12_l11_E0 p4_11 (Prod.snd x)) fun z688 =>
 (.leaf (Vam.Ex.normal, St.mk [(6, SV.av (AV.one (Lf.ptr 61100 0 0 0 0))), (7, SV.av (AV.one (Lf.ptr 61101 0 0 0 0))), (8, SV.av (AV.one (Lf.ptr 61102 0 0 0 0))), (20, SV.av (AV.one (Lf.v (Value.int IntKind.i64 (iadd IntKind.i64 (Prod.snd x) 1)))))] [(61100, Blk.cells 44 [Lf.dat (K.arr 64 (K.int IntKind.u8)) (List.replicate 64 0)]), (61101, Blk.cells 50 [Lf.dat (K.arr 16 (K.int IntKind.u32)) p4_11]), (61102, Blk.cells 50 [Lf.dat (K.arr 16 (K.int IntKind.u32)) z688])]) (.inl ((z688, iadd IntKind.i64 (Prod.snd x) 1))))))
 (.leaf (Ex.exit 0, St.mk [(6, SV.av (AV.one (Lf.ptr 30400 0 0 0 0))), (7, SV.av (AV.one (Lf.ptr 30401 0 0 0 0))), (8, SV.av (AV.one (Lf.ptr 30402 0 0 0 0))), (20, SV.av (AV.one (Lf.v (Value.int IntKind.i64 (Prod.snd x)))))] [(30400, Blk.cells 44 [Lf.dat (K.arr 64 (K.int IntKind.u8)) (List.replicate 64 0)]), (30401, Blk.cells 50 [Lf.dat (K.arr 16 (K.int IntKind.u32)) p4_11]), (30402, Blk.cells 50 [Lf.dat (K.arr 16 (K.int IntKind.u32)) (Prod.fst x)])]) (.inr (Prod.fst x))))
theorem f12_l4_v (p4_11 : List Int) (x : List Int × Int) : vc (execK P noG Try.f12.ntmps f12_hn [6, 7, 8, 20] (loopOf Try.f12 4) (f12_l4_D p4_11 x)) (f12_l4_t p4_11 x) = vcT (f12_l4_t p4_11 x) := by kernel_rfl
theorem f12_l4_o (d : Nat) (p4_11 : List Int) (x : List Int × Int) : obl (Snd P noG) (Lp P noG Try.f12.ntmps [] f12_hn (d + 1)) (RelL Try.f12.ntmps noG [] (f12_l4_D p4_11) (f12_l4_E p4_11)) (f12_l4_t p4_11 x) := by
 unfold f12_l4_t
 exact (oAsk (fun h0 => (oLoop (fun _ e => f12_l6_s0 d e (wk_tw [(30402, 30602), (30401, 30601), (30400, 30600)] [6, 7, 8, 20, 22] [] (by kernel_rfl) (by kernel_rfl))) fun z687 _ =>
 (oLoop (fun _ e => f12_l11_s0 d e (wk_tw [(60602, 31102), (60601, 31101), (60600, 31100)] [6, 7, 8, 20, 34] [] (by kernel_rfl) (by kernel_rfl))) fun z688 _ =>
 (oLeaf (relN (wk_tw [(61102, 30402), (61101, 30401), (61100, 30400)] [6, 7, 8, 20] [] (by kernel_rfl) (by kernel_rfl)))))))
 (fun h0 => (oLeaf (relE rfl (wk_tw [(30402, 60402), (30401, 60401), (30400, 60400)] [6, 7, 8] [] (by kernel_rfl) (by kernel_rfl))))))
noncomputable def f12_l4_m (p4_11 : List Int) (x : List Int × Int) : Option (List Int) := lrun (fun x => mod (f12_l4_t p4_11 x)) x
theorem f12_l4_e (p4_11 : List Int) (x : List Int × Int) : mod (f12_l4_t p4_11 x) =
 (sel (ilt (Prod.snd x) 10)
 (Option.bind (f12_l6_m p4_11 (Prod.snd x) (Prod.fst x, 0)) fun z687 =>
 (Option.bind (f12_l11_m p4_11 (Prod.snd x) (z687, 0)) fun z688 =>
 (some ((.inl ((z688, iadd IntKind.i64 (Prod.snd x) 1)))))))
 (some ((.inr (Prod.fst x))))) := by kernel_rfl
theorem f12_l4_s0 (d : Nat) {p4_11 : List Int} {σ : St} {x : List Int × Int} {z : List Int} (h : f12_l4_m p4_11 x = some z) (hw : Wk Try.f12.ntmps noG [] σ (f12_l4_D p4_11 x)) : Lp P noG Try.f12.ntmps [] f12_hn (d + 2) (loopOf Try.f12 4) σ (Ex.exit 0) (f12_l4_E0 p4_11 z) :=
 lp_tree (D := f12_l4_D p4_11) (E := f12_l4_E p4_11) (f12_l4_v p4_11) (f12_l4_o d p4_11) h hw
def f12_l18_D (p18_308 : List Int) (p18_309 : List Int) (x : List Int × Int) : St := St.mk [(6, SV.av (AV.one (Lf.ptr 31800 0 0 0 0))), (7, SV.av (AV.one (Lf.ptr 31801 0 0 0 0))), (8, SV.av (AV.one (Lf.ptr 31802 0 0 0 0))), (11, SV.av (AV.one (Lf.ptr 31803 0 0 0 0))), (53, SV.av (AV.one (Lf.v (Value.int IntKind.i64 (Prod.snd x)))))] [(31800, Blk.cells 44 [Lf.dat (K.arr 64 (K.int IntKind.u8)) (List.replicate 64 0)]), (31801, Blk.cells 50 [Lf.dat (K.arr 16 (K.int IntKind.u32)) p18_308]), (31802, Blk.cells 50 [Lf.dat (K.arr 16 (K.int IntKind.u32)) p18_309]), (31803, Blk.cells 44 [Lf.dat (K.arr 64 (K.int IntKind.u8)) (Prod.fst x)])]
def f12_l18_E0 (p18_308 : List Int) (p18_309 : List Int) (y : List Int) : St := St.mk [(6, SV.av (AV.one (Lf.ptr 61800 0 0 0 0))), (11, SV.av (AV.one (Lf.ptr 61801 0 0 0 0)))] [(61800, Blk.cells 44 [Lf.dat (K.arr 64 (K.int IntKind.u8)) (List.replicate 64 0)]), (61801, Blk.cells 44 [Lf.dat (K.arr 64 (K.int IntKind.u8)) y])]
def f12_l18_E (p18_308 : List Int) (p18_309 : List Int) : List Int → Ex × St
  | y => (Ex.exit 6, f12_l18_E0 p18_308 p18_309 y)
noncomputable def f12_l18_t (p18_308 : List Int) (p18_309 : List Int) (x : List Int × Int) : DT (Ex × St) ((List Int × Int) ⊕ (List Int)) :=
 (.ask (ilt (Prod.snd x) 16)
 (.need (ile 0 (Prod.snd x)) true
 (.sure (ilt (Prod.snd x) 16) true
 (.need (nlt (Int.toNat (Prod.snd x)) 16) true
 (.sure (ile 0 (Prod.snd x)) true
 (.sure (ilt (Prod.snd x) 16) true
 (.sure (nlt (Int.toNat (Prod.snd x)) 16) true
 (.loop (loopOf Try.f12 22) (St.mk [(6, SV.av (AV.one (Lf.ptr 31800 0 0 0 0))), (7, SV.av (AV.one (Lf.ptr 31801 0 0 0 0))), (8, SV.av (AV.one (Lf.ptr 31802 0 0 0 0))), (11, SV.av (AV.one (Lf.ptr 31803 0 0 0 0))), (12, SV.av (AV.one (Lf.v (Value.int IntKind.i64 (Prod.snd x))))), (13, SV.av (AV.one (Lf.v (Value.int IntKind.u32 (iadd IntKind.u32 (gd (K.int IntKind.u32) p18_309 (Int.toNat (Prod.snd x))) (gd (K.int IntKind.u32) p18_308 (Int.toNat (Prod.snd x)))))))), (53, SV.av (AV.one (Lf.v (Value.int IntKind.i64 (Prod.snd x))))), (63, SV.av (AV.one (Lf.v (Value.int IntKind.i64 0))))] [(31800, Blk.cells 44 [Lf.dat (K.arr 64 (K.int IntKind.u8)) (List.replicate 64 0)]), (31801, Blk.cells 50 [Lf.dat (K.arr 16 (K.int IntKind.u32)) p18_308]), (31802, Blk.cells 50 [Lf.dat (K.arr 16 (K.int IntKind.u32)) p18_309]), (31803, Blk.cells 44 [Lf.dat (K.arr 64 (K.int IntKind.u8)) (Prod.fst x)])]) (f12_l22_m (iadd IntKind.u32 (gd (K.int IntKind.u32) p18_309 (Int.toNat (Prod.snd x))) (gd (K.int IntKind.u32) p18_308 (Int.toNat (Prod.snd x)))) p18_308 p18_309 (Prod.snd x) (Prod.snd x) (Prod.fst x, 0)) (Ex.exit 8) (f12_l22_E0 (iadd IntKind.u32 (gd (K.int IntKind.u32) p18_309 (Int.toNat (Prod.snd x))) (gd (K.int IntKind.u32) p18_308 (Int.toNat (Prod.snd x)))) p18_308 p18_309 (Prod.snd x) (Prod.snd x)) fun z689 =>
 (.leaf (Vam.Ex.normal, St.mk [(6, SV.av (AV.one (Lf.ptr 62200 0 0 0 0))), (7, SV.av (AV.one (Lf.ptr 62201 0 0 0 0))), (8, SV.av (AV.one (Lf.ptr 62202 0 0 0 0))), (11, SV.av (AV.one (Lf.ptr 62203 0 0 0 0))), (53, SV.av (AV.one (Lf.v (Value.int IntKind.i64 (iadd IntKind.i64 (Prod.snd x) 1)))))] [(62200, Blk.cells 44 [Lf.dat (K.arr 64 (K.int IntKind.u8)) (List.replicate 64 0)]), (62201, Blk.cells 50 [Lf.dat (K.arr 16 (K.int IntKind.u32)) p18_308]), (62202, Blk.cells 50 [Lf.dat (K.arr 16 (K.int IntKind.u32)) p18_309]), (62203, Blk.cells 44 [Lf.dat (K.arr 64 (K.int IntKind.u8)) z689])]) (.inl ((z689, iadd IntKind.i64 (Prod.snd x) 1)))))))))))
 (.leaf (Ex.exit 6, St.mk [(6, SV.av (AV.one (Lf.ptr 31800 0 0 0 0))), (7, SV.av (AV.one (Lf.ptr 31801 0 0 0 0))), (8, SV.av (AV.one (Lf.ptr 31802 0 0 0 0))), (11, SV.av (AV.one (Lf.ptr 31803 0 0 0 0))), (53, SV.av (AV.one (Lf.v (Value.int IntKind.i64 (Prod.snd x)))))] [(31800, Blk.cells 44 [Lf.dat (K.arr 64 (K.int IntKind.u8)) (List.replicate 64 0)]), (31801, Blk.cells 50 [Lf.dat (K.arr 16 (K.int IntKind.u32)) p18_308]), (31802, Blk.cells 50 [Lf.dat (K.arr 16 (K.int IntKind.u32)) p18_309]), (31803, Blk.cells 44 [Lf.dat (K.arr 64 (K.int IntKind.u8)) (Prod.fst x)])]) (.inr (Prod.fst x))))
theorem f12_l18_v (p18_308 : List Int) (p18_309 : List Int) (x : List Int × Int) : vc (execK P noG Try.f12.ntmps f12_hn [6, 7, 8, 11, 53] (loopOf Try.f12 18) (f12_l18_D p18_308 p18_309 x)) (f12_l18_t p18_308 p18_309 x) = vcT (f12_l18_t p18_308 p18_309 x) := by kernel_rfl
theorem f12_l18_o (d : Nat) (p18_308 : List Int) (p18_309 : List Int) (x : List Int × Int) : obl (Snd P noG) (Lp P noG Try.f12.ntmps [] f12_hn (d + 1)) (RelL Try.f12.ntmps noG [] (f12_l18_D p18_308 p18_309) (f12_l18_E p18_308 p18_309)) (f12_l18_t p18_308 p18_309 x) := by
 unfold f12_l18_t
 exact (oAsk (fun h0 => (oNeed fun h1 => (oSure h0 (oNeed fun h2 => (oSure h1 (oSure h0 (oSure h2 (oLoop (fun _ e => f12_l22_s0 d e (wk_tw [(31803, 32203), (31802, 32202), (31801, 32201), (31800, 32200)] [6, 7, 8, 11, 12, 13, 53, 63] [] (by kernel_rfl) (by kernel_rfl))) fun z689 _ =>
 (oLeaf (relN (wk_tw [(62203, 31803), (62202, 31802), (62201, 31801), (62200, 31800)] [6, 7, 8, 11, 53] [] (by kernel_rfl) (by kernel_rfl))))))))))))
 (fun h0 => (oLeaf (relE rfl (wk_tw [(31803, 61801), (31800, 61800)] [6, 11] [] (by kernel_rfl) (by kernel_rfl))))))
noncomputable def f12_l18_m (p18_308 : List Int) (p18_309 : List Int) (x : List Int × Int) : Option (List Int) := lrun (fun x => mod (f12_l18_t p18_308 p18_309 x)) x
theorem f12_l18_e (p18_308 : List Int) (p18_309 : List Int) (x : List Int × Int) : mod (f12_l18_t p18_308 p18_309 x) =
 (sel (ilt (Prod.snd x) 16)
 (sel (ile 0 (Prod.snd x))
 (sel (nlt (Int.toNat (Prod.snd x)) 16)
 (Option.bind (f12_l22_m (iadd IntKind.u32 (gd (K.int IntKind.u32) p18_309 (Int.toNat (Prod.snd x))) (gd (K.int IntKind.u32) p18_308 (Int.toNat (Prod.snd x)))) p18_308 p18_309 (Prod.snd x) (Prod.snd x) (Prod.fst x, 0)) fun z689 =>
 (some ((.inl ((z689, iadd IntKind.i64 (Prod.snd x) 1)))))) none) none)
 (some ((.inr (Prod.fst x))))) := by kernel_rfl
theorem f12_l18_s0 (d : Nat) {p18_308 : List Int} {p18_309 : List Int} {σ : St} {x : List Int × Int} {z : List Int} (h : f12_l18_m p18_308 p18_309 x = some z) (hw : Wk Try.f12.ntmps noG [] σ (f12_l18_D p18_308 p18_309 x)) : Lp P noG Try.f12.ntmps [] f12_hn (d + 2) (loopOf Try.f12 18) σ (Ex.exit 6) (f12_l18_E0 p18_308 p18_309 z) :=
 lp_tree (D := f12_l18_D p18_308 p18_309) (E := f12_l18_E p18_308 p18_309) (f12_l18_v p18_308 p18_309) (f12_l18_o d p18_308 p18_309) h hw
def f12_R (a0 : List Int) (a1 : Int) (a2 : List Int) : List Int → SV × Hp
  | z => (SV.av (AV.one (Lf.dat (K.arr 64 (K.int IntKind.u8)) z)), [])
noncomputable def f12_t (a0 : List Int) (a1 : Int) (a2 : List Int) : DT (SV × Hp) (List Int) :=
 (.call 15 [AV.one (Lf.dat (K.arr 32 (K.int IntKind.u8)) a0), AV.one (Lf.v (Value.int IntKind.u32 a1)), AV.one (Lf.dat (K.arr 12 (K.int IntKind.u8)) a2)] [] (f15_m a0 a1 a2) (fun z700 => SV.av (AV.one (Lf.dat (K.arr 16 (K.int IntKind.u32)) z700))) (fun z700 => []) fun z700 =>
 (.loop (loopOf Try.f12 4) (St.mk [(6, SV.av (AV.one (Lf.ptr 6 0 0 0 0))), (7, SV.av (AV.one (Lf.ptr 7 0 0 0 0))), (8, SV.av (AV.one (Lf.ptr 8 0 0 0 0))), (20, SV.av (AV.one (Lf.v (Value.int IntKind.i64 0))))] [(3, Blk.cells 23 [Lf.dat (K.arr 32 (K.int IntKind.u8)) a0]), (5, Blk.cells 26 [Lf.dat (K.arr 12 (K.int IntKind.u8)) a2]), (6, Blk.cells 44 [Lf.dat (K.arr 64 (K.int IntKind.u8)) (List.replicate 64 0)]), (7, Blk.cells 50 [Lf.dat (K.arr 16 (K.int IntKind.u32)) z700]), (8, Blk.cells 50 [Lf.dat (K.arr 16 (K.int IntKind.u32)) z700])]) (f12_l4_m z700 (z700, 0)) (Ex.exit 0) (f12_l4_E0 z700) fun z701 =>
 (.loop (loopOf Try.f12 18) (St.mk [(6, SV.av (AV.one (Lf.ptr 60400 0 0 0 0))), (7, SV.av (AV.one (Lf.ptr 60401 0 0 0 0))), (8, SV.av (AV.one (Lf.ptr 60402 0 0 0 0))), (11, SV.av (AV.one (Lf.ptr 11 0 0 0 0))), (53, SV.av (AV.one (Lf.v (Value.int IntKind.i64 0))))] [(11, Blk.cells 44 [Lf.dat (K.arr 64 (K.int IntKind.u8)) (List.replicate 64 0)]), (60400, Blk.cells 44 [Lf.dat (K.arr 64 (K.int IntKind.u8)) (List.replicate 64 0)]), (60401, Blk.cells 50 [Lf.dat (K.arr 16 (K.int IntKind.u32)) z700]), (60402, Blk.cells 50 [Lf.dat (K.arr 16 (K.int IntKind.u32)) z701])]) (f12_l18_m z700 z701 (List.replicate 64 0, 0)) (Ex.exit 6) (f12_l18_E0 z700 z701) fun z702 =>
 (.leaf (SV.av (AV.one (Lf.dat (K.arr 64 (K.int IntKind.u8)) z702)), [(61800, Blk.cells 44 [Lf.dat (K.arr 64 (K.int IntKind.u8)) z702]), (61801, Blk.cells 44 [Lf.dat (K.arr 64 (K.int IntKind.u8)) z702])]) (z702)))))
theorem f12_v (a0 : List Int) (a1 : Int) (a2 : List Int) : vc (runR P noG Try.f12 f12_hn [AV.one (Lf.dat (K.arr 32 (K.int IntKind.u8)) a0), AV.one (Lf.v (Value.int IntKind.u32 a1)), AV.one (Lf.dat (K.arr 12 (K.int IntKind.u8)) a2)] []) (f12_t a0 a1 a2) = vcT (f12_t a0 a1 a2) := by kernel_rfl
theorem f12_o (a0 : List Int) (a1 : Int) (a2 : List Int) : obl (Snd P noG) (Lp P noG Try.f12.ntmps [] f12_hn 2) (RelF [] (f12_R a0 a1 a2)) (f12_t a0 a1 a2) := by
 unfold f12_t
 exact (oCall (fun _ e => f15_s e) fun z700 _ =>
 (oLoop (fun _ e => f12_l4_s0 0 e (wk_tw [(8, 30402), (7, 30401), (6, 30400)] [6, 7, 8, 20] [] (by kernel_rfl) (by kernel_rfl))) fun z701 _ =>
 (oLoop (fun _ e => f12_l18_s0 0 e (wk_tw [(11, 31803), (60402, 31802), (60401, 31801), (60400, 31800)] [6, 7, 8, 11, 53] [] (by kernel_rfl) (by kernel_rfl))) fun z702 _ =>
 (oLeaf (wks_tw [] [] (by kernel_rfl) (by kernel_rfl))))))
noncomputable def f12_m (a0 : List Int) (a1 : Int) (a2 : List Int) : Option (List Int) := mod (f12_t a0 a1 a2)
theorem f12_e (a0 : List Int) (a1 : Int) (a2 : List Int) : f12_m a0 a1 a2 =
 (Option.bind (f15_m a0 a1 a2) fun z700 =>
 (Option.bind (f12_l4_m z700 (z700, 0)) fun z701 =>
 (Option.bind (f12_l18_m z700 z701 (List.replicate 64 0, 0)) fun z702 =>
 (some ((z702)))))) := by kernel_rfl
theorem f12_s {a0 : List Int} {a1 : Int} {a2 : List Int} {z : List Int} (h : f12_m a0 a1 a2 = some z) : Snd P noG 12 [AV.one (Lf.dat (K.arr 32 (K.int IntKind.u8)) a0), AV.one (Lf.v (Value.int IntKind.u32 a1)), AV.one (Lf.dat (K.arr 12 (K.int IntKind.u8)) a2)] [] (SV.av (AV.one (Lf.dat (K.arr 64 (K.int IntKind.u8)) z))) [] :=
 snd_tree (hn := f12_hn) 2 (f12_R a0 a1 a2) mixed (by kernel_rfl) (by kernel_rfl) (by kernel_rfl) (by kernel_rfl) (by kernel_rfl) (f12_v a0 a1 a2) (f12_o a0 a1 a2) h
def f8_hn : Hn := Hn.mk [] [] [] [] []
def f8_R (a0 : List Int) (a1 : Int) (a2 : List Int) : ByteArray → SV × Hp
  | z => (SV.av (AV.one (Lf.v (Value.string z))), [])
noncomputable def f8_t (a0 : List Int) (a1 : Int) (a2 : List Int) : DT (SV × Hp) (ByteArray) :=
 (.call 12 [AV.one (Lf.dat (K.arr 32 (K.int IntKind.u8)) a0), AV.one (Lf.v (Value.int IntKind.u32 a1)), AV.one (Lf.dat (K.arr 12 (K.int IntKind.u8)) a2)] [] (f12_m a0 a1 a2) (fun z33 => SV.av (AV.one (Lf.dat (K.arr 64 (K.int IntKind.u8)) z33))) (fun z33 => []) fun z33 =>
 (.sure (true) true
 (.sure (true) true
 (.pick true (.sure (true) true
 (.leaf (SV.av (AV.one (Lf.v (Value.string (strOfNums z33)))), [(3, Blk.cells 23 [Lf.dat (K.arr 32 (K.int IntKind.u8)) a0]), (5, Blk.cells 26 [Lf.dat (K.arr 12 (K.int IntKind.u8)) a2]), (7, Blk.cells 44 [Lf.dat (K.arr 64 (K.int IntKind.u8)) z33])]) (strOfNums z33)))))))
theorem f8_v (a0 : List Int) (a1 : Int) (a2 : List Int) : vc (runR P noG Try.f8 f8_hn [AV.one (Lf.dat (K.arr 32 (K.int IntKind.u8)) a0), AV.one (Lf.v (Value.int IntKind.u32 a1)), AV.one (Lf.dat (K.arr 12 (K.int IntKind.u8)) a2)] []) (f8_t a0 a1 a2) = vcT (f8_t a0 a1 a2) := by kernel_rfl
theorem f8_o (a0 : List Int) (a1 : Int) (a2 : List Int) : obl (Snd P noG) (Lp P noG Try.f8.ntmps [] f8_hn 1) (RelF [] (f8_R a0 a1 a2)) (f8_t a0 a1 a2) := by
 unfold f8_t
 exact (oCall (fun _ e => f12_s e) fun z33 _ =>
 (oSure rfl (oSure rfl (oPick (oSure rfl (oLeaf (wks_tw [] [] (by kernel_rfl) (by kernel_rfl))))))))
noncomputable def f8_m (a0 : List Int) (a1 : Int) (a2 : List Int) : Option (ByteArray) := mod (f8_t a0 a1 a2)
theorem f8_e (a0 : List Int) (a1 : Int) (a2 : List Int) : f8_m a0 a1 a2 =
 (Option.bind (f12_m a0 a1 a2) fun z33 =>
 (some ((strOfNums z33)))) := by kernel_rfl
theorem f8_s {a0 : List Int} {a1 : Int} {a2 : List Int} {z : ByteArray} (h : f8_m a0 a1 a2 = some z) : Snd P noG 8 [AV.one (Lf.dat (K.arr 32 (K.int IntKind.u8)) a0), AV.one (Lf.v (Value.int IntKind.u32 a1)), AV.one (Lf.dat (K.arr 12 (K.int IntKind.u8)) a2)] [] (SV.av (AV.one (Lf.v (Value.string z)))) [] :=
 snd_tree (hn := f8_hn) 1 (f8_R a0 a1 a2) mixed (by kernel_rfl) (by kernel_rfl) (by kernel_rfl) (by kernel_rfl) (by kernel_rfl) (f8_v a0 a1 a2) (f8_o a0 a1 a2) h
def f9_hn : Hn := Hn.mk [] [] [] [] [(4, [1, 3, 5, 7, 8]), (9, [5, 7, 9]), (14, [7, 10, 11]), (17, [7, 10, 11, 12]), (21, [7, 10, 11, 13]), (26, [7, 10, 14, 15])]
def f9_l3_D (p3_0 : Int) (p3_1 : List Int) (p3_2 : List Int) (x : List Int × Int) : St := St.mk [(1, SV.av (AV.one (Lf.v (Value.int IntKind.u32 p3_0)))), (3, SV.av (AV.one (Lf.ptr 30300 0 0 0 0))), (5, SV.av (AV.one (Lf.ptr 30301 0 0 0 0))), (7, SV.av (AV.one (Lf.ptr 30302 0 0 0 0))), (8, SV.av (AV.one (Lf.v (Value.int IntKind.i64 (Prod.snd x)))))] [(30300, Blk.cells 22 [Lf.dat (K.arr 32 (K.int IntKind.u8)) p3_1]), (30301, Blk.cells 25 [Lf.dat (K.arr 12 (K.int IntKind.u8)) p3_2]), (30302, Blk.cells 46 [Lf.dat (K.arr 16 (K.int IntKind.u32)) (Prod.fst x)])]
def f9_l3_E0 (p3_0 : Int) (p3_1 : List Int) (p3_2 : List Int) (y : List Int) : St := St.mk [(1, SV.av (AV.one (Lf.v (Value.int IntKind.u32 p3_0)))), (5, SV.av (AV.one (Lf.ptr 60300 0 0 0 0))), (7, SV.av (AV.one (Lf.ptr 60301 0 0 0 0)))] [(60300, Blk.cells 25 [Lf.dat (K.arr 12 (K.int IntKind.u8)) p3_2]), (60301, Blk.cells 46 [Lf.dat (K.arr 16 (K.int IntKind.u32)) y])]
def f9_l3_E (p3_0 : Int) (p3_1 : List Int) (p3_2 : List Int) : List Int → Ex × St
  | y => (Ex.exit 0, f9_l3_E0 p3_0 p3_1 p3_2 y)
noncomputable def f9_l3_t (p3_0 : Int) (p3_1 : List Int) (p3_2 : List Int) (x : List Int × Int) : DT (Ex × St) ((List Int × Int) ⊕ (List Int)) :=
 (.ask (ilt (Prod.snd x) 8)
 (.need (ile 0 (imul IntKind.i64 4 (Prod.snd x))) true
 (.need (ile (imul IntKind.i64 4 (Prod.snd x)) (iadd IntKind.i64 (imul IntKind.i64 4 (Prod.snd x)) 4)) true
 (.need (ile (iadd IntKind.i64 (imul IntKind.i64 4 (Prod.snd x)) 4) 32) true
 (.pick false (.need (nle (Int.toNat (imul IntKind.i64 4 (Prod.snd x)) + (Int.toNat (iadd IntKind.i64 (imul IntKind.i64 4 (Prod.snd x)) 4) - Int.toNat (imul IntKind.i64 4 (Prod.snd x)))) 32) true
 (.call 13 [AV.one (Lf.v (Value.string (strOfNums (List.take (Int.toNat (iadd IntKind.i64 (imul IntKind.i64 4 (Prod.snd x)) 4) - Int.toNat (imul IntKind.i64 4 (Prod.snd x))) (List.drop (Int.toNat (imul IntKind.i64 4 (Prod.snd x))) p3_1)))))] [] (f13_m (strOfNums (List.take (Int.toNat (iadd IntKind.i64 (imul IntKind.i64 4 (Prod.snd x)) 4) - Int.toNat (imul IntKind.i64 4 (Prod.snd x))) (List.drop (Int.toNat (imul IntKind.i64 4 (Prod.snd x))) p3_1)))) (fun z556 => SV.av (AV.one (Lf.v (Value.int IntKind.u32 z556)))) (fun z556 => []) fun z556 =>
 (.need (ile 0 (iadd IntKind.i64 4 (Prod.snd x))) true
 (.need (ilt (iadd IntKind.i64 4 (Prod.snd x)) 16) true
 (.need (nlt (Int.toNat (iadd IntKind.i64 4 (Prod.snd x))) 16) true
 (.leaf (Vam.Ex.normal, St.mk [(1, SV.av (AV.one (Lf.v (Value.int IntKind.u32 p3_0)))), (3, SV.av (AV.one (Lf.ptr 30300 0 0 0 0))), (5, SV.av (AV.one (Lf.ptr 30301 0 0 0 0))), (7, SV.av (AV.one (Lf.ptr 30302 0 0 0 0))), (8, SV.av (AV.one (Lf.v (Value.int IntKind.i64 (iadd IntKind.i64 (Prod.snd x) 1)))))] [(30300, Blk.cells 22 [Lf.dat (K.arr 32 (K.int IntKind.u8)) p3_1]), (30301, Blk.cells 25 [Lf.dat (K.arr 12 (K.int IntKind.u8)) p3_2]), (30302, Blk.cells 46 [Lf.dat (K.arr 16 (K.int IntKind.u32)) (List.set (Prod.fst x) (Int.toNat (iadd IntKind.i64 4 (Prod.snd x))) z556)])]) (.inl ((List.set (Prod.fst x) (Int.toNat (iadd IntKind.i64 4 (Prod.snd x))) z556, iadd IntKind.i64 (Prod.snd x) 1)))))))))))))
 (.leaf (Ex.exit 0, St.mk [(1, SV.av (AV.one (Lf.v (Value.int IntKind.u32 p3_0)))), (3, SV.av (AV.one (Lf.ptr 30300 0 0 0 0))), (5, SV.av (AV.one (Lf.ptr 30301 0 0 0 0))), (7, SV.av (AV.one (Lf.ptr 30302 0 0 0 0))), (8, SV.av (AV.one (Lf.v (Value.int IntKind.i64 (Prod.snd x)))))] [(30300, Blk.cells 22 [Lf.dat (K.arr 32 (K.int IntKind.u8)) p3_1]), (30301, Blk.cells 25 [Lf.dat (K.arr 12 (K.int IntKind.u8)) p3_2]), (30302, Blk.cells 46 [Lf.dat (K.arr 16 (K.int IntKind.u32)) (Prod.fst x)])]) (.inr (Prod.fst x))))
theorem f9_l3_v (p3_0 : Int) (p3_1 : List Int) (p3_2 : List Int) (x : List Int × Int) : vc (execK P noG Try.f9.ntmps f9_hn [1, 3, 5, 7, 8] (loopOf Try.f9 3) (f9_l3_D p3_0 p3_1 p3_2 x)) (f9_l3_t p3_0 p3_1 p3_2 x) = vcT (f9_l3_t p3_0 p3_1 p3_2 x) := by kernel_rfl
theorem f9_l3_o (d : Nat) (p3_0 : Int) (p3_1 : List Int) (p3_2 : List Int) (x : List Int × Int) : obl (Snd P noG) (Lp P noG Try.f9.ntmps [] f9_hn d) (RelL Try.f9.ntmps noG [] (f9_l3_D p3_0 p3_1 p3_2) (f9_l3_E p3_0 p3_1 p3_2)) (f9_l3_t p3_0 p3_1 p3_2 x) := by
 unfold f9_l3_t
 exact (oAsk (fun h0 => (oNeed fun h1 => (oNeed fun h2 => (oNeed fun h3 => (oPick (oNeed fun h4 => (oCall (fun _ e => f13_s e) fun z556 _ =>
 (oNeed fun h5 => (oNeed fun h6 => (oNeed fun h7 => (oLeaf (relN (wk_tw [(30302, 30302), (30301, 30301), (30300, 30300)] [1, 3, 5, 7, 8] [] (by kernel_rfl) (by kernel_rfl))))))))))))))
 (fun h0 => (oLeaf (relE rfl (wk_tw [(30302, 60301), (30301, 60300)] [1, 5, 7] [] (by kernel_rfl) (by kernel_rfl))))))
noncomputable def f9_l3_m (p3_0 : Int) (p3_1 : List Int) (p3_2 : List Int) (x : List Int × Int) : Option (List Int) := lrun (fun x => mod (f9_l3_t p3_0 p3_1 p3_2 x)) x
theorem f9_l3_e (p3_0 : Int) (p3_1 : List Int) (p3_2 : List Int) (x : List Int × Int) : mod (f9_l3_t p3_0 p3_1 p3_2 x) =
 (sel (ilt (Prod.snd x) 8)
 (sel (ile 0 (imul IntKind.i64 4 (Prod.snd x)))
 (sel (ile (imul IntKind.i64 4 (Prod.snd x)) (iadd IntKind.i64 (imul IntKind.i64 4 (Prod.snd x)) 4))
 (sel (ile (iadd IntKind.i64 (imul IntKind.i64 4 (Prod.snd x)) 4) 32)
 (sel (nle (Int.toNat (imul IntKind.i64 4 (Prod.snd x)) + (Int.toNat (iadd IntKind.i64 (imul IntKind.i64 4 (Prod.snd x)) 4) - Int.toNat (imul IntKind.i64 4 (Prod.snd x)))) 32)
 (Option.bind (f13_m (strOfNums (List.take (Int.toNat (iadd IntKind.i64 (imul IntKind.i64 4 (Prod.snd x)) 4) - Int.toNat (imul IntKind.i64 4 (Prod.snd x))) (List.drop (Int.toNat (imul IntKind.i64 4 (Prod.snd x))) p3_1)))) fun z556 =>
 (sel (ile 0 (iadd IntKind.i64 4 (Prod.snd x)))
 (sel (ilt (iadd IntKind.i64 4 (Prod.snd x)) 16)
 (sel (nlt (Int.toNat (iadd IntKind.i64 4 (Prod.snd x))) 16)
 (some ((.inl ((List.set (Prod.fst x) (Int.toNat (iadd IntKind.i64 4 (Prod.snd x))) z556, iadd IntKind.i64 (Prod.snd x) 1))))) none) none) none)) none) none) none) none)
 (some ((.inr (Prod.fst x))))) := by kernel_rfl
theorem f9_l3_s0 (d : Nat) {p3_0 : Int} {p3_1 : List Int} {p3_2 : List Int} {σ : St} {x : List Int × Int} {z : List Int} (h : f9_l3_m p3_0 p3_1 p3_2 x = some z) (hw : Wk Try.f9.ntmps noG [] σ (f9_l3_D p3_0 p3_1 p3_2 x)) : Lp P noG Try.f9.ntmps [] f9_hn (d + 1) (loopOf Try.f9 3) σ (Ex.exit 0) (f9_l3_E0 p3_0 p3_1 p3_2 z) :=
 lp_tree (D := f9_l3_D p3_0 p3_1 p3_2) (E := f9_l3_E p3_0 p3_1 p3_2) (f9_l3_v p3_0 p3_1 p3_2) (f9_l3_o d p3_0 p3_1 p3_2) h hw
def f9_l8_D (p8_17 : List Int) (x : List Int × Int) : St := St.mk [(5, SV.av (AV.one (Lf.ptr 30800 0 0 0 0))), (7, SV.av (AV.one (Lf.ptr 30801 0 0 0 0))), (9, SV.av (AV.one (Lf.v (Value.int IntKind.i64 (Prod.snd x)))))] [(30800, Blk.cells 25 [Lf.dat (K.arr 12 (K.int IntKind.u8)) p8_17]), (30801, Blk.cells 46 [Lf.dat (K.arr 16 (K.int IntKind.u32)) (Prod.fst x)])]
def f9_l8_E0 (p8_17 : List Int) (y : List Int) : St := St.mk [(7, SV.av (AV.one (Lf.ptr 60800 0 0 0 0)))] [(60800, Blk.cells 46 [Lf.dat (K.arr 16 (K.int IntKind.u32)) y])]
def f9_l8_E (p8_17 : List Int) : List Int → Ex × St
  | y => (Ex.exit 2, f9_l8_E0 p8_17 y)
noncomputable def f9_l8_t (p8_17 : List Int) (x : List Int × Int) : DT (Ex × St) ((List Int × Int) ⊕ (List Int)) :=
 (.ask (ilt (Prod.snd x) 3)
 (.need (ile 0 (imul IntKind.i64 4 (Prod.snd x))) true
 (.need (ile (imul IntKind.i64 4 (Prod.snd x)) (iadd IntKind.i64 (imul IntKind.i64 4 (Prod.snd x)) 4)) true
 (.need (ile (iadd IntKind.i64 (imul IntKind.i64 4 (Prod.snd x)) 4) 12) true
 (.pick false (.need (nle (Int.toNat (imul IntKind.i64 4 (Prod.snd x)) + (Int.toNat (iadd IntKind.i64 (imul IntKind.i64 4 (Prod.snd x)) 4) - Int.toNat (imul IntKind.i64 4 (Prod.snd x)))) 12) true
 (.call 13 [AV.one (Lf.v (Value.string (strOfNums (List.take (Int.toNat (iadd IntKind.i64 (imul IntKind.i64 4 (Prod.snd x)) 4) - Int.toNat (imul IntKind.i64 4 (Prod.snd x))) (List.drop (Int.toNat (imul IntKind.i64 4 (Prod.snd x))) p8_17)))))] [] (f13_m (strOfNums (List.take (Int.toNat (iadd IntKind.i64 (imul IntKind.i64 4 (Prod.snd x)) 4) - Int.toNat (imul IntKind.i64 4 (Prod.snd x))) (List.drop (Int.toNat (imul IntKind.i64 4 (Prod.snd x))) p8_17)))) (fun z561 => SV.av (AV.one (Lf.v (Value.int IntKind.u32 z561)))) (fun z561 => []) fun z561 =>
 (.need (ile 0 (iadd IntKind.i64 13 (Prod.snd x))) true
 (.need (ilt (iadd IntKind.i64 13 (Prod.snd x)) 16) true
 (.need (nlt (Int.toNat (iadd IntKind.i64 13 (Prod.snd x))) 16) true
 (.leaf (Vam.Ex.normal, St.mk [(5, SV.av (AV.one (Lf.ptr 30800 0 0 0 0))), (7, SV.av (AV.one (Lf.ptr 30801 0 0 0 0))), (9, SV.av (AV.one (Lf.v (Value.int IntKind.i64 (iadd IntKind.i64 (Prod.snd x) 1)))))] [(30800, Blk.cells 25 [Lf.dat (K.arr 12 (K.int IntKind.u8)) p8_17]), (30801, Blk.cells 46 [Lf.dat (K.arr 16 (K.int IntKind.u32)) (List.set (Prod.fst x) (Int.toNat (iadd IntKind.i64 13 (Prod.snd x))) z561)])]) (.inl ((List.set (Prod.fst x) (Int.toNat (iadd IntKind.i64 13 (Prod.snd x))) z561, iadd IntKind.i64 (Prod.snd x) 1)))))))))))))
 (.leaf (Ex.exit 2, St.mk [(5, SV.av (AV.one (Lf.ptr 30800 0 0 0 0))), (7, SV.av (AV.one (Lf.ptr 30801 0 0 0 0))), (9, SV.av (AV.one (Lf.v (Value.int IntKind.i64 (Prod.snd x)))))] [(30800, Blk.cells 25 [Lf.dat (K.arr 12 (K.int IntKind.u8)) p8_17]), (30801, Blk.cells 46 [Lf.dat (K.arr 16 (K.int IntKind.u32)) (Prod.fst x)])]) (.inr (Prod.fst x))))
theorem f9_l8_v (p8_17 : List Int) (x : List Int × Int) : vc (execK P noG Try.f9.ntmps f9_hn [5, 7, 9] (loopOf Try.f9 8) (f9_l8_D p8_17 x)) (f9_l8_t p8_17 x) = vcT (f9_l8_t p8_17 x) := by kernel_rfl
theorem f9_l8_o (d : Nat) (p8_17 : List Int) (x : List Int × Int) : obl (Snd P noG) (Lp P noG Try.f9.ntmps [] f9_hn d) (RelL Try.f9.ntmps noG [] (f9_l8_D p8_17) (f9_l8_E p8_17)) (f9_l8_t p8_17 x) := by
 unfold f9_l8_t
 exact (oAsk (fun h0 => (oNeed fun h1 => (oNeed fun h2 => (oNeed fun h3 => (oPick (oNeed fun h4 => (oCall (fun _ e => f13_s e) fun z561 _ =>
 (oNeed fun h5 => (oNeed fun h6 => (oNeed fun h7 => (oLeaf (relN (wk_tw [(30801, 30801), (30800, 30800)] [5, 7, 9] [] (by kernel_rfl) (by kernel_rfl))))))))))))))
 (fun h0 => (oLeaf (relE rfl (wk_tw [(30801, 60800)] [7] [] (by kernel_rfl) (by kernel_rfl))))))
noncomputable def f9_l8_m (p8_17 : List Int) (x : List Int × Int) : Option (List Int) := lrun (fun x => mod (f9_l8_t p8_17 x)) x
theorem f9_l8_e (p8_17 : List Int) (x : List Int × Int) : mod (f9_l8_t p8_17 x) =
 (sel (ilt (Prod.snd x) 3)
 (sel (ile 0 (imul IntKind.i64 4 (Prod.snd x)))
 (sel (ile (imul IntKind.i64 4 (Prod.snd x)) (iadd IntKind.i64 (imul IntKind.i64 4 (Prod.snd x)) 4))
 (sel (ile (iadd IntKind.i64 (imul IntKind.i64 4 (Prod.snd x)) 4) 12)
 (sel (nle (Int.toNat (imul IntKind.i64 4 (Prod.snd x)) + (Int.toNat (iadd IntKind.i64 (imul IntKind.i64 4 (Prod.snd x)) 4) - Int.toNat (imul IntKind.i64 4 (Prod.snd x)))) 12)
 (Option.bind (f13_m (strOfNums (List.take (Int.toNat (iadd IntKind.i64 (imul IntKind.i64 4 (Prod.snd x)) 4) - Int.toNat (imul IntKind.i64 4 (Prod.snd x))) (List.drop (Int.toNat (imul IntKind.i64 4 (Prod.snd x))) p8_17)))) fun z561 =>
 (sel (ile 0 (iadd IntKind.i64 13 (Prod.snd x)))
 (sel (ilt (iadd IntKind.i64 13 (Prod.snd x)) 16)
 (sel (nlt (Int.toNat (iadd IntKind.i64 13 (Prod.snd x))) 16)
 (some ((.inl ((List.set (Prod.fst x) (Int.toNat (iadd IntKind.i64 13 (Prod.snd x))) z561, iadd IntKind.i64 (Prod.snd x) 1))))) none) none) none)) none) none) none) none)
 (some ((.inr (Prod.fst x))))) := by kernel_rfl
theorem f9_l8_s0 (d : Nat) {p8_17 : List Int} {σ : St} {x : List Int × Int} {z : List Int} (h : f9_l8_m p8_17 x = some z) (hw : Wk Try.f9.ntmps noG [] σ (f9_l8_D p8_17 x)) : Lp P noG Try.f9.ntmps [] f9_hn (d + 1) (loopOf Try.f9 8) σ (Ex.exit 2) (f9_l8_E0 p8_17 z) :=
 lp_tree (D := f9_l8_D p8_17) (E := f9_l8_E p8_17) (f9_l8_v p8_17) (f9_l8_o d p8_17) h hw
def f9_l16_D (p16_56 : List Int) (p16_309 : Int) (x : List Int × Int) : St := St.mk [(7, SV.av (AV.one (Lf.ptr 31600 0 0 0 0))), (10, SV.av (AV.one (Lf.ptr 31601 0 0 0 0))), (11, SV.av (AV.one (Lf.v (Value.int IntKind.i64 p16_309)))), (12, SV.av (AV.one (Lf.v (Value.int IntKind.i64 (Prod.snd x)))))] [(31600, Blk.cells 46 [Lf.dat (K.arr 16 (K.int IntKind.u32)) p16_56]), (31601, Blk.cells 46 [Lf.dat (K.arr 16 (K.int IntKind.u32)) (Prod.fst x)])]
def f9_l16_E0 (p16_56 : List Int) (p16_309 : Int) (y : List Int) : St := St.mk [(7, SV.av (AV.one (Lf.ptr 61600 0 0 0 0))), (10, SV.av (AV.one (Lf.ptr 61601 0 0 0 0))), (11, SV.av (AV.one (Lf.v (Value.int IntKind.i64 p16_309))))] [(61600, Blk.cells 46 [Lf.dat (K.arr 16 (K.int IntKind.u32)) p16_56]), (61601, Blk.cells 46 [Lf.dat (K.arr 16 (K.int IntKind.u32)) y])]
def f9_l16_E (p16_56 : List Int) (p16_309 : Int) : List Int → Ex × St
  | y => (Ex.exit 6, f9_l16_E0 p16_56 p16_309 y)
noncomputable def f9_l16_t (p16_56 : List Int) (p16_309 : Int) (x : List Int × Int) : DT (Ex × St) ((List Int × Int) ⊕ (List Int)) :=
 (.ask (ilt (Prod.snd x) 4)
 (.call 14 [AV.one (Lf.dat (K.arr 16 (K.int IntKind.u32)) (Prod.fst x)), AV.one (Lf.v (Value.int IntKind.i64 (Prod.snd x))), AV.one (Lf.v (Value.int IntKind.i64 (iadd IntKind.i64 4 (Prod.snd x)))), AV.one (Lf.v (Value.int IntKind.i64 (iadd IntKind.i64 8 (Prod.snd x)))), AV.one (Lf.v (Value.int IntKind.i64 (iadd IntKind.i64 12 (Prod.snd x))))] [] (f14_m (Prod.fst x) (Prod.snd x) (iadd IntKind.i64 4 (Prod.snd x)) (iadd IntKind.i64 8 (Prod.snd x)) (iadd IntKind.i64 12 (Prod.snd x))) (fun z578 => SV.av (AV.one (Lf.dat (K.arr 16 (K.int IntKind.u32)) z578))) (fun z578 => []) fun z578 =>
 (.leaf (Vam.Ex.normal, St.mk [(7, SV.av (AV.one (Lf.ptr 31600 0 0 0 0))), (10, SV.av (AV.one (Lf.ptr 31601 0 0 0 0))), (11, SV.av (AV.one (Lf.v (Value.int IntKind.i64 p16_309)))), (12, SV.av (AV.one (Lf.v (Value.int IntKind.i64 (iadd IntKind.i64 (Prod.snd x) 1)))))] [(31600, Blk.cells 46 [Lf.dat (K.arr 16 (K.int IntKind.u32)) p16_56]), (31601, Blk.cells 46 [Lf.dat (K.arr 16 (K.int IntKind.u32)) z578])]) (.inl ((z578, iadd IntKind.i64 (Prod.snd x) 1)))))
 (.leaf (Ex.exit 6, St.mk [(7, SV.av (AV.one (Lf.ptr 31600 0 0 0 0))), (10, SV.av (AV.one (Lf.ptr 31601 0 0 0 0))), (11, SV.av (AV.one (Lf.v (Value.int IntKind.i64 p16_309)))), (12, SV.av (AV.one (Lf.v (Value.int IntKind.i64 (Prod.snd x)))))] [(31600, Blk.cells 46 [Lf.dat (K.arr 16 (K.int IntKind.u32)) p16_56]), (31601, Blk.cells 46 [Lf.dat (K.arr 16 (K.int IntKind.u32)) (Prod.fst x)])]) (.inr (Prod.fst x))))
theorem f9_l16_v (p16_56 : List Int) (p16_309 : Int) (x : List Int × Int) : vc (execK P noG Try.f9.ntmps f9_hn [7, 10, 11, 12] (loopOf Try.f9 16) (f9_l16_D p16_56 p16_309 x)) (f9_l16_t p16_56 p16_309 x) = vcT (f9_l16_t p16_56 p16_309 x) := by kernel_rfl
theorem f9_l16_o (d : Nat) (p16_56 : List Int) (p16_309 : Int) (x : List Int × Int) : obl (Snd P noG) (Lp P noG Try.f9.ntmps [] f9_hn d) (RelL Try.f9.ntmps noG [] (f9_l16_D p16_56 p16_309) (f9_l16_E p16_56 p16_309)) (f9_l16_t p16_56 p16_309 x) := by
 unfold f9_l16_t
 exact (oAsk (fun h0 => (oCall (fun _ e => f14_s e) fun z578 _ =>
 (oLeaf (relN (wk_tw [(31601, 31601), (31600, 31600)] [7, 10, 11, 12] [] (by kernel_rfl) (by kernel_rfl))))))
 (fun h0 => (oLeaf (relE rfl (wk_tw [(31601, 61601), (31600, 61600)] [7, 10, 11] [] (by kernel_rfl) (by kernel_rfl))))))
noncomputable def f9_l16_m (p16_56 : List Int) (p16_309 : Int) (x : List Int × Int) : Option (List Int) := lrun (fun x => mod (f9_l16_t p16_56 p16_309 x)) x
theorem f9_l16_e (p16_56 : List Int) (p16_309 : Int) (x : List Int × Int) : mod (f9_l16_t p16_56 p16_309 x) =
 (sel (ilt (Prod.snd x) 4)
 (Option.bind (f14_m (Prod.fst x) (Prod.snd x) (iadd IntKind.i64 4 (Prod.snd x)) (iadd IntKind.i64 8 (Prod.snd x)) (iadd IntKind.i64 12 (Prod.snd x))) fun z578 =>
 (some ((.inl ((z578, iadd IntKind.i64 (Prod.snd x) 1))))))
 (some ((.inr (Prod.fst x))))) := by kernel_rfl
theorem f9_l16_s0 (d : Nat) {p16_56 : List Int} {p16_309 : Int} {σ : St} {x : List Int × Int} {z : List Int} (h : f9_l16_m p16_56 p16_309 x = some z) (hw : Wk Try.f9.ntmps noG [] σ (f9_l16_D p16_56 p16_309 x)) : Lp P noG Try.f9.ntmps [] f9_hn (d + 1) (loopOf Try.f9 16) σ (Ex.exit 6) (f9_l16_E0 p16_56 p16_309 z) :=
 lp_tree (D := f9_l16_D p16_56 p16_309) (E := f9_l16_E p16_56 p16_309) (f9_l16_v p16_56 p16_309) (f9_l16_o d p16_56 p16_309) h hw
def f9_l20_D (p20_131 : List Int) (p20_363 : Int) (x : List Int × Int) : St := St.mk [(7, SV.av (AV.one (Lf.ptr 32000 0 0 0 0))), (10, SV.av (AV.one (Lf.ptr 32001 0 0 0 0))), (11, SV.av (AV.one (Lf.v (Value.int IntKind.i64 p20_363)))), (13, SV.av (AV.one (Lf.v (Value.int IntKind.i64 (Prod.snd x)))))] [(32000, Blk.cells 46 [Lf.dat (K.arr 16 (K.int IntKind.u32)) p20_131]), (32001, Blk.cells 46 [Lf.dat (K.arr 16 (K.int IntKind.u32)) (Prod.fst x)])]
def f9_l20_E0 (p20_131 : List Int) (p20_363 : Int) (y : List Int) : St := St.mk [(7, SV.av (AV.one (Lf.ptr 62000 0 0 0 0))), (10, SV.av (AV.one (Lf.ptr 62001 0 0 0 0))), (11, SV.av (AV.one (Lf.v (Value.int IntKind.i64 p20_363))))] [(62000, Blk.cells 46 [Lf.dat (K.arr 16 (K.int IntKind.u32)) p20_131]), (62001, Blk.cells 46 [Lf.dat (K.arr 16 (K.int IntKind.u32)) y])]
def f9_l20_E (p20_131 : List Int) (p20_363 : Int) : List Int → Ex × St
  | y => (Ex.exit 8, f9_l20_E0 p20_131 p20_363 y)
noncomputable def f9_l20_t (p20_131 : List Int) (p20_363 : Int) (x : List Int × Int) : DT (Ex × St) ((List Int × Int) ⊕ (List Int)) :=
 (.ask (ilt (Prod.snd x) 4)
 (.sure (true) true
 (.sure (true) true
 (.sure (true) true
 (.call 14 [AV.one (Lf.dat (K.arr 16 (K.int IntKind.u32)) (Prod.fst x)), AV.one (Lf.v (Value.int IntKind.i64 (Prod.snd x))), AV.one (Lf.v (Value.int IntKind.i64 (iadd IntKind.i64 4 (irem (iadd IntKind.i64 (Prod.snd x) 1) 4)))), AV.one (Lf.v (Value.int IntKind.i64 (iadd IntKind.i64 8 (irem (iadd IntKind.i64 (Prod.snd x) 2) 4)))), AV.one (Lf.v (Value.int IntKind.i64 (iadd IntKind.i64 12 (irem (iadd IntKind.i64 (Prod.snd x) 3) 4))))] [] (f14_m (Prod.fst x) (Prod.snd x) (iadd IntKind.i64 4 (irem (iadd IntKind.i64 (Prod.snd x) 1) 4)) (iadd IntKind.i64 8 (irem (iadd IntKind.i64 (Prod.snd x) 2) 4)) (iadd IntKind.i64 12 (irem (iadd IntKind.i64 (Prod.snd x) 3) 4))) (fun z595 => SV.av (AV.one (Lf.dat (K.arr 16 (K.int IntKind.u32)) z595))) (fun z595 => []) fun z595 =>
 (.leaf (Vam.Ex.normal, St.mk [(7, SV.av (AV.one (Lf.ptr 32000 0 0 0 0))), (10, SV.av (AV.one (Lf.ptr 32001 0 0 0 0))), (11, SV.av (AV.one (Lf.v (Value.int IntKind.i64 p20_363)))), (13, SV.av (AV.one (Lf.v (Value.int IntKind.i64 (iadd IntKind.i64 (Prod.snd x) 1)))))] [(32000, Blk.cells 46 [Lf.dat (K.arr 16 (K.int IntKind.u32)) p20_131]), (32001, Blk.cells 46 [Lf.dat (K.arr 16 (K.int IntKind.u32)) z595])]) (.inl ((z595, iadd IntKind.i64 (Prod.snd x) 1))))))))
 (.leaf (Ex.exit 8, St.mk [(7, SV.av (AV.one (Lf.ptr 32000 0 0 0 0))), (10, SV.av (AV.one (Lf.ptr 32001 0 0 0 0))), (11, SV.av (AV.one (Lf.v (Value.int IntKind.i64 p20_363)))), (13, SV.av (AV.one (Lf.v (Value.int IntKind.i64 (Prod.snd x)))))] [(32000, Blk.cells 46 [Lf.dat (K.arr 16 (K.int IntKind.u32)) p20_131]), (32001, Blk.cells 46 [Lf.dat (K.arr 16 (K.int IntKind.u32)) (Prod.fst x)])]) (.inr (Prod.fst x))))
theorem f9_l20_v (p20_131 : List Int) (p20_363 : Int) (x : List Int × Int) : vc (execK P noG Try.f9.ntmps f9_hn [7, 10, 11, 13] (loopOf Try.f9 20) (f9_l20_D p20_131 p20_363 x)) (f9_l20_t p20_131 p20_363 x) = vcT (f9_l20_t p20_131 p20_363 x) := by kernel_rfl
theorem f9_l20_o (d : Nat) (p20_131 : List Int) (p20_363 : Int) (x : List Int × Int) : obl (Snd P noG) (Lp P noG Try.f9.ntmps [] f9_hn d) (RelL Try.f9.ntmps noG [] (f9_l20_D p20_131 p20_363) (f9_l20_E p20_131 p20_363)) (f9_l20_t p20_131 p20_363 x) := by
 unfold f9_l20_t
 exact (oAsk (fun h0 => (oSure rfl (oSure rfl (oSure rfl (oCall (fun _ e => f14_s e) fun z595 _ =>
 (oLeaf (relN (wk_tw [(32001, 32001), (32000, 32000)] [7, 10, 11, 13] [] (by kernel_rfl) (by kernel_rfl)))))))))
 (fun h0 => (oLeaf (relE rfl (wk_tw [(32001, 62001), (32000, 62000)] [7, 10, 11] [] (by kernel_rfl) (by kernel_rfl))))))
noncomputable def f9_l20_m (p20_131 : List Int) (p20_363 : Int) (x : List Int × Int) : Option (List Int) := lrun (fun x => mod (f9_l20_t p20_131 p20_363 x)) x
theorem f9_l20_e (p20_131 : List Int) (p20_363 : Int) (x : List Int × Int) : mod (f9_l20_t p20_131 p20_363 x) =
 (sel (ilt (Prod.snd x) 4)
 (Option.bind (f14_m (Prod.fst x) (Prod.snd x) (iadd IntKind.i64 4 (irem (iadd IntKind.i64 (Prod.snd x) 1) 4)) (iadd IntKind.i64 8 (irem (iadd IntKind.i64 (Prod.snd x) 2) 4)) (iadd IntKind.i64 12 (irem (iadd IntKind.i64 (Prod.snd x) 3) 4))) fun z595 =>
 (some ((.inl ((z595, iadd IntKind.i64 (Prod.snd x) 1))))))
 (some ((.inr (Prod.fst x))))) := by kernel_rfl
theorem f9_l20_s0 (d : Nat) {p20_131 : List Int} {p20_363 : Int} {σ : St} {x : List Int × Int} {z : List Int} (h : f9_l20_m p20_131 p20_363 x = some z) (hw : Wk Try.f9.ntmps noG [] σ (f9_l20_D p20_131 p20_363 x)) : Lp P noG Try.f9.ntmps [] f9_hn (d + 1) (loopOf Try.f9 20) σ (Ex.exit 8) (f9_l20_E0 p20_131 p20_363 z) :=
 lp_tree (D := f9_l20_D p20_131 p20_363) (E := f9_l20_E p20_131 p20_363) (f9_l20_v p20_131 p20_363) (f9_l20_o d p20_131 p20_363) h hw
def f9_l25_D (p25_350 : List Int) (p25_351 : List Int) (x : List Int × Int) : St := St.mk [(7, SV.av (AV.one (Lf.ptr 32500 0 0 0 0))), (10, SV.av (AV.one (Lf.ptr 32501 0 0 0 0))), (14, SV.av (AV.one (Lf.own 32551 0 0 (List.length (Prod.fst x)) 1))), (15, SV.av (AV.one (Lf.v (Value.int IntKind.i64 (Prod.snd x)))))] [(32500, Blk.cells 46 [Lf.dat (K.arr 16 (K.int IntKind.u32)) p25_350]), (32501, Blk.cells 46 [Lf.dat (K.arr 16 (K.int IntKind.u32)) p25_351]), (32551, Blk.row 5 (K.int IntKind.u8) (Prod.fst x))]
def f9_l25_E0 (p25_350 : List Int) (p25_351 : List Int) (y : List Int) : St := St.mk [(14, SV.av (AV.one (Lf.own 62500 0 0 (List.length y) 1)))] [(62500, Blk.row 5 (K.int IntKind.u8) y)]
def f9_l25_E (p25_350 : List Int) (p25_351 : List Int) : List Int → Ex × St
  | y => (Ex.exit 10, f9_l25_E0 p25_350 p25_351 y)
def f9_s0 (x : List Int × Int) (p25_351 : List Int) (p25_350 : List Int) : List Int := List.append (Prod.fst x) [icv IntKind.u8 (iadd IntKind.u32 (gd (K.int IntKind.u32) p25_351 (Int.toNat (Prod.snd x))) (gd (K.int IntKind.u32) p25_350 (Int.toNat (Prod.snd x)))), icv IntKind.u8 (shr IntKind.u32 (iadd IntKind.u32 (gd (K.int IntKind.u32) p25_351 (Int.toNat (Prod.snd x))) (gd (K.int IntKind.u32) p25_350 (Int.toNat (Prod.snd x)))) 8), icv IntKind.u8 (shr IntKind.u32 (iadd IntKind.u32 (gd (K.int IntKind.u32) p25_351 (Int.toNat (Prod.snd x))) (gd (K.int IntKind.u32) p25_350 (Int.toNat (Prod.snd x)))) 16), icv IntKind.u8 (shr IntKind.u32 (iadd IntKind.u32 (gd (K.int IntKind.u32) p25_351 (Int.toNat (Prod.snd x))) (gd (K.int IntKind.u32) p25_350 (Int.toNat (Prod.snd x)))) 24)]
noncomputable def f9_l25_t (p25_350 : List Int) (p25_351 : List Int) (x : List Int × Int) : DT (Ex × St) ((List Int × Int) ⊕ (List Int)) :=
 (.ask (ilt (Prod.snd x) 16)
 (.need (ile 0 (Prod.snd x)) true
 (.sure (ilt (Prod.snd x) 16) true
 (.need (nlt (Int.toNat (Prod.snd x)) 16) true
 (.sure (ile 0 (Prod.snd x)) true
 (.sure (ilt (Prod.snd x) 16) true
 (.sure (nlt (Int.toNat (Prod.snd x)) 16) true
 (.sure (true) true
 (.sure (true) true
 (.sure (true) true
 (.pick true (.sure (true) true
 (.pick true (.sure (true) true
 (.sure (nEq (List.length (Prod.fst x)) (List.length (Prod.fst x))) true
 (.need (nle (List.length (f9_s0 x p25_351 p25_350)) 9223372036854775807) true
 (.need (nle (List.length (f9_s0 x p25_351 p25_350) * 1) 140737488355328) true
 (.leaf (Vam.Ex.normal, St.mk [(7, SV.av (AV.one (Lf.ptr 32500 0 0 0 0))), (10, SV.av (AV.one (Lf.ptr 32501 0 0 0 0))), (14, SV.av (AV.one (Lf.own 111 0 0 (List.length (f9_s0 x p25_351 p25_350)) 1))), (15, SV.av (AV.one (Lf.v (Value.int IntKind.i64 (iadd IntKind.i64 (Prod.snd x) 1)))))] [(110, Blk.row 5 (K.int IntKind.u8) [icv IntKind.u8 (iadd IntKind.u32 (gd (K.int IntKind.u32) p25_351 (Int.toNat (Prod.snd x))) (gd (K.int IntKind.u32) p25_350 (Int.toNat (Prod.snd x)))), icv IntKind.u8 (shr IntKind.u32 (iadd IntKind.u32 (gd (K.int IntKind.u32) p25_351 (Int.toNat (Prod.snd x))) (gd (K.int IntKind.u32) p25_350 (Int.toNat (Prod.snd x)))) 8), icv IntKind.u8 (shr IntKind.u32 (iadd IntKind.u32 (gd (K.int IntKind.u32) p25_351 (Int.toNat (Prod.snd x))) (gd (K.int IntKind.u32) p25_350 (Int.toNat (Prod.snd x)))) 16), icv IntKind.u8 (shr IntKind.u32 (iadd IntKind.u32 (gd (K.int IntKind.u32) p25_351 (Int.toNat (Prod.snd x))) (gd (K.int IntKind.u32) p25_350 (Int.toNat (Prod.snd x)))) 24)]), (111, Blk.row 5 (K.int IntKind.u8) (f9_s0 x p25_351 p25_350)), (32500, Blk.cells 46 [Lf.dat (K.arr 16 (K.int IntKind.u32)) p25_350]), (32501, Blk.cells 46 [Lf.dat (K.arr 16 (K.int IntKind.u32)) p25_351]), (32551, Blk.dead)]) (.inl ((f9_s0 x p25_351 p25_350, iadd IntKind.i64 (Prod.snd x) 1))))))))))))))))))))
 (.leaf (Ex.exit 10, St.mk [(7, SV.av (AV.one (Lf.ptr 32500 0 0 0 0))), (10, SV.av (AV.one (Lf.ptr 32501 0 0 0 0))), (14, SV.av (AV.one (Lf.own 32551 0 0 (List.length (Prod.fst x)) 1))), (15, SV.av (AV.one (Lf.v (Value.int IntKind.i64 (Prod.snd x)))))] [(32500, Blk.cells 46 [Lf.dat (K.arr 16 (K.int IntKind.u32)) p25_350]), (32501, Blk.cells 46 [Lf.dat (K.arr 16 (K.int IntKind.u32)) p25_351]), (32551, Blk.row 5 (K.int IntKind.u8) (Prod.fst x))]) (.inr (Prod.fst x))))
theorem f9_l25_v (p25_350 : List Int) (p25_351 : List Int) (x : List Int × Int) : vc (execK P noG Try.f9.ntmps f9_hn [7, 10, 14, 15] (loopOf Try.f9 25) (f9_l25_D p25_350 p25_351 x)) (f9_l25_t p25_350 p25_351 x) = vcT (f9_l25_t p25_350 p25_351 x) := by kernel_rfl
theorem f9_l25_o (d : Nat) (p25_350 : List Int) (p25_351 : List Int) (x : List Int × Int) : obl (Snd P noG) (Lp P noG Try.f9.ntmps [] f9_hn d) (RelL Try.f9.ntmps noG [] (f9_l25_D p25_350 p25_351) (f9_l25_E p25_350 p25_351)) (f9_l25_t p25_350 p25_351 x) := by
 unfold f9_l25_t
 exact (oAsk (fun h0 => (oNeed fun h1 => (oSure h0 (oNeed fun h2 => (oSure h1 (oSure h0 (oSure h2 (oSure rfl (oSure rfl (oSure rfl (oPick (oSure rfl (oPick (oSure rfl (oSure (nEq_t.2 rfl) (oNeed fun h3 => (oNeed fun h4 => (oLeaf (relN (wk_tw [(111, 32551), (32501, 32501), (32500, 32500)] [7, 10, 14, 15] [] (by kernel_rfl) (by kernel_rfl)))))))))))))))))))))
 (fun h0 => (oLeaf (relE rfl (wk_tw [(32551, 62500)] [14] [] (by kernel_rfl) (by kernel_rfl))))))
noncomputable def f9_l25_m (p25_350 : List Int) (p25_351 : List Int) (x : List Int × Int) : Option (List Int) := lrun (fun x => mod (f9_l25_t p25_350 p25_351 x)) x
theorem f9_l25_e (p25_350 : List Int) (p25_351 : List Int) (x : List Int × Int) : mod (f9_l25_t p25_350 p25_351 x) =
 (sel (ilt (Prod.snd x) 16)
 (sel (ile 0 (Prod.snd x))
 (sel (nlt (Int.toNat (Prod.snd x)) 16)
 (sel (nle (List.length (f9_s0 x p25_351 p25_350)) 9223372036854775807)
 (sel (nle (List.length (f9_s0 x p25_351 p25_350) * 1) 140737488355328)
 (some ((.inl ((f9_s0 x p25_351 p25_350, iadd IntKind.i64 (Prod.snd x) 1))))) none) none) none) none)
 (some ((.inr (Prod.fst x))))) := by kernel_rfl
theorem f9_l25_s0 (d : Nat) {p25_350 : List Int} {p25_351 : List Int} {σ : St} {x : List Int × Int} {z : List Int} (h : f9_l25_m p25_350 p25_351 x = some z) (hw : Wk Try.f9.ntmps noG [] σ (f9_l25_D p25_350 p25_351 x)) : Lp P noG Try.f9.ntmps [] f9_hn (d + 1) (loopOf Try.f9 25) σ (Ex.exit 10) (f9_l25_E0 p25_350 p25_351 z) :=
 lp_tree (D := f9_l25_D p25_350 p25_351) (E := f9_l25_E p25_350 p25_351) (f9_l25_v p25_350 p25_351) (f9_l25_o d p25_350 p25_351) h hw
def f9_l13_D (p13_45 : List Int) (x : List Int × Int) : St := St.mk [(7, SV.av (AV.one (Lf.ptr 31300 0 0 0 0))), (10, SV.av (AV.one (Lf.ptr 31301 0 0 0 0))), (11, SV.av (AV.one (Lf.v (Value.int IntKind.i64 (Prod.snd x)))))] [(31300, Blk.cells 46 [Lf.dat (K.arr 16 (K.int IntKind.u32)) p13_45]), (31301, Blk.cells 46 [Lf.dat (K.arr 16 (K.int IntKind.u32)) (Prod.fst x)])]
def f9_l13_E0 (p13_45 : List Int) (y : List Int) : St := St.mk [(7, SV.av (AV.one (Lf.ptr 61300 0 0 0 0))), (10, SV.av (AV.one (Lf.ptr 61301 0 0 0 0)))] [(61300, Blk.cells 46 [Lf.dat (K.arr 16 (K.int IntKind.u32)) p13_45]), (61301, Blk.cells 46 [Lf.dat (K.arr 16 (K.int IntKind.u32)) y])]
def f9_l13_E (p13_45 : List Int) : List Int → Ex × St
  | y => (Ex.exit 4, f9_l13_E0 p13_45 y)
noncomputable def f9_l13_t (p13_45 : List Int) (x : List Int × Int) : DT (Ex × St) ((List Int × Int) ⊕ (List Int)) :=
 (.ask (ilt (Prod.snd x) 10)
 (.loop (loopOf Try.f9 16) (St.mk [(7, SV.av (AV.one (Lf.ptr 31300 0 0 0 0))), (10, SV.av (AV.one (Lf.ptr 31301 0 0 0 0))), (11, SV.av (AV.one (Lf.v (Value.int IntKind.i64 (Prod.snd x))))), (12, SV.av (AV.one (Lf.v (Value.int IntKind.i64 0))))] [(31300, Blk.cells 46 [Lf.dat (K.arr 16 (K.int IntKind.u32)) p13_45]), (31301, Blk.cells 46 [Lf.dat (K.arr 16 (K.int IntKind.u32)) (Prod.fst x)])]) (f9_l16_m p13_45 (Prod.snd x) (Prod.fst x, 0)) (Ex.exit 6) (f9_l16_E0 p13_45 (Prod.snd x)) fun z596 =>
 (.loop (loopOf Try.f9 20) (St.mk [(7, SV.av (AV.one (Lf.ptr 61600 0 0 0 0))), (10, SV.av (AV.one (Lf.ptr 61601 0 0 0 0))), (11, SV.av (AV.one (Lf.v (Value.int IntKind.i64 (Prod.snd x))))), (13, SV.av (AV.one (Lf.v (Value.int IntKind.i64 0))))] [(61600, Blk.cells 46 [Lf.dat (K.arr 16 (K.int IntKind.u32)) p13_45]), (61601, Blk.cells 46 [Lf.dat (K.arr 16 (K.int IntKind.u32)) z596])]) (f9_l20_m p13_45 (Prod.snd x) (z596, 0)) (Ex.exit 8) (f9_l20_E0 p13_45 (Prod.snd x)) fun z597 =>
 (.leaf (Vam.Ex.normal, St.mk [(7, SV.av (AV.one (Lf.ptr 62000 0 0 0 0))), (10, SV.av (AV.one (Lf.ptr 62001 0 0 0 0))), (11, SV.av (AV.one (Lf.v (Value.int IntKind.i64 (iadd IntKind.i64 (Prod.snd x) 1)))))] [(62000, Blk.cells 46 [Lf.dat (K.arr 16 (K.int IntKind.u32)) p13_45]), (62001, Blk.cells 46 [Lf.dat (K.arr 16 (K.int IntKind.u32)) z597])]) (.inl ((z597, iadd IntKind.i64 (Prod.snd x) 1))))))
 (.leaf (Ex.exit 4, St.mk [(7, SV.av (AV.one (Lf.ptr 31300 0 0 0 0))), (10, SV.av (AV.one (Lf.ptr 31301 0 0 0 0))), (11, SV.av (AV.one (Lf.v (Value.int IntKind.i64 (Prod.snd x)))))] [(31300, Blk.cells 46 [Lf.dat (K.arr 16 (K.int IntKind.u32)) p13_45]), (31301, Blk.cells 46 [Lf.dat (K.arr 16 (K.int IntKind.u32)) (Prod.fst x)])]) (.inr (Prod.fst x))))
theorem f9_l13_v (p13_45 : List Int) (x : List Int × Int) : vc (execK P noG Try.f9.ntmps f9_hn [7, 10, 11] (loopOf Try.f9 13) (f9_l13_D p13_45 x)) (f9_l13_t p13_45 x) = vcT (f9_l13_t p13_45 x) := by kernel_rfl
theorem f9_l13_o (d : Nat) (p13_45 : List Int) (x : List Int × Int) : obl (Snd P noG) (Lp P noG Try.f9.ntmps [] f9_hn (d + 1)) (RelL Try.f9.ntmps noG [] (f9_l13_D p13_45) (f9_l13_E p13_45)) (f9_l13_t p13_45 x) := by
 unfold f9_l13_t
 exact (oAsk (fun h0 => (oLoop (fun _ e => f9_l16_s0 d e (wk_tw [(31301, 31601), (31300, 31600)] [7, 10, 11, 12] [] (by kernel_rfl) (by kernel_rfl))) fun z596 _ =>
 (oLoop (fun _ e => f9_l20_s0 d e (wk_tw [(61601, 32001), (61600, 32000)] [7, 10, 11, 13] [] (by kernel_rfl) (by kernel_rfl))) fun z597 _ =>
 (oLeaf (relN (wk_tw [(62001, 31301), (62000, 31300)] [7, 10, 11] [] (by kernel_rfl) (by kernel_rfl)))))))
 (fun h0 => (oLeaf (relE rfl (wk_tw [(31301, 61301), (31300, 61300)] [7, 10] [] (by kernel_rfl) (by kernel_rfl))))))
noncomputable def f9_l13_m (p13_45 : List Int) (x : List Int × Int) : Option (List Int) := lrun (fun x => mod (f9_l13_t p13_45 x)) x
theorem f9_l13_e (p13_45 : List Int) (x : List Int × Int) : mod (f9_l13_t p13_45 x) =
 (sel (ilt (Prod.snd x) 10)
 (Option.bind (f9_l16_m p13_45 (Prod.snd x) (Prod.fst x, 0)) fun z596 =>
 (Option.bind (f9_l20_m p13_45 (Prod.snd x) (z596, 0)) fun z597 =>
 (some ((.inl ((z597, iadd IntKind.i64 (Prod.snd x) 1)))))))
 (some ((.inr (Prod.fst x))))) := by kernel_rfl
theorem f9_l13_s0 (d : Nat) {p13_45 : List Int} {σ : St} {x : List Int × Int} {z : List Int} (h : f9_l13_m p13_45 x = some z) (hw : Wk Try.f9.ntmps noG [] σ (f9_l13_D p13_45 x)) : Lp P noG Try.f9.ntmps [] f9_hn (d + 2) (loopOf Try.f9 13) σ (Ex.exit 4) (f9_l13_E0 p13_45 z) :=
 lp_tree (D := f9_l13_D p13_45) (E := f9_l13_E p13_45) (f9_l13_v p13_45) (f9_l13_o d p13_45) h hw
def f9_R (a0 : List Int) (a1 : Int) (a2 : List Int) : ByteArray → SV × Hp
  | z => (SV.av (AV.one (Lf.v (Value.string z))), [])
noncomputable def f9_t (a0 : List Int) (a1 : Int) (a2 : List Int) : DT (SV × Hp) (ByteArray) :=
 (.loop (loopOf Try.f9 3) (St.mk [(1, SV.av (AV.one (Lf.v (Value.int IntKind.u32 a1)))), (3, SV.av (AV.one (Lf.ptr 3 0 0 0 0))), (5, SV.av (AV.one (Lf.ptr 5 0 0 0 0))), (7, SV.av (AV.one (Lf.ptr 7 0 0 0 0))), (8, SV.av (AV.one (Lf.v (Value.int IntKind.i64 0))))] [(3, Blk.cells 22 [Lf.dat (K.arr 32 (K.int IntKind.u8)) a0]), (5, Blk.cells 25 [Lf.dat (K.arr 12 (K.int IntKind.u8)) a2]), (7, Blk.cells 46 [Lf.dat (K.arr 16 (K.int IntKind.u32)) [1634760805, 857760878, 2036477234, 1797285236, 0, 0, 0, 0, 0, 0, 0, 0, 0, 0, 0, 0]])]) (f9_l3_m a1 a0 a2 ([1634760805, 857760878, 2036477234, 1797285236, 0, 0, 0, 0, 0, 0, 0, 0, 0, 0, 0, 0], 0)) (Ex.exit 0) (f9_l3_E0 a1 a0 a2) fun z598 =>
 (.sure (true) true
 (.sure (true) true
 (.sure (true) true
 (.loop (loopOf Try.f9 8) (St.mk [(5, SV.av (AV.one (Lf.ptr 60300 0 0 0 0))), (7, SV.av (AV.one (Lf.ptr 60301 0 0 0 0))), (9, SV.av (AV.one (Lf.v (Value.int IntKind.i64 0))))] [(60300, Blk.cells 25 [Lf.dat (K.arr 12 (K.int IntKind.u8)) a2]), (60301, Blk.cells 46 [Lf.dat (K.arr 16 (K.int IntKind.u32)) (List.set z598 12 a1)])]) (f9_l8_m a2 (List.set z598 12 a1, 0)) (Ex.exit 2) (f9_l8_E0 a2) fun z599 =>
 (.loop (loopOf Try.f9 13) (St.mk [(7, SV.av (AV.one (Lf.ptr 60800 0 0 0 0))), (10, SV.av (AV.one (Lf.ptr 10 0 0 0 0))), (11, SV.av (AV.one (Lf.v (Value.int IntKind.i64 0))))] [(10, Blk.cells 46 [Lf.dat (K.arr 16 (K.int IntKind.u32)) z599]), (60800, Blk.cells 46 [Lf.dat (K.arr 16 (K.int IntKind.u32)) z599])]) (f9_l13_m z599 (z599, 0)) (Ex.exit 4) (f9_l13_E0 z599) fun z600 =>
 (.loop (loopOf Try.f9 25) (St.mk [(7, SV.av (AV.one (Lf.ptr 61300 0 0 0 0))), (10, SV.av (AV.one (Lf.ptr 61301 0 0 0 0))), (14, SV.av (AV.one (Lf.v (Value.slice none 0 0)))), (15, SV.av (AV.one (Lf.v (Value.int IntKind.i64 0))))] [(61300, Blk.cells 46 [Lf.dat (K.arr 16 (K.int IntKind.u32)) z599]), (61301, Blk.cells 46 [Lf.dat (K.arr 16 (K.int IntKind.u32)) z600])]) (f9_l25_m z599 z600 ([], 0)) (Ex.exit 10) (f9_l25_E0 z599 z600) fun z601 =>
 (.pick true (.sure (nEq (List.length z601) (List.length z601)) true
 (.leaf (SV.av (AV.one (Lf.v (Value.string (strOfNums z601)))), [(62500, Blk.row 5 (K.int IntKind.u8) z601)]) (strOfNums z601)))))))))))
theorem f9_v (a0 : List Int) (a1 : Int) (a2 : List Int) : vc (runR P noG Try.f9 f9_hn [AV.one (Lf.dat (K.arr 32 (K.int IntKind.u8)) a0), AV.one (Lf.v (Value.int IntKind.u32 a1)), AV.one (Lf.dat (K.arr 12 (K.int IntKind.u8)) a2)] []) (f9_t a0 a1 a2) = vcT (f9_t a0 a1 a2) := by kernel_rfl
theorem f9_o (a0 : List Int) (a1 : Int) (a2 : List Int) : obl (Snd P noG) (Lp P noG Try.f9.ntmps [] f9_hn 2) (RelF [] (f9_R a0 a1 a2)) (f9_t a0 a1 a2) := by
 unfold f9_t
 exact (oLoop (fun _ e => f9_l3_s0 1 e (wk_tw [(7, 30302), (5, 30301), (3, 30300)] [1, 3, 5, 7, 8] [] (by kernel_rfl) (by kernel_rfl))) fun z598 _ =>
 (oSure rfl (oSure rfl (oSure rfl (oLoop (fun _ e => f9_l8_s0 1 e (wk_tw [(60301, 30801), (60300, 30800)] [5, 7, 9] [] (by kernel_rfl) (by kernel_rfl))) fun z599 _ =>
 (oLoop (fun _ e => f9_l13_s0 0 e (wk_tw [(10, 31301), (60800, 31300)] [7, 10, 11] [] (by kernel_rfl) (by kernel_rfl))) fun z600 _ =>
 (oLoop (fun _ e => f9_l25_s0 1 e (wk_tw [(61301, 32501), (61300, 32500)] [7, 10, 14, 15] [(32551, 5, K.int IntKind.u8)] (by kernel_rfl) (by kernel_rfl))) fun z601 _ =>
 (oPick (oSure (nEq_t.2 rfl) (oLeaf (wks_tw [] [] (by kernel_rfl) (by kernel_rfl))))))))))))
noncomputable def f9_m (a0 : List Int) (a1 : Int) (a2 : List Int) : Option (ByteArray) := mod (f9_t a0 a1 a2)
theorem f9_e (a0 : List Int) (a1 : Int) (a2 : List Int) : f9_m a0 a1 a2 =
 (Option.bind (f9_l3_m a1 a0 a2 ([1634760805, 857760878, 2036477234, 1797285236, 0, 0, 0, 0, 0, 0, 0, 0, 0, 0, 0, 0], 0)) fun z598 =>
 (Option.bind (f9_l8_m a2 (List.set z598 12 a1, 0)) fun z599 =>
 (Option.bind (f9_l13_m z599 (z599, 0)) fun z600 =>
 (Option.bind (f9_l25_m z599 z600 ([], 0)) fun z601 =>
 (some ((strOfNums z601))))))) := by kernel_rfl
theorem f9_s {a0 : List Int} {a1 : Int} {a2 : List Int} {z : ByteArray} (h : f9_m a0 a1 a2 = some z) : Snd P noG 9 [AV.one (Lf.dat (K.arr 32 (K.int IntKind.u8)) a0), AV.one (Lf.v (Value.int IntKind.u32 a1)), AV.one (Lf.dat (K.arr 12 (K.int IntKind.u8)) a2)] [] (SV.av (AV.one (Lf.v (Value.string z)))) [] :=
 snd_tree (hn := f9_hn) 2 (f9_R a0 a1 a2) mixed (by kernel_rfl) (by kernel_rfl) (by kernel_rfl) (by kernel_rfl) (by kernel_rfl) (f9_v a0 a1 a2) (f9_o a0 a1 a2) h
def f10_hn : Hn := Hn.mk [] [] [] [] [(4, [1, 4, 6, 9, 10]), (8, [1, 4, 6, 9, 10, 11, 12])]
def f10_l7_D (p7_16 : Int) (p7_17 : Nat) (p7_18 : List Int) (p7_19 : List Int) (p7_21 : List Int) (p7_66 : Int) (x : List Int × Int) : St := St.mk [(1, SV.av (AV.one (Lf.v (Value.int IntKind.u32 p7_16)))), (4, SV.av (AV.one (Lf.ptr 30700 0 0 0 0))), (6, SV.av (AV.one (Lf.ptr 30701 0 0 0 0))), (9, SV.av (AV.one (Lf.own 30702 0 0 p7_17 1))), (10, SV.av (AV.one (Lf.v (Value.int IntKind.i64 p7_66)))), (11, SV.av (AV.one (Lf.ptr 30703 0 0 0 0))), (12, SV.av (AV.one (Lf.v (Value.int IntKind.i64 (Prod.snd x)))))] [(30700, Blk.cells 23 [Lf.dat (K.arr 32 (K.int IntKind.u8)) p7_18]), (30701, Blk.cells 26 [Lf.dat (K.arr 12 (K.int IntKind.u8)) p7_19]), (30702, Blk.row 5 (K.int IntKind.u8) (Prod.fst x)), (30703, Blk.cells 44 [Lf.dat (K.arr 64 (K.int IntKind.u8)) p7_21])]
def f10_l7_E0 (p7_16 : Int) (p7_17 : Nat) (p7_18 : List Int) (p7_19 : List Int) (p7_21 : List Int) (p7_66 : Int) (y : List Int) : St := St.mk [(1, SV.av (AV.one (Lf.v (Value.int IntKind.u32 p7_16)))), (4, SV.av (AV.one (Lf.ptr 60700 0 0 0 0))), (6, SV.av (AV.one (Lf.ptr 60701 0 0 0 0))), (9, SV.av (AV.one (Lf.own 60702 0 0 p7_17 1))), (10, SV.av (AV.one (Lf.v (Value.int IntKind.i64 p7_66))))] [(60700, Blk.cells 23 [Lf.dat (K.arr 32 (K.int IntKind.u8)) p7_18]), (60701, Blk.cells 26 [Lf.dat (K.arr 12 (K.int IntKind.u8)) p7_19]), (60702, Blk.row 5 (K.int IntKind.u8) y)]
def f10_l7_E (p7_16 : Int) (p7_17 : Nat) (p7_18 : List Int) (p7_19 : List Int) (p7_21 : List Int) (p7_66 : Int) : List Int → Ex × St
  | y => (Ex.exit 2, f10_l7_E0 p7_16 p7_17 p7_18 p7_19 p7_21 p7_66 y)
noncomputable def f10_l7_t (p7_16 : Int) (p7_17 : Nat) (p7_18 : List Int) (p7_19 : List Int) (p7_21 : List Int) (p7_66 : Int) (x : List Int × Int) : DT (Ex × St) ((List Int × Int) ⊕ (List Int)) :=
 (.ask (ilt (Prod.snd x) (mn (↑p7_17) (iadd IntKind.i64 p7_66 64)))
 (.need (ile 0 (Prod.snd x)) true
 (.need (ilt (Prod.snd x) ↑p7_17) true
 (.need (nlt (0 + Int.toNat (Prod.snd x)) (List.length (Prod.fst x))) true
 (.need (ile 0 (isub IntKind.i64 (Prod.snd x) p7_66)) true
 (.need (ilt (isub IntKind.i64 (Prod.snd x) p7_66) 64) true
 (.need (nlt (Int.toNat (isub IntKind.i64 (Prod.snd x) p7_66)) 64) true
 (.sure (ile 0 (Prod.snd x)) true
 (.sure (ilt (Prod.snd x) ↑p7_17) true
 (.sure (nlt (0 + Int.toNat (Prod.snd x)) (List.length (Prod.fst x))) true
 (.leaf (Vam.Ex.normal, St.mk [(1, SV.av (AV.one (Lf.v (Value.int IntKind.u32 p7_16)))), (4, SV.av (AV.one (Lf.ptr 30700 0 0 0 0))), (6, SV.av (AV.one (Lf.ptr 30701 0 0 0 0))), (9, SV.av (AV.one (Lf.own 30702 0 0 p7_17 1))), (10, SV.av (AV.one (Lf.v (Value.int IntKind.i64 p7_66)))), (11, SV.av (AV.one (Lf.ptr 30703 0 0 0 0))), (12, SV.av (AV.one (Lf.v (Value.int IntKind.i64 (iadd IntKind.i64 (Prod.snd x) 1)))))] [(30700, Blk.cells 23 [Lf.dat (K.arr 32 (K.int IntKind.u8)) p7_18]), (30701, Blk.cells 26 [Lf.dat (K.arr 12 (K.int IntKind.u8)) p7_19]), (30702, Blk.row 5 (K.int IntKind.u8) (List.set (Prod.fst x) (0 + Int.toNat (Prod.snd x)) (ixor IntKind.u8 (gd (K.int IntKind.u8) (Prod.fst x) (0 + Int.toNat (Prod.snd x))) (gd (K.int IntKind.u8) p7_21 (Int.toNat (isub IntKind.i64 (Prod.snd x) p7_66)))))), (30703, Blk.cells 44 [Lf.dat (K.arr 64 (K.int IntKind.u8)) p7_21])]) (.inl ((List.set (Prod.fst x) (0 + Int.toNat (Prod.snd x)) (ixor IntKind.u8 (gd (K.int IntKind.u8) (Prod.fst x) (0 + Int.toNat (Prod.snd x))) (gd (K.int IntKind.u8) p7_21 (Int.toNat (isub IntKind.i64 (Prod.snd x) p7_66)))), iadd IntKind.i64 (Prod.snd x) 1)))))))))))))
 (.leaf (Ex.exit 2, St.mk [(1, SV.av (AV.one (Lf.v (Value.int IntKind.u32 p7_16)))), (4, SV.av (AV.one (Lf.ptr 30700 0 0 0 0))), (6, SV.av (AV.one (Lf.ptr 30701 0 0 0 0))), (9, SV.av (AV.one (Lf.own 30702 0 0 p7_17 1))), (10, SV.av (AV.one (Lf.v (Value.int IntKind.i64 p7_66)))), (11, SV.av (AV.one (Lf.ptr 30703 0 0 0 0))), (12, SV.av (AV.one (Lf.v (Value.int IntKind.i64 (Prod.snd x)))))] [(30700, Blk.cells 23 [Lf.dat (K.arr 32 (K.int IntKind.u8)) p7_18]), (30701, Blk.cells 26 [Lf.dat (K.arr 12 (K.int IntKind.u8)) p7_19]), (30702, Blk.row 5 (K.int IntKind.u8) (Prod.fst x)), (30703, Blk.cells 44 [Lf.dat (K.arr 64 (K.int IntKind.u8)) p7_21])]) (.inr (Prod.fst x))))
theorem f10_l7_v (p7_16 : Int) (p7_17 : Nat) (p7_18 : List Int) (p7_19 : List Int) (p7_21 : List Int) (p7_66 : Int) (x : List Int × Int) : vc (execK P noG Try.f10.ntmps f10_hn [1, 4, 6, 9, 10, 11, 12] (loopOf Try.f10 7) (f10_l7_D p7_16 p7_17 p7_18 p7_19 p7_21 p7_66 x)) (f10_l7_t p7_16 p7_17 p7_18 p7_19 p7_21 p7_66 x) = vcT (f10_l7_t p7_16 p7_17 p7_18 p7_19 p7_21 p7_66 x) := by kernel_rfl
theorem f10_l7_o (d : Nat) (p7_16 : Int) (p7_17 : Nat) (p7_18 : List Int) (p7_19 : List Int) (p7_21 : List Int) (p7_66 : Int) (x : List Int × Int) : obl (Snd P noG) (Lp P noG Try.f10.ntmps [] f10_hn d) (RelL Try.f10.ntmps noG [] (f10_l7_D p7_16 p7_17 p7_18 p7_19 p7_21 p7_66) (f10_l7_E p7_16 p7_17 p7_18 p7_19 p7_21 p7_66)) (f10_l7_t p7_16 p7_17 p7_18 p7_19 p7_21 p7_66 x) := by
 unfold f10_l7_t
 exact (oAsk (fun h0 => (oNeed fun h1 => (oNeed fun h2 => (oNeed fun h3 => (oNeed fun h4 => (oNeed fun h5 => (oNeed fun h6 => (oSure h1 (oSure h2 (oSure h3 (oLeaf (relN (wk_tw [(30703, 30703), (30702, 30702), (30701, 30701), (30700, 30700)] [1, 4, 6, 9, 10, 11, 12] [] (by kernel_rfl) (by kernel_rfl))))))))))))))
 (fun h0 => (oLeaf (relE rfl (wk_tw [(30702, 60702), (30701, 60701), (30700, 60700)] [1, 4, 6, 9, 10] [] (by kernel_rfl) (by kernel_rfl))))))
noncomputable def f10_l7_m (p7_16 : Int) (p7_17 : Nat) (p7_18 : List Int) (p7_19 : List Int) (p7_21 : List Int) (p7_66 : Int) (x : List Int × Int) : Option (List Int) := lrun (fun x => mod (f10_l7_t p7_16 p7_17 p7_18 p7_19 p7_21 p7_66 x)) x
theorem f10_l7_e (p7_16 : Int) (p7_17 : Nat) (p7_18 : List Int) (p7_19 : List Int) (p7_21 : List Int) (p7_66 : Int) (x : List Int × Int) : mod (f10_l7_t p7_16 p7_17 p7_18 p7_19 p7_21 p7_66 x) =
 (sel (ilt (Prod.snd x) (mn (↑p7_17) (iadd IntKind.i64 p7_66 64)))
 (sel (ile 0 (Prod.snd x))
 (sel (ilt (Prod.snd x) ↑p7_17)
 (sel (nlt (0 + Int.toNat (Prod.snd x)) (List.length (Prod.fst x)))
 (sel (ile 0 (isub IntKind.i64 (Prod.snd x) p7_66))
 (sel (ilt (isub IntKind.i64 (Prod.snd x) p7_66) 64)
 (sel (nlt (Int.toNat (isub IntKind.i64 (Prod.snd x) p7_66)) 64)
 (some ((.inl ((List.set (Prod.fst x) (0 + Int.toNat (Prod.snd x)) (ixor IntKind.u8 (gd (K.int IntKind.u8) (Prod.fst x) (0 + Int.toNat (Prod.snd x))) (gd (K.int IntKind.u8) p7_21 (Int.toNat (isub IntKind.i64 (Prod.snd x) p7_66)))), iadd IntKind.i64 (Prod.snd x) 1))))) none) none) none) none) none) none)
 (some ((.inr (Prod.fst x))))) := by kernel_rfl
theorem f10_l7_s0 (d : Nat) {p7_16 : Int} {p7_17 : Nat} {p7_18 : List Int} {p7_19 : List Int} {p7_21 : List Int} {p7_66 : Int} {σ : St} {x : List Int × Int} {z : List Int} (h : f10_l7_m p7_16 p7_17 p7_18 p7_19 p7_21 p7_66 x = some z) (hw : Wk Try.f10.ntmps noG [] σ (f10_l7_D p7_16 p7_17 p7_18 p7_19 p7_21 p7_66 x)) : Lp P noG Try.f10.ntmps [] f10_hn (d + 1) (loopOf Try.f10 7) σ (Ex.exit 2) (f10_l7_E0 p7_16 p7_17 p7_18 p7_19 p7_21 p7_66 z) :=
 lp_tree (D := f10_l7_D p7_16 p7_17 p7_18 p7_19 p7_21 p7_66) (E := f10_l7_E p7_16 p7_17 p7_18 p7_19 p7_21 p7_66) (f10_l7_v p7_16 p7_17 p7_18 p7_19 p7_21 p7_66) (f10_l7_o d p7_16 p7_17 p7_18 p7_19 p7_21 p7_66) h hw
def f10_l3_D (p3_1 : Nat) (p3_2 : List Int) (p3_3 : List Int) (x : Int × List Int × Int) : St := St.mk [(1, SV.av (AV.one (Lf.v (Value.int IntKind.u32 (Prod.fst x))))), (4, SV.av (AV.one (Lf.ptr 30300 0 0 0 0))), (6, SV.av (AV.one (Lf.ptr 30301 0 0 0 0))), (9, SV.av (AV.one (Lf.own 30302 0 0 p3_1 1))), (10, SV.av (AV.one (Lf.v (Value.int IntKind.i64 (Prod.snd (Prod.snd x))))))] [(30300, Blk.cells 23 [Lf.dat (K.arr 32 (K.int IntKind.u8)) p3_2]), (30301, Blk.cells 26 [Lf.dat (K.arr 12 (K.int IntKind.u8)) p3_3]), (30302, Blk.row 5 (K.int IntKind.u8) (Prod.fst (Prod.snd x)))]
def f10_l3_E0 (p3_1 : Nat) (p3_2 : List Int) (p3_3 : List Int) (y : List Int) : St := St.mk [(9, SV.av (AV.one (Lf.own 60300 0 0 p3_1 1)))] [(60300, Blk.row 5 (K.int IntKind.u8) y)]
def f10_l3_E (p3_1 : Nat) (p3_2 : List Int) (p3_3 : List Int) : List Int → Ex × St
  | y => (Ex.exit 0, f10_l3_E0 p3_1 p3_2 p3_3 y)
noncomputable def f10_l3_t (p3_1 : Nat) (p3_2 : List Int) (p3_3 : List Int) (x : Int × List Int × Int) : DT (Ex × St) ((Int × List Int × Int) ⊕ (List Int)) :=
 (.ask (ilt (Prod.snd (Prod.snd x)) ↑p3_1)
 (.call 12 [AV.one (Lf.dat (K.arr 32 (K.int IntKind.u8)) p3_2), AV.one (Lf.v (Value.int IntKind.u32 (Prod.fst x))), AV.one (Lf.dat (K.arr 12 (K.int IntKind.u8)) p3_3)] [] (f12_m p3_2 (Prod.fst x) p3_3) (fun z92 => SV.av (AV.one (Lf.dat (K.arr 64 (K.int IntKind.u8)) z92))) (fun z92 => []) fun z92 =>
 (.loop (loopOf Try.f10 7) (St.mk [(1, SV.av (AV.one (Lf.v (Value.int IntKind.u32 (Prod.fst x))))), (4, SV.av (AV.one (Lf.ptr 30300 0 0 0 0))), (6, SV.av (AV.one (Lf.ptr 30301 0 0 0 0))), (9, SV.av (AV.one (Lf.own 30302 0 0 p3_1 1))), (10, SV.av (AV.one (Lf.v (Value.int IntKind.i64 (Prod.snd (Prod.snd x)))))), (11, SV.av (AV.one (Lf.ptr 11 0 0 0 0))), (12, SV.av (AV.one (Lf.v (Value.int IntKind.i64 (Prod.snd (Prod.snd x))))))] [(11, Blk.cells 44 [Lf.dat (K.arr 64 (K.int IntKind.u8)) z92]), (30300, Blk.cells 23 [Lf.dat (K.arr 32 (K.int IntKind.u8)) p3_2]), (30301, Blk.cells 26 [Lf.dat (K.arr 12 (K.int IntKind.u8)) p3_3]), (30302, Blk.row 5 (K.int IntKind.u8) (Prod.fst (Prod.snd x)))]) (f10_l7_m (Prod.fst x) p3_1 p3_2 p3_3 z92 (Prod.snd (Prod.snd x)) (Prod.fst (Prod.snd x), Prod.snd (Prod.snd x))) (Ex.exit 2) (f10_l7_E0 (Prod.fst x) p3_1 p3_2 p3_3 z92 (Prod.snd (Prod.snd x))) fun z93 =>
 (.leaf (Vam.Ex.normal, St.mk [(1, SV.av (AV.one (Lf.v (Value.int IntKind.u32 (iadd IntKind.u32 (Prod.fst x) 1))))), (4, SV.av (AV.one (Lf.ptr 60700 0 0 0 0))), (6, SV.av (AV.one (Lf.ptr 60701 0 0 0 0))), (9, SV.av (AV.one (Lf.own 60702 0 0 p3_1 1))), (10, SV.av (AV.one (Lf.v (Value.int IntKind.i64 (iadd IntKind.i64 (Prod.snd (Prod.snd x)) 64)))))] [(60700, Blk.cells 23 [Lf.dat (K.arr 32 (K.int IntKind.u8)) p3_2]), (60701, Blk.cells 26 [Lf.dat (K.arr 12 (K.int IntKind.u8)) p3_3]), (60702, Blk.row 5 (K.int IntKind.u8) z93)]) (.inl ((iadd IntKind.u32 (Prod.fst x) 1, z93, iadd IntKind.i64 (Prod.snd (Prod.snd x)) 64))))))
 (.leaf (Ex.exit 0, St.mk [(1, SV.av (AV.one (Lf.v (Value.int IntKind.u32 (Prod.fst x))))), (4, SV.av (AV.one (Lf.ptr 30300 0 0 0 0))), (6, SV.av (AV.one (Lf.ptr 30301 0 0 0 0))), (9, SV.av (AV.one (Lf.own 30302 0 0 p3_1 1))), (10, SV.av (AV.one (Lf.v (Value.int IntKind.i64 (Prod.snd (Prod.snd x))))))] [(30300, Blk.cells 23 [Lf.dat (K.arr 32 (K.int IntKind.u8)) p3_2]), (30301, Blk.cells 26 [Lf.dat (K.arr 12 (K.int IntKind.u8)) p3_3]), (30302, Blk.row 5 (K.int IntKind.u8) (Prod.fst (Prod.snd x)))]) (.inr (Prod.fst (Prod.snd x)))))
theorem f10_l3_v (p3_1 : Nat) (p3_2 : List Int) (p3_3 : List Int) (x : Int × List Int × Int) : vc (execK P noG Try.f10.ntmps f10_hn [1, 4, 6, 9, 10] (loopOf Try.f10 3) (f10_l3_D p3_1 p3_2 p3_3 x)) (f10_l3_t p3_1 p3_2 p3_3 x) = vcT (f10_l3_t p3_1 p3_2 p3_3 x) := by kernel_rfl
theorem f10_l3_o (d : Nat) (p3_1 : Nat) (p3_2 : List Int) (p3_3 : List Int) (x : Int × List Int × Int) : obl (Snd P noG) (Lp P noG Try.f10.ntmps [] f10_hn (d + 1)) (RelL Try.f10.ntmps noG [] (f10_l3_D p3_1 p3_2 p3_3) (f10_l3_E p3_1 p3_2 p3_3)) (f10_l3_t p3_1 p3_2 p3_3 x) := by
 unfold f10_l3_t
 exact (oAsk (fun h0 => (oCall (fun _ e => f12_s e) fun z92 _ =>
 (oLoop (fun _ e => f10_l7_s0 d e (wk_tw [(11, 30703), (30302, 30702), (30301, 30701), (30300, 30700)] [1, 4, 6, 9, 10, 11, 12] [] (by kernel_rfl) (by kernel_rfl))) fun z93 _ =>
 (oLeaf (relN (wk_tw [(60702, 30302), (60701, 30301), (60700, 30300)] [1, 4, 6, 9, 10] [] (by kernel_rfl) (by kernel_rfl)))))))
 (fun h0 => (oLeaf (relE rfl (wk_tw [(30302, 60300)] [9] [] (by kernel_rfl) (by kernel_rfl))))))
noncomputable def f10_l3_m (p3_1 : Nat) (p3_2 : List Int) (p3_3 : List Int) (x : Int × List Int × Int) : Option (List Int) := lrun (fun x => mod (f10_l3_t p3_1 p3_2 p3_3 x)) x
theorem f10_l3_e (p3_1 : Nat) (p3_2 : List Int) (p3_3 : List Int) (x : Int × List Int × Int) : mod (f10_l3_t p3_1 p3_2 p3_3 x) =
 (sel (ilt (Prod.snd (Prod.snd x)) ↑p3_1)
 (Option.bind (f12_m p3_2 (Prod.fst x) p3_3) fun z92 =>
 (Option.bind (f10_l7_m (Prod.fst x) p3_1 p3_2 p3_3 z92 (Prod.snd (Prod.snd x)) (Prod.fst (Prod.snd x), Prod.snd (Prod.snd x))) fun z93 =>
 (some ((.inl ((iadd IntKind.u32 (Prod.fst x) 1, z93, iadd IntKind.i64 (Prod.snd (Prod.snd x)) 64)))))))
 (some ((.inr (Prod.fst (Prod.snd x)))))) := by kernel_rfl
theorem f10_l3_s0 (d : Nat) {p3_1 : Nat} {p3_2 : List Int} {p3_3 : List Int} {σ : St} {x : Int × List Int × Int} {z : List Int} (h : f10_l3_m p3_1 p3_2 p3_3 x = some z) (hw : Wk Try.f10.ntmps noG [] σ (f10_l3_D p3_1 p3_2 p3_3 x)) : Lp P noG Try.f10.ntmps [] f10_hn (d + 2) (loopOf Try.f10 3) σ (Ex.exit 0) (f10_l3_E0 p3_1 p3_2 p3_3 z) :=
 lp_tree (D := f10_l3_D p3_1 p3_2 p3_3) (E := f10_l3_E p3_1 p3_2 p3_3) (f10_l3_v p3_1 p3_2 p3_3) (f10_l3_o d p3_1 p3_2 p3_3) h hw
def f10_R (a0 : List Int) (a1 : Int) (a2 : List Int) (a3 : ByteArray) : ByteArray → SV × Hp
  | z => (SV.av (AV.one (Lf.v (Value.string z))), [])
noncomputable def f10_t (a0 : List Int) (a1 : Int) (a2 : List Int) (a3 : ByteArray) : DT (SV × Hp) (ByteArray) :=
 (.loop (loopOf Try.f10 3) (St.mk [(1, SV.av (AV.one (Lf.v (Value.int IntKind.u32 a1)))), (4, SV.av (AV.one (Lf.ptr 4 0 0 0 0))), (6, SV.av (AV.one (Lf.ptr 6 0 0 0 0))), (9, SV.av (AV.one (Lf.own 14 0 0 (ByteArray.size a3) 1))), (10, SV.av (AV.one (Lf.v (Value.int IntKind.i64 0))))] [(4, Blk.cells 23 [Lf.dat (K.arr 32 (K.int IntKind.u8)) a0]), (6, Blk.cells 26 [Lf.dat (K.arr 12 (K.int IntKind.u8)) a2]), (14, Blk.row 5 (K.int IntKind.u8) (nums a3))]) (f10_l3_m (ByteArray.size a3) a0 a2 (a1, nums a3, 0)) (Ex.exit 0) (f10_l3_E0 (ByteArray.size a3) a0 a2) fun z94 =>
 (.pick false (.need (nle (0 + ByteArray.size a3) (List.length z94)) true
 (.leaf (SV.av (AV.one (Lf.v (Value.string (strOfNums (List.take (ByteArray.size a3) (List.drop 0 z94)))))), [(60300, Blk.row 5 (K.int IntKind.u8) z94)]) (strOfNums (List.take (ByteArray.size a3) (List.drop 0 z94)))))))
theorem f10_v (a0 : List Int) (a1 : Int) (a2 : List Int) (a3 : ByteArray) : vc (runR P noG Try.f10 f10_hn [AV.one (Lf.dat (K.arr 32 (K.int IntKind.u8)) a0), AV.one (Lf.v (Value.int IntKind.u32 a1)), AV.one (Lf.dat (K.arr 12 (K.int IntKind.u8)) a2), AV.one (Lf.v (Value.string a3))] []) (f10_t a0 a1 a2 a3) = vcT (f10_t a0 a1 a2 a3) := by kernel_rfl
theorem f10_o (a0 : List Int) (a1 : Int) (a2 : List Int) (a3 : ByteArray) : obl (Snd P noG) (Lp P noG Try.f10.ntmps [] f10_hn 2) (RelF [] (f10_R a0 a1 a2 a3)) (f10_t a0 a1 a2 a3) := by
 unfold f10_t
 exact (oLoop (fun _ e => f10_l3_s0 0 e (wk_tw [(14, 30302), (6, 30301), (4, 30300)] [1, 4, 6, 9, 10] [] (by kernel_rfl) (by kernel_rfl))) fun z94 _ =>
 (oPick (oNeed fun h0 => (oLeaf (wks_tw [] [] (by kernel_rfl) (by kernel_rfl))))))
noncomputable def f10_m (a0 : List Int) (a1 : Int) (a2 : List Int) (a3 : ByteArray) : Option (ByteArray) := mod (f10_t a0 a1 a2 a3)
theorem f10_e (a0 : List Int) (a1 : Int) (a2 : List Int) (a3 : ByteArray) : f10_m a0 a1 a2 a3 =
 (Option.bind (f10_l3_m (ByteArray.size a3) a0 a2 (a1, nums a3, 0)) fun z94 =>
 (sel (nle (0 + ByteArray.size a3) (List.length z94))
 (some ((strOfNums (List.take (ByteArray.size a3) (List.drop 0 z94))))) none)) := by kernel_rfl
theorem f10_s {a0 : List Int} {a1 : Int} {a2 : List Int} {a3 : ByteArray} {z : ByteArray} (h : f10_m a0 a1 a2 a3 = some z) : Snd P noG 10 [AV.one (Lf.dat (K.arr 32 (K.int IntKind.u8)) a0), AV.one (Lf.v (Value.int IntKind.u32 a1)), AV.one (Lf.dat (K.arr 12 (K.int IntKind.u8)) a2), AV.one (Lf.v (Value.string a3))] [] (SV.av (AV.one (Lf.v (Value.string z)))) [] :=
 snd_tree (hn := f10_hn) 2 (f10_R a0 a1 a2 a3) mixed (by kernel_rfl) (by kernel_rfl) (by kernel_rfl) (by kernel_rfl) (by kernel_rfl) (f10_v a0 a1 a2 a3) (f10_o a0 a1 a2 a3) h
def f11_hn : Hn := Hn.mk [] [] [] [] [(5, [1, 3, 4, 6, 9, 10, 11])]
def f11_l4_D (p4_1 : ByteArray) (p4_2 : List Int) (p4_3 : List Int) (x : Int × List Int × ByteArray × Int) : St := St.mk [(1, SV.av (AV.one (Lf.v (Value.int IntKind.u32 (Prod.fst x))))), (3, SV.av (AV.one (Lf.v (Value.string p4_1)))), (4, SV.av (AV.one (Lf.ptr 30400 0 0 0 0))), (6, SV.av (AV.one (Lf.ptr 30401 0 0 0 0))), (9, SV.av (AV.one (Lf.own 30451 0 0 (List.length (Prod.fst (Prod.snd x))) 1))), (10, SV.av (AV.one (Lf.v (Value.string (Prod.fst (Prod.snd (Prod.snd x))))))), (11, SV.av (AV.one (Lf.v (Value.int IntKind.i64 (Prod.snd (Prod.snd (Prod.snd x)))))))] [(30400, Blk.cells 22 [Lf.dat (K.arr 32 (K.int IntKind.u8)) p4_2]), (30401, Blk.cells 25 [Lf.dat (K.arr 12 (K.int IntKind.u8)) p4_3]), (30451, Blk.row 5 (K.int IntKind.u8) (Prod.fst (Prod.snd x)))]
def f11_l4_E0 (p4_1 : ByteArray) (p4_2 : List Int) (p4_3 : List Int) (y : List Int) : St := St.mk [(9, SV.av (AV.one (Lf.own 60451 0 0 (List.length y) 1)))] [(60451, Blk.row 5 (K.int IntKind.u8) y)]
def f11_l4_E (p4_1 : ByteArray) (p4_2 : List Int) (p4_3 : List Int) : List Int → Ex × St
  | y => (Ex.exit 0, f11_l4_E0 p4_1 p4_2 p4_3 y)
noncomputable def f11_l4_t (p4_1 : ByteArray) (p4_2 : List Int) (p4_3 : List Int) (x : Int × List Int × ByteArray × Int) : DT (Ex × St) ((Int × List Int × ByteArray × Int) ⊕ (List Int)) :=
 (.ask (ilt (Prod.snd (Prod.snd (Prod.snd x))) (ssz p4_1))
 (.sure (true) true
 (.ask (ieq (irem (Prod.snd (Prod.snd (Prod.snd x))) 64) 0)
 (.call 9 [AV.one (Lf.dat (K.arr 32 (K.int IntKind.u8)) p4_2), AV.one (Lf.v (Value.int IntKind.u32 (Prod.fst x))), AV.one (Lf.dat (K.arr 12 (K.int IntKind.u8)) p4_3)] [] (f9_m p4_2 (Prod.fst x) p4_3) (fun z67 => SV.av (AV.one (Lf.v (Value.string z67)))) (fun z67 => []) fun z67 =>
 (.need (ile 0 (Prod.snd (Prod.snd (Prod.snd x)))) true
 (.sure (ilt (Prod.snd (Prod.snd (Prod.snd x))) (ssz p4_1)) true
 (.sure (true) true
 (.need (ile 0 (irem (Prod.snd (Prod.snd (Prod.snd x))) 64)) true
 (.need (ilt (irem (Prod.snd (Prod.snd (Prod.snd x))) 64) (ssz z67)) true
 (.pick true (.sure (true) true
 (.pick true (.sure (true) true
 (.sure (nEq (List.length (Prod.fst (Prod.snd x))) (List.length (Prod.fst (Prod.snd x)))) true
 (.need (nle (List.length (List.append (Prod.fst (Prod.snd x)) [ixor IntKind.u8 (bt p4_1 (Prod.snd (Prod.snd (Prod.snd x)))) (bt z67 (irem (Prod.snd (Prod.snd (Prod.snd x))) 64))])) 9223372036854775807) true
 (.need (nle (List.length (List.append (Prod.fst (Prod.snd x)) [ixor IntKind.u8 (bt p4_1 (Prod.snd (Prod.snd (Prod.snd x)))) (bt z67 (irem (Prod.snd (Prod.snd (Prod.snd x))) 64))]) * 1) 140737488355328) true
 (.leaf (Vam.Ex.normal, St.mk [(1, SV.av (AV.one (Lf.v (Value.int IntKind.u32 (iadd IntKind.u32 (Prod.fst x) 1))))), (3, SV.av (AV.one (Lf.v (Value.string p4_1)))), (4, SV.av (AV.one (Lf.ptr 30400 0 0 0 0))), (6, SV.av (AV.one (Lf.ptr 30401 0 0 0 0))), (9, SV.av (AV.one (Lf.own 37 0 0 (List.length (List.append (Prod.fst (Prod.snd x)) [ixor IntKind.u8 (bt p4_1 (Prod.snd (Prod.snd (Prod.snd x)))) (bt z67 (irem (Prod.snd (Prod.snd (Prod.snd x))) 64))])) 1))), (10, SV.av (AV.one (Lf.v (Value.string z67)))), (11, SV.av (AV.one (Lf.v (Value.int IntKind.i64 (iadd IntKind.i64 (Prod.snd (Prod.snd (Prod.snd x))) 1)))))] [(36, Blk.row 5 (K.int IntKind.u8) [ixor IntKind.u8 (bt p4_1 (Prod.snd (Prod.snd (Prod.snd x)))) (bt z67 (irem (Prod.snd (Prod.snd (Prod.snd x))) 64))]), (37, Blk.row 5 (K.int IntKind.u8) (List.append (Prod.fst (Prod.snd x)) [ixor IntKind.u8 (bt p4_1 (Prod.snd (Prod.snd (Prod.snd x)))) (bt z67 (irem (Prod.snd (Prod.snd (Prod.snd x))) 64))])), (30400, Blk.cells 22 [Lf.dat (K.arr 32 (K.int IntKind.u8)) p4_2]), (30401, Blk.cells 25 [Lf.dat (K.arr 12 (K.int IntKind.u8)) p4_3]), (30451, Blk.dead)]) (.inl ((iadd IntKind.u32 (Prod.fst x) 1, List.append (Prod.fst (Prod.snd x)) [ixor IntKind.u8 (bt p4_1 (Prod.snd (Prod.snd (Prod.snd x)))) (bt z67 (irem (Prod.snd (Prod.snd (Prod.snd x))) 64))], z67, iadd IntKind.i64 (Prod.snd (Prod.snd (Prod.snd x))) 1)))))))))))))))))
 (.need (ile 0 (Prod.snd (Prod.snd (Prod.snd x)))) true
 (.sure (ilt (Prod.snd (Prod.snd (Prod.snd x))) (ssz p4_1)) true
 (.sure (true) true
 (.need (ile 0 (irem (Prod.snd (Prod.snd (Prod.snd x))) 64)) true
 (.need (ilt (irem (Prod.snd (Prod.snd (Prod.snd x))) 64) (ssz (Prod.fst (Prod.snd (Prod.snd x))))) true
 (.pick true (.sure (true) true
 (.pick true (.sure (true) true
 (.sure (nEq (List.length (Prod.fst (Prod.snd x))) (List.length (Prod.fst (Prod.snd x)))) true
 (.need (nle (List.length (List.append (Prod.fst (Prod.snd x)) [ixor IntKind.u8 (bt p4_1 (Prod.snd (Prod.snd (Prod.snd x)))) (bt (Prod.fst (Prod.snd (Prod.snd x))) (irem (Prod.snd (Prod.snd (Prod.snd x))) 64))])) 9223372036854775807) true
 (.need (nle (List.length (List.append (Prod.fst (Prod.snd x)) [ixor IntKind.u8 (bt p4_1 (Prod.snd (Prod.snd (Prod.snd x)))) (bt (Prod.fst (Prod.snd (Prod.snd x))) (irem (Prod.snd (Prod.snd (Prod.snd x))) 64))]) * 1) 140737488355328) true
 (.leaf (Vam.Ex.normal, St.mk [(1, SV.av (AV.one (Lf.v (Value.int IntKind.u32 (Prod.fst x))))), (3, SV.av (AV.one (Lf.v (Value.string p4_1)))), (4, SV.av (AV.one (Lf.ptr 30400 0 0 0 0))), (6, SV.av (AV.one (Lf.ptr 30401 0 0 0 0))), (9, SV.av (AV.one (Lf.own 37 0 0 (List.length (List.append (Prod.fst (Prod.snd x)) [ixor IntKind.u8 (bt p4_1 (Prod.snd (Prod.snd (Prod.snd x)))) (bt (Prod.fst (Prod.snd (Prod.snd x))) (irem (Prod.snd (Prod.snd (Prod.snd x))) 64))])) 1))), (10, SV.av (AV.one (Lf.v (Value.string (Prod.fst (Prod.snd (Prod.snd x))))))), (11, SV.av (AV.one (Lf.v (Value.int IntKind.i64 (iadd IntKind.i64 (Prod.snd (Prod.snd (Prod.snd x))) 1)))))] [(36, Blk.row 5 (K.int IntKind.u8) [ixor IntKind.u8 (bt p4_1 (Prod.snd (Prod.snd (Prod.snd x)))) (bt (Prod.fst (Prod.snd (Prod.snd x))) (irem (Prod.snd (Prod.snd (Prod.snd x))) 64))]), (37, Blk.row 5 (K.int IntKind.u8) (List.append (Prod.fst (Prod.snd x)) [ixor IntKind.u8 (bt p4_1 (Prod.snd (Prod.snd (Prod.snd x)))) (bt (Prod.fst (Prod.snd (Prod.snd x))) (irem (Prod.snd (Prod.snd (Prod.snd x))) 64))])), (30400, Blk.cells 22 [Lf.dat (K.arr 32 (K.int IntKind.u8)) p4_2]), (30401, Blk.cells 25 [Lf.dat (K.arr 12 (K.int IntKind.u8)) p4_3]), (30451, Blk.dead)]) (.inl ((Prod.fst x, List.append (Prod.fst (Prod.snd x)) [ixor IntKind.u8 (bt p4_1 (Prod.snd (Prod.snd (Prod.snd x)))) (bt (Prod.fst (Prod.snd (Prod.snd x))) (irem (Prod.snd (Prod.snd (Prod.snd x))) 64))], Prod.fst (Prod.snd (Prod.snd x)), iadd IntKind.i64 (Prod.snd (Prod.snd (Prod.snd x))) 1))))))))))))))))))
 (.leaf (Ex.exit 0, St.mk [(1, SV.av (AV.one (Lf.v (Value.int IntKind.u32 (Prod.fst x))))), (3, SV.av (AV.one (Lf.v (Value.string p4_1)))), (4, SV.av (AV.one (Lf.ptr 30400 0 0 0 0))), (6, SV.av (AV.one (Lf.ptr 30401 0 0 0 0))), (9, SV.av (AV.one (Lf.own 30451 0 0 (List.length (Prod.fst (Prod.snd x))) 1))), (10, SV.av (AV.one (Lf.v (Value.string (Prod.fst (Prod.snd (Prod.snd x))))))), (11, SV.av (AV.one (Lf.v (Value.int IntKind.i64 (Prod.snd (Prod.snd (Prod.snd x)))))))] [(30400, Blk.cells 22 [Lf.dat (K.arr 32 (K.int IntKind.u8)) p4_2]), (30401, Blk.cells 25 [Lf.dat (K.arr 12 (K.int IntKind.u8)) p4_3]), (30451, Blk.row 5 (K.int IntKind.u8) (Prod.fst (Prod.snd x)))]) (.inr (Prod.fst (Prod.snd x)))))
theorem f11_l4_v (p4_1 : ByteArray) (p4_2 : List Int) (p4_3 : List Int) (x : Int × List Int × ByteArray × Int) : vc (execK P noG Try.f11.ntmps f11_hn [1, 3, 4, 6, 9, 10, 11] (loopOf Try.f11 4) (f11_l4_D p4_1 p4_2 p4_3 x)) (f11_l4_t p4_1 p4_2 p4_3 x) = vcT (f11_l4_t p4_1 p4_2 p4_3 x) := by kernel_rfl
theorem f11_l4_o (d : Nat) (p4_1 : ByteArray) (p4_2 : List Int) (p4_3 : List Int) (x : Int × List Int × ByteArray × Int) : obl (Snd P noG) (Lp P noG Try.f11.ntmps [] f11_hn d) (RelL Try.f11.ntmps noG [] (f11_l4_D p4_1 p4_2 p4_3) (f11_l4_E p4_1 p4_2 p4_3)) (f11_l4_t p4_1 p4_2 p4_3 x) := by
 unfold f11_l4_t
 exact (oAsk (fun h0 => (oSure rfl (oAsk (fun h1 => (oCall (fun _ e => f9_s e) fun z67 _ =>
 (oNeed fun h2 => (oSure h0 (oSure rfl (oNeed fun h3 => (oNeed fun h4 => (oPick (oSure rfl (oPick (oSure rfl (oSure (nEq_t.2 rfl) (oNeed fun h5 => (oNeed fun h6 => (oLeaf (relN (wk_tw [(37, 30451), (30401, 30401), (30400, 30400)] [1, 3, 4, 6, 9, 10, 11] [] (by kernel_rfl) (by kernel_rfl))))))))))))))))))
 (fun h1 => (oNeed fun h2 => (oSure h0 (oSure rfl (oNeed fun h3 => (oNeed fun h4 => (oPick (oSure rfl (oPick (oSure rfl (oSure (nEq_t.2 rfl) (oNeed fun h5 => (oNeed fun h6 => (oLeaf (relN (wk_tw [(37, 30451), (30401, 30401), (30400, 30400)] [1, 3, 4, 6, 9, 10, 11] [] (by kernel_rfl) (by kernel_rfl))))))))))))))))))))
 (fun h0 => (oLeaf (relE rfl (wk_tw [(30451, 60451)] [9] [] (by kernel_rfl) (by kernel_rfl))))))
noncomputable def f11_l4_m (p4_1 : ByteArray) (p4_2 : List Int) (p4_3 : List Int) (x : Int × List Int × ByteArray × Int) : Option (List Int) := lrun (fun x => mod (f11_l4_t p4_1 p4_2 p4_3 x)) x
theorem f11_l4_e (p4_1 : ByteArray) (p4_2 : List Int) (p4_3 : List Int) (x : Int × List Int × ByteArray × Int) : mod (f11_l4_t p4_1 p4_2 p4_3 x) =
 (sel (ilt (Prod.snd (Prod.snd (Prod.snd x))) (ssz p4_1))
 (sel (ieq (irem (Prod.snd (Prod.snd (Prod.snd x))) 64) 0)
 (Option.bind (f9_m p4_2 (Prod.fst x) p4_3) fun z67 =>
 (sel (ile 0 (Prod.snd (Prod.snd (Prod.snd x))))
 (sel (ile 0 (irem (Prod.snd (Prod.snd (Prod.snd x))) 64))
 (sel (ilt (irem (Prod.snd (Prod.snd (Prod.snd x))) 64) (ssz z67))
 (sel (nle (List.length (List.append (Prod.fst (Prod.snd x)) [ixor IntKind.u8 (bt p4_1 (Prod.snd (Prod.snd (Prod.snd x)))) (bt z67 (irem (Prod.snd (Prod.snd (Prod.snd x))) 64))])) 9223372036854775807)
 (sel (nle (List.length (List.append (Prod.fst (Prod.snd x)) [ixor IntKind.u8 (bt p4_1 (Prod.snd (Prod.snd (Prod.snd x)))) (bt z67 (irem (Prod.snd (Prod.snd (Prod.snd x))) 64))]) * 1) 140737488355328)
 (some ((.inl ((iadd IntKind.u32 (Prod.fst x) 1, List.append (Prod.fst (Prod.snd x)) [ixor IntKind.u8 (bt p4_1 (Prod.snd (Prod.snd (Prod.snd x)))) (bt z67 (irem (Prod.snd (Prod.snd (Prod.snd x))) 64))], z67, iadd IntKind.i64 (Prod.snd (Prod.snd (Prod.snd x))) 1))))) none) none) none) none) none))
 (sel (ile 0 (Prod.snd (Prod.snd (Prod.snd x))))
 (sel (ile 0 (irem (Prod.snd (Prod.snd (Prod.snd x))) 64))
 (sel (ilt (irem (Prod.snd (Prod.snd (Prod.snd x))) 64) (ssz (Prod.fst (Prod.snd (Prod.snd x)))))
 (sel (nle (List.length (List.append (Prod.fst (Prod.snd x)) [ixor IntKind.u8 (bt p4_1 (Prod.snd (Prod.snd (Prod.snd x)))) (bt (Prod.fst (Prod.snd (Prod.snd x))) (irem (Prod.snd (Prod.snd (Prod.snd x))) 64))])) 9223372036854775807)
 (sel (nle (List.length (List.append (Prod.fst (Prod.snd x)) [ixor IntKind.u8 (bt p4_1 (Prod.snd (Prod.snd (Prod.snd x)))) (bt (Prod.fst (Prod.snd (Prod.snd x))) (irem (Prod.snd (Prod.snd (Prod.snd x))) 64))]) * 1) 140737488355328)
 (some ((.inl ((Prod.fst x, List.append (Prod.fst (Prod.snd x)) [ixor IntKind.u8 (bt p4_1 (Prod.snd (Prod.snd (Prod.snd x)))) (bt (Prod.fst (Prod.snd (Prod.snd x))) (irem (Prod.snd (Prod.snd (Prod.snd x))) 64))], Prod.fst (Prod.snd (Prod.snd x)), iadd IntKind.i64 (Prod.snd (Prod.snd (Prod.snd x))) 1))))) none) none) none) none) none))
 (some ((.inr (Prod.fst (Prod.snd x)))))) := by kernel_rfl
theorem f11_l4_s0 (d : Nat) {p4_1 : ByteArray} {p4_2 : List Int} {p4_3 : List Int} {σ : St} {x : Int × List Int × ByteArray × Int} {z : List Int} (h : f11_l4_m p4_1 p4_2 p4_3 x = some z) (hw : Wk Try.f11.ntmps noG [] σ (f11_l4_D p4_1 p4_2 p4_3 x)) : Lp P noG Try.f11.ntmps [] f11_hn (d + 1) (loopOf Try.f11 4) σ (Ex.exit 0) (f11_l4_E0 p4_1 p4_2 p4_3 z) :=
 lp_tree (D := f11_l4_D p4_1 p4_2 p4_3) (E := f11_l4_E p4_1 p4_2 p4_3) (f11_l4_v p4_1 p4_2 p4_3) (f11_l4_o d p4_1 p4_2 p4_3) h hw
def f11_R (a0 : List Int) (a1 : Int) (a2 : List Int) (a3 : ByteArray) : ByteArray → SV × Hp
  | z => (SV.av (AV.one (Lf.v (Value.string z))), [])
noncomputable def f11_t (a0 : List Int) (a1 : Int) (a2 : List Int) (a3 : ByteArray) : DT (SV × Hp) (ByteArray) :=
 (.loop (loopOf Try.f11 4) (St.mk [(1, SV.av (AV.one (Lf.v (Value.int IntKind.u32 a1)))), (3, SV.av (AV.one (Lf.v (Value.string a3)))), (4, SV.av (AV.one (Lf.ptr 4 0 0 0 0))), (6, SV.av (AV.one (Lf.ptr 6 0 0 0 0))), (9, SV.av (AV.one (Lf.v (Value.slice none 0 0)))), (10, SV.av (AV.one (Lf.v (Value.string (ByteArray.mk #[]))))), (11, SV.av (AV.one (Lf.v (Value.int IntKind.i64 0))))] [(4, Blk.cells 22 [Lf.dat (K.arr 32 (K.int IntKind.u8)) a0]), (6, Blk.cells 25 [Lf.dat (K.arr 12 (K.int IntKind.u8)) a2])]) (f11_l4_m a3 a0 a2 (a1, [], ByteArray.mk #[], 0)) (Ex.exit 0) (f11_l4_E0 a3 a0 a2) fun z68 =>
 (.pick true (.sure (nEq (List.length z68) (List.length z68)) true
 (.leaf (SV.av (AV.one (Lf.v (Value.string (strOfNums z68)))), [(60451, Blk.row 5 (K.int IntKind.u8) z68)]) (strOfNums z68)))))
theorem f11_v (a0 : List Int) (a1 : Int) (a2 : List Int) (a3 : ByteArray) : vc (runR P noG Try.f11 f11_hn [AV.one (Lf.dat (K.arr 32 (K.int IntKind.u8)) a0), AV.one (Lf.v (Value.int IntKind.u32 a1)), AV.one (Lf.dat (K.arr 12 (K.int IntKind.u8)) a2), AV.one (Lf.v (Value.string a3))] []) (f11_t a0 a1 a2 a3) = vcT (f11_t a0 a1 a2 a3) := by kernel_rfl
theorem f11_o (a0 : List Int) (a1 : Int) (a2 : List Int) (a3 : ByteArray) : obl (Snd P noG) (Lp P noG Try.f11.ntmps [] f11_hn 1) (RelF [] (f11_R a0 a1 a2 a3)) (f11_t a0 a1 a2 a3) := by
 unfold f11_t
 exact (oLoop (fun _ e => f11_l4_s0 0 e (wk_tw [(6, 30401), (4, 30400)] [1, 3, 4, 6, 9, 10, 11] [(30451, 5, K.int IntKind.u8)] (by kernel_rfl) (by kernel_rfl))) fun z68 _ =>
 (oPick (oSure (nEq_t.2 rfl) (oLeaf (wks_tw [] [] (by kernel_rfl) (by kernel_rfl))))))
noncomputable def f11_m (a0 : List Int) (a1 : Int) (a2 : List Int) (a3 : ByteArray) : Option (ByteArray) := mod (f11_t a0 a1 a2 a3)
theorem f11_e (a0 : List Int) (a1 : Int) (a2 : List Int) (a3 : ByteArray) : f11_m a0 a1 a2 a3 =
 (Option.bind (f11_l4_m a3 a0 a2 (a1, [], ByteArray.mk #[], 0)) fun z68 =>
 (some ((strOfNums z68)))) := by kernel_rfl
theorem f11_s {a0 : List Int} {a1 : Int} {a2 : List Int} {a3 : ByteArray} {z : ByteArray} (h : f11_m a0 a1 a2 a3 = some z) : Snd P noG 11 [AV.one (Lf.dat (K.arr 32 (K.int IntKind.u8)) a0), AV.one (Lf.v (Value.int IntKind.u32 a1)), AV.one (Lf.dat (K.arr 12 (K.int IntKind.u8)) a2), AV.one (Lf.v (Value.string a3))] [] (SV.av (AV.one (Lf.v (Value.string z)))) [] :=
 snd_tree (hn := f11_hn) 1 (f11_R a0 a1 a2 a3) mixed (by kernel_rfl) (by kernel_rfl) (by kernel_rfl) (by kernel_rfl) (by kernel_rfl) (f11_v a0 a1 a2 a3) (f11_o a0 a1 a2 a3) h
def f7_hn : Hn := Hn.mk [] [] [] [] [(4, [1, 2])]
def f7_l3_D  (x : List Int × Int) : St := St.mk [(1, SV.av (AV.one (Lf.ptr 30300 0 0 0 0))), (2, SV.av (AV.one (Lf.v (Value.int IntKind.i64 (Prod.snd x)))))] [(30300, Blk.cells 23 [Lf.dat (K.arr 32 (K.int IntKind.u8)) (Prod.fst x)])]
def f7_l3_E0  (y : List Int) : St := St.mk [(1, SV.av (AV.one (Lf.ptr 60300 0 0 0 0)))] [(60300, Blk.cells 23 [Lf.dat (K.arr 32 (K.int IntKind.u8)) y])]
def f7_l3_E  : List Int → Ex × St
  | y => (Ex.exit 0, f7_l3_E0  y)
noncomputable def f7_l3_t  (x : List Int × Int) : DT (Ex × St) ((List Int × Int) ⊕ (List Int)) :=
 (.ask (ilt (Prod.snd x) 32)
 (.need (ile 0 (Prod.snd x)) true
 (.sure (ilt (Prod.snd x) 32) true
 (.need (nlt (Int.toNat (Prod.snd x)) 32) true
 (.leaf (Vam.Ex.normal, St.mk [(1, SV.av (AV.one (Lf.ptr 30300 0 0 0 0))), (2, SV.av (AV.one (Lf.v (Value.int IntKind.i64 (iadd IntKind.i64 (Prod.snd x) 1)))))] [(30300, Blk.cells 23 [Lf.dat (K.arr 32 (K.int IntKind.u8)) (List.set (Prod.fst x) (Int.toNat (Prod.snd x)) (icv IntKind.u8 (Prod.snd x)))])]) (.inl ((List.set (Prod.fst x) (Int.toNat (Prod.snd x)) (icv IntKind.u8 (Prod.snd x)), iadd IntKind.i64 (Prod.snd x) 1)))))))
 (.leaf (Ex.exit 0, St.mk [(1, SV.av (AV.one (Lf.ptr 30300 0 0 0 0))), (2, SV.av (AV.one (Lf.v (Value.int IntKind.i64 (Prod.snd x)))))] [(30300, Blk.cells 23 [Lf.dat (K.arr 32 (K.int IntKind.u8)) (Prod.fst x)])]) (.inr (Prod.fst x))))
theorem f7_l3_v  (x : List Int × Int) : vc (execK P noG Try.f7.ntmps f7_hn [1, 2] (loopOf Try.f7 3) (f7_l3_D  x)) (f7_l3_t  x) = vcT (f7_l3_t  x) := by kernel_rfl
theorem f7_l3_o (d : Nat)  (x : List Int × Int) : obl (Snd P noG) (Lp P noG Try.f7.ntmps [] f7_hn d) (RelL Try.f7.ntmps noG [] (f7_l3_D ) (f7_l3_E )) (f7_l3_t  x) := by
 unfold f7_l3_t
 exact (oAsk (fun h0 => (oNeed fun h1 => (oSure h0 (oNeed fun h2 => (oLeaf (relN (wk_tw [(30300, 30300)] [1, 2] [] (by kernel_rfl) (by kernel_rfl))))))))
 (fun h0 => (oLeaf (relE rfl (wk_tw [(30300, 60300)] [1] [] (by kernel_rfl) (by kernel_rfl))))))
noncomputable def f7_l3_m  (x : List Int × Int) : Option (List Int) := lrun (fun x => mod (f7_l3_t  x)) x
theorem f7_l3_e  (x : List Int × Int) : mod (f7_l3_t  x) =
 (sel (ilt (Prod.snd x) 32)
 (sel (ile 0 (Prod.snd x))
 (sel (nlt (Int.toNat (Prod.snd x)) 32)
 (some ((.inl ((List.set (Prod.fst x) (Int.toNat (Prod.snd x)) (icv IntKind.u8 (Prod.snd x)), iadd IntKind.i64 (Prod.snd x) 1))))) none) none)
 (some ((.inr (Prod.fst x))))) := by kernel_rfl
theorem f7_l3_s0 (d : Nat)  {σ : St} {x : List Int × Int} {z : List Int} (h : f7_l3_m  x = some z) (hw : Wk Try.f7.ntmps noG [] σ (f7_l3_D  x)) : Lp P noG Try.f7.ntmps [] f7_hn (d + 1) (loopOf Try.f7 3) σ (Ex.exit 0) (f7_l3_E0  z) :=
 lp_tree (D := f7_l3_D ) (E := f7_l3_E ) (f7_l3_v ) (f7_l3_o d ) h hw
def f7_R  : Bool → SV × Hp
  | z => (SV.av (AV.one (Lf.v (Value.bool z))), [])
noncomputable def f7_t  : DT (SV × Hp) (Bool) :=
 (.loop (loopOf Try.f7 3) (St.mk [(1, SV.av (AV.one (Lf.ptr 1 0 0 0 0))), (2, SV.av (AV.one (Lf.v (Value.int IntKind.i64 0))))] [(1, Blk.cells 23 [Lf.dat (K.arr 32 (K.int IntKind.u8)) [0, 0, 0, 0, 0, 0, 0, 0, 0, 0, 0, 0, 0, 0, 0, 0, 0, 0, 0, 0, 0, 0, 0, 0, 0, 0, 0, 0, 0, 0, 0, 0]])]) (f7_l3_m ([0, 0, 0, 0, 0, 0, 0, 0, 0, 0, 0, 0, 0, 0, 0, 0, 0, 0, 0, 0, 0, 0, 0, 0, 0, 0, 0, 0, 0, 0, 0, 0], 0)) (Ex.exit 0) (f7_l3_E0) fun z56 =>
 (.call 8 [AV.one (Lf.dat (K.arr 32 (K.int IntKind.u8)) z56), AV.one (Lf.v (Value.int IntKind.u32 1)), AV.one (Lf.dat (K.arr 12 (K.int IntKind.u8)) [0, 0, 0, 9, 0, 0, 0, 74, 0, 0, 0, 0])] [] (f8_m z56 1 [0, 0, 0, 9, 0, 0, 0, 74, 0, 0, 0, 0]) (fun z67 => SV.av (AV.one (Lf.v (Value.string z67)))) (fun z67 => []) fun z67 =>
 (.ask (ieq (ssz z67) 64)
 (.sure (ieq (ssz z67) 64) true
 (.sure (true) true
 (.sure (true) true
 (.need (ile 4 (ssz z67)) true
 (.sure (ieq (ssz z67) 64) true
 (.sure (ieq (ssz z67) 64) true
 (.ask (seq (scut z67 0 4) (ByteArray.mk #[16, 241, 231, 228]))
 (.sure (seq (scut z67 0 4) (ByteArray.mk #[16, 241, 231, 228])) true
 (.sure (seq (scut z67 0 4) (ByteArray.mk #[16, 241, 231, 228])) true
 (.call 10 [AV.one (Lf.dat (K.arr 32 (K.int IntKind.u8)) z56), AV.one (Lf.v (Value.int IntKind.u32 0)), AV.one (Lf.dat (K.arr 12 (K.int IntKind.u8)) [0, 0, 0, 0, 0, 0, 0, 0, 0, 0, 0, 0]), AV.one (Lf.v (Value.string (ByteArray.mk #[97, 98, 99])))] [] (f10_m z56 0 [0, 0, 0, 0, 0, 0, 0, 0, 0, 0, 0, 0] (ByteArray.mk #[97, 98, 99])) (fun z81 => SV.av (AV.one (Lf.v (Value.string z81)))) (fun z81 => []) fun z81 =>
 (.sure (seq (scut z67 0 4) (ByteArray.mk #[16, 241, 231, 228])) true
 (.sure (seq (scut z67 0 4) (ByteArray.mk #[16, 241, 231, 228])) true
 (.sure (seq (scut z67 0 4) (ByteArray.mk #[16, 241, 231, 228])) true
 (.leaf (SV.av (AV.one (Lf.v (Value.bool (ieq (ssz z81) 3)))), [(60300, Blk.cells 23 [Lf.dat (K.arr 32 (K.int IntKind.u8)) z56])]) (ieq (ssz z81) 3))))))))
 (.sure (seq (scut z67 0 4) (ByteArray.mk #[16, 241, 231, 228])) false
 (.sure (seq (scut z67 0 4) (ByteArray.mk #[16, 241, 231, 228])) false
 (.sure (seq (scut z67 0 4) (ByteArray.mk #[16, 241, 231, 228])) false
 (.sure (seq (scut z67 0 4) (ByteArray.mk #[16, 241, 231, 228])) false
 (.sure (seq (scut z67 0 4) (ByteArray.mk #[16, 241, 231, 228])) false
 (.leaf (SV.av (AV.one (Lf.v (Value.bool false))), [(60300, Blk.cells 23 [Lf.dat (K.arr 32 (K.int IntKind.u8)) z56])]) (false))))))))))))))
 (.sure (ieq (ssz z67) 64) false
 (.sure (ieq (ssz z67) 64) false
 (.sure (ieq (ssz z67) 64) false
 (.sure (false) false
 (.sure (false) false
 (.sure (false) false
 (.sure (false) false
 (.sure (false) false
 (.sure (false) false
 (.leaf (SV.av (AV.one (Lf.v (Value.bool false))), [(60300, Blk.cells 23 [Lf.dat (K.arr 32 (K.int IntKind.u8)) z56])]) (false))))))))))))))
theorem f7_v  : vc (runR P noG Try.f7 f7_hn [] []) (f7_t ) = vcT (f7_t ) := by kernel_rfl
theorem f7_o  : obl (Snd P noG) (Lp P noG Try.f7.ntmps [] f7_hn 1) (RelF [] (f7_R )) (f7_t ) := by
 unfold f7_t
 exact (oLoop (fun _ e => f7_l3_s0 0 e (wk_tw [(1, 30300)] [1, 2] [] (by kernel_rfl) (by kernel_rfl))) fun z56 _ =>
 (oCall (fun _ e => f8_s e) fun z67 _ =>
 (oAsk (fun h0 => (oSure h0 (oSure rfl (oSure rfl (oNeed fun h1 => (oSure h0 (oSure h0 (oAsk (fun h2 => (oSure h2 (oSure h2 (oCall (fun _ e => f10_s e) fun z81 _ =>
 (oSure h2 (oSure h2 (oSure h2 (oLeaf (wks_tw [] [] (by kernel_rfl) (by kernel_rfl))))))))))
 (fun h2 => (oSure h2 (oSure h2 (oSure h2 (oSure h2 (oSure h2 (oLeaf (wks_tw [] [] (by kernel_rfl) (by kernel_rfl)))))))))))))))))
 (fun h0 => (oSure h0 (oSure h0 (oSure h0 (oSure rfl (oSure rfl (oSure rfl (oSure rfl (oSure rfl (oSure rfl (oLeaf (wks_tw [] [] (by kernel_rfl) (by kernel_rfl))))))))))))))))
noncomputable def f7_m  : Option (Bool) := mod (f7_t )
theorem f7_e  : f7_m  =
 (Option.bind (f7_l3_m ([0, 0, 0, 0, 0, 0, 0, 0, 0, 0, 0, 0, 0, 0, 0, 0, 0, 0, 0, 0, 0, 0, 0, 0, 0, 0, 0, 0, 0, 0, 0, 0], 0)) fun z56 =>
 (Option.bind (f8_m z56 1 [0, 0, 0, 9, 0, 0, 0, 74, 0, 0, 0, 0]) fun z67 =>
 (sel (ieq (ssz z67) 64)
 (sel (ile 4 (ssz z67))
 (sel (seq (scut z67 0 4) (ByteArray.mk #[16, 241, 231, 228]))
 (Option.bind (f10_m z56 0 [0, 0, 0, 0, 0, 0, 0, 0, 0, 0, 0, 0] (ByteArray.mk #[97, 98, 99])) fun z81 =>
 (some ((ieq (ssz z81) 3))))
 (some ((false)))) none)
 (some ((false)))))) := by kernel_rfl
theorem f7_s  {z : Bool} (h : f7_m  = some z) : Snd P noG 7 [] [] (SV.av (AV.one (Lf.v (Value.bool z)))) [] :=
 snd_tree (hn := f7_hn) 1 (f7_R ) mixed (by kernel_rfl) (by kernel_rfl) (by kernel_rfl) (by kernel_rfl) (by kernel_rfl) (f7_v ) (f7_o ) h
def f3_hn : Hn := Hn.mk [] [(1010, [3]), (1012, [5])] [] [] []
def f3_R (a0_0 : List Int) (a0_1 : Int) (a0_2 : List Int) (a0_3 : ByteArray) : Bool → SV × Hp
  | z => (SV.av (AV.one (Lf.v (Value.bool z))), [])
noncomputable def f3_t (a0_0 : List Int) (a0_1 : Int) (a0_2 : List Int) (a0_3 : ByteArray) : DT (SV × Hp) (Bool) :=
 (.ask (ilt 300 (ssz a0_3))
 (.call 7 [] [] (f7_m) (fun z112 => SV.av (AV.one (Lf.v (Value.bool z112)))) (fun z112 => []) fun z112 =>
 (.leaf (SV.av (AV.one (Lf.v (Value.bool z112))), [(1, Blk.cells 28 [Lf.dat (K.arr 32 (K.int IntKind.u8)) a0_0, Lf.v (Value.int IntKind.u32 a0_1), Lf.dat (K.arr 12 (K.int IntKind.u8)) a0_2, Lf.v (Value.string a0_3)]), (3, Blk.cells 23 [Lf.dat (K.arr 32 (K.int IntKind.u8)) a0_0]), (5, Blk.cells 26 [Lf.dat (K.arr 12 (K.int IntKind.u8)) a0_2])]) (z112)))
 (.call 8 [AV.one (Lf.dat (K.arr 32 (K.int IntKind.u8)) a0_0), AV.one (Lf.v (Value.int IntKind.u32 a0_1)), AV.one (Lf.dat (K.arr 12 (K.int IntKind.u8)) a0_2)] [] (f8_m a0_0 a0_1 a0_2) (fun z123 => SV.av (AV.one (Lf.v (Value.string z123)))) (fun z123 => []) fun z123 =>
 (.call 9 [AV.one (Lf.dat (K.arr 32 (K.int IntKind.u8)) a0_0), AV.one (Lf.v (Value.int IntKind.u32 a0_1)), AV.one (Lf.dat (K.arr 12 (K.int IntKind.u8)) a0_2)] [] (f9_m a0_0 a0_1 a0_2) (fun z134 => SV.av (AV.one (Lf.v (Value.string z134)))) (fun z134 => []) fun z134 =>
 (.ask (seq z123 z134)
 (.sure (seq z123 z134) true
 (.sure (seq z123 z134) true
 (.sure (seq z123 z134) true
 (.sure (seq z123 z134) true
 (.call 10 [AV.one (Lf.dat (K.arr 32 (K.int IntKind.u8)) a0_0), AV.one (Lf.v (Value.int IntKind.u32 a0_1)), AV.one (Lf.dat (K.arr 12 (K.int IntKind.u8)) a0_2), AV.one (Lf.v (Value.string a0_3))] [] (f10_m a0_0 a0_1 a0_2 a0_3) (fun z148 => SV.av (AV.one (Lf.v (Value.string z148)))) (fun z148 => []) fun z148 =>
 (.sure (seq z123 z134) true
 (.sure (seq z123 z134) true
 (.sure (seq z123 z134) true
 (.sure (seq z123 z134) true
 (.sure (seq z123 z134) true
 (.call 11 [AV.one (Lf.dat (K.arr 32 (K.int IntKind.u8)) a0_0), AV.one (Lf.v (Value.int IntKind.u32 a0_1)), AV.one (Lf.dat (K.arr 12 (K.int IntKind.u8)) a0_2), AV.one (Lf.v (Value.string a0_3))] [] (f11_m a0_0 a0_1 a0_2 a0_3) (fun z162 => SV.av (AV.one (Lf.v (Value.string z162)))) (fun z162 => []) fun z162 =>
 (.sure (seq z123 z134) true
 (.sure (seq z123 z134) true
 (.ask (seq z148 z162)
 (.call 7 [] [] (f7_m) (fun z164 => SV.av (AV.one (Lf.v (Value.bool z164)))) (fun z164 => []) fun z164 =>
 (.sure (seq z148 z162) true
 (.leaf (SV.av (AV.one (Lf.v (Value.bool z164))), [(1, Blk.cells 28 [Lf.dat (K.arr 32 (K.int IntKind.u8)) a0_0, Lf.v (Value.int IntKind.u32 a0_1), Lf.dat (K.arr 12 (K.int IntKind.u8)) a0_2, Lf.v (Value.string a0_3)]), (3, Blk.cells 23 [Lf.dat (K.arr 32 (K.int IntKind.u8)) a0_0]), (5, Blk.cells 26 [Lf.dat (K.arr 12 (K.int IntKind.u8)) a0_2])]) (z164))))
 (.sure (seq z148 z162) false
 (.leaf (SV.av (AV.one (Lf.v (Value.bool false))), [(1, Blk.cells 28 [Lf.dat (K.arr 32 (K.int IntKind.u8)) a0_0, Lf.v (Value.int IntKind.u32 a0_1), Lf.dat (K.arr 12 (K.int IntKind.u8)) a0_2, Lf.v (Value.string a0_3)]), (3, Blk.cells 23 [Lf.dat (K.arr 32 (K.int IntKind.u8)) a0_0]), (5, Blk.cells 26 [Lf.dat (K.arr 12 (K.int IntKind.u8)) a0_2])]) (false)))))))))))))))))
 (.sure (seq z123 z134) false
 (.sure (seq z123 z134) false
 (.sure (seq z123 z134) false
 (.sure (seq z123 z134) false
 (.sure (seq z123 z134) false
 (.sure (seq z123 z134) false
 (.sure (seq z123 z134) false
 (.sure (seq z123 z134) false
 (.sure (seq z123 z134) false
 (.sure (seq z123 z134) false
 (.sure (seq z123 z134) false
 (.sure (false) false
 (.sure (false) false
 (.leaf (SV.av (AV.one (Lf.v (Value.bool false))), [(1, Blk.cells 28 [Lf.dat (K.arr 32 (K.int IntKind.u8)) a0_0, Lf.v (Value.int IntKind.u32 a0_1), Lf.dat (K.arr 12 (K.int IntKind.u8)) a0_2, Lf.v (Value.string a0_3)]), (3, Blk.cells 23 [Lf.dat (K.arr 32 (K.int IntKind.u8)) a0_0]), (5, Blk.cells 26 [Lf.dat (K.arr 12 (K.int IntKind.u8)) a0_2])]) (false)))))))))))))))))))
theorem f3_v (a0_0 : List Int) (a0_1 : Int) (a0_2 : List Int) (a0_3 : ByteArray) : vc (runR P noG Try.f3 f3_hn [AV.agg [Lf.dat (K.arr 32 (K.int IntKind.u8)) a0_0, Lf.v (Value.int IntKind.u32 a0_1), Lf.dat (K.arr 12 (K.int IntKind.u8)) a0_2, Lf.v (Value.string a0_3)]] []) (f3_t a0_0 a0_1 a0_2 a0_3) = vcT (f3_t a0_0 a0_1 a0_2 a0_3) := by kernel_rfl
theorem f3_o (a0_0 : List Int) (a0_1 : Int) (a0_2 : List Int) (a0_3 : ByteArray) : obl (Snd P noG) (Lp P noG Try.f3.ntmps [] f3_hn 1) (RelF [] (f3_R a0_0 a0_1 a0_2 a0_3)) (f3_t a0_0 a0_1 a0_2 a0_3) := by
 unfold f3_t
 exact (oAsk (fun h0 => (oCall (fun _ e => f7_s e) fun z112 _ =>
 (oLeaf (wks_tw [] [] (by kernel_rfl) (by kernel_rfl)))))
 (fun h0 => (oCall (fun _ e => f8_s e) fun z123 _ =>
 (oCall (fun _ e => f9_s e) fun z134 _ =>
 (oAsk (fun h1 => (oSure h1 (oSure h1 (oSure h1 (oSure h1 (oCall (fun _ e => f10_s e) fun z148 _ =>
 (oSure h1 (oSure h1 (oSure h1 (oSure h1 (oSure h1 (oCall (fun _ e => f11_s e) fun z162 _ =>
 (oSure h1 (oSure h1 (oAsk (fun h2 => (oCall (fun _ e => f7_s e) fun z164 _ =>
 (oSure h2 (oLeaf (wks_tw [] [] (by kernel_rfl) (by kernel_rfl))))))
 (fun h2 => (oSure h2 (oLeaf (wks_tw [] [] (by kernel_rfl) (by kernel_rfl))))))))))))))))))))
 (fun h1 => (oSure h1 (oSure h1 (oSure h1 (oSure h1 (oSure h1 (oSure h1 (oSure h1 (oSure h1 (oSure h1 (oSure h1 (oSure h1 (oSure rfl (oSure rfl (oLeaf (wks_tw [] [] (by kernel_rfl) (by kernel_rfl))))))))))))))))))))))
noncomputable def f3_m (a0_0 : List Int) (a0_1 : Int) (a0_2 : List Int) (a0_3 : ByteArray) : Option (Bool) := mod (f3_t a0_0 a0_1 a0_2 a0_3)
theorem f3_e (a0_0 : List Int) (a0_1 : Int) (a0_2 : List Int) (a0_3 : ByteArray) : f3_m a0_0 a0_1 a0_2 a0_3 =
 (sel (ilt 300 (ssz a0_3))
 (Option.bind (f7_m) fun z112 =>
 (some ((z112))))
 (Option.bind (f8_m a0_0 a0_1 a0_2) fun z123 =>
 (Option.bind (f9_m a0_0 a0_1 a0_2) fun z134 =>
 (sel (seq z123 z134)
 (Option.bind (f10_m a0_0 a0_1 a0_2 a0_3) fun z148 =>
 (Option.bind (f11_m a0_0 a0_1 a0_2 a0_3) fun z162 =>
 (sel (seq z148 z162)
 (Option.bind (f7_m) fun z164 =>
 (some ((z164))))
 (some ((false))))))
 (some ((false))))))) := by kernel_rfl
theorem f3_s {a0_0 : List Int} {a0_1 : Int} {a0_2 : List Int} {a0_3 : ByteArray} {z : Bool} (h : f3_m a0_0 a0_1 a0_2 a0_3 = some z) : Snd P noG 3 [AV.agg [Lf.dat (K.arr 32 (K.int IntKind.u8)) a0_0, Lf.v (Value.int IntKind.u32 a0_1), Lf.dat (K.arr 12 (K.int IntKind.u8)) a0_2, Lf.v (Value.string a0_3)]] [] (SV.av (AV.one (Lf.v (Value.bool z)))) [] :=
 snd_tree (hn := f3_hn) 1 (f3_R a0_0 a0_1 a0_2 a0_3) mixed (by kernel_rfl) (by kernel_rfl) (by kernel_rfl) (by kernel_rfl) (by kernel_rfl) (f3_v a0_0 a0_1 a0_2 a0_3) (f3_o a0_0 a0_1 a0_2 a0_3) h
def f4_hn : Hn := Hn.mk [] [(1010, [3]), (1012, [5])] [] [] []
def f4_R (a0_0 : List Int) (a0_1 : Int) (a0_2 : List Int) (a0_3 : ByteArray) : Bool → SV × Hp
  | z => (SV.av (AV.one (Lf.v (Value.bool z))), [])
noncomputable def f4_t (a0_0 : List Int) (a0_1 : Int) (a0_2 : List Int) (a0_3 : ByteArray) : DT (SV × Hp) (Bool) :=
 (.ask (ilt 300 (ssz a0_3))
 (.call 7 [] [] (f7_m) (fun z68 => SV.av (AV.one (Lf.v (Value.bool z68)))) (fun z68 => []) fun z68 =>
 (.leaf (SV.av (AV.one (Lf.v (Value.bool z68))), [(1, Blk.cells 35 [Lf.dat (K.arr 32 (K.int IntKind.u8)) a0_0, Lf.v (Value.int IntKind.u32 a0_1), Lf.dat (K.arr 12 (K.int IntKind.u8)) a0_2, Lf.v (Value.string a0_3)]), (3, Blk.cells 23 [Lf.dat (K.arr 32 (K.int IntKind.u8)) a0_0]), (5, Blk.cells 26 [Lf.dat (K.arr 12 (K.int IntKind.u8)) a0_2])]) (z68)))
 (.call 10 [AV.one (Lf.dat (K.arr 32 (K.int IntKind.u8)) a0_0), AV.one (Lf.v (Value.int IntKind.u32 a0_1)), AV.one (Lf.dat (K.arr 12 (K.int IntKind.u8)) a0_2), AV.one (Lf.v (Value.string a0_3))] [] (f10_m a0_0 a0_1 a0_2 a0_3) (fun z82 => SV.av (AV.one (Lf.v (Value.string z82)))) (fun z82 => []) fun z82 =>
 (.ask (ieq (ssz z82) (ssz a0_3))
 (.sure (ieq (ssz z82) (ssz a0_3)) true
 (.sure (ieq (ssz z82) (ssz a0_3)) true
 (.sure (ieq (ssz z82) (ssz a0_3)) true
 (.sure (ieq (ssz z82) (ssz a0_3)) true
 (.call 10 [AV.one (Lf.dat (K.arr 32 (K.int IntKind.u8)) a0_0), AV.one (Lf.v (Value.int IntKind.u32 a0_1)), AV.one (Lf.dat (K.arr 12 (K.int IntKind.u8)) a0_2), AV.one (Lf.v (Value.string z82))] [] (f10_m a0_0 a0_1 a0_2 z82) (fun z96 => SV.av (AV.one (Lf.v (Value.string z96)))) (fun z96 => []) fun z96 =>
 (.sure (ieq (ssz z82) (ssz a0_3)) true
 (.sure (ieq (ssz z82) (ssz a0_3)) true
 (.sure (ieq (ssz z82) (ssz a0_3)) true
 (.ask (seq z96 a0_3)
 (.call 7 [] [] (f7_m) (fun z98 => SV.av (AV.one (Lf.v (Value.bool z98)))) (fun z98 => []) fun z98 =>
 (.sure (seq z96 a0_3) true
 (.leaf (SV.av (AV.one (Lf.v (Value.bool z98))), [(1, Blk.cells 35 [Lf.dat (K.arr 32 (K.int IntKind.u8)) a0_0, Lf.v (Value.int IntKind.u32 a0_1), Lf.dat (K.arr 12 (K.int IntKind.u8)) a0_2, Lf.v (Value.string a0_3)]), (3, Blk.cells 23 [Lf.dat (K.arr 32 (K.int IntKind.u8)) a0_0]), (5, Blk.cells 26 [Lf.dat (K.arr 12 (K.int IntKind.u8)) a0_2])]) (z98))))
 (.sure (seq z96 a0_3) false
 (.leaf (SV.av (AV.one (Lf.v (Value.bool false))), [(1, Blk.cells 35 [Lf.dat (K.arr 32 (K.int IntKind.u8)) a0_0, Lf.v (Value.int IntKind.u32 a0_1), Lf.dat (K.arr 12 (K.int IntKind.u8)) a0_2, Lf.v (Value.string a0_3)]), (3, Blk.cells 23 [Lf.dat (K.arr 32 (K.int IntKind.u8)) a0_0]), (5, Blk.cells 26 [Lf.dat (K.arr 12 (K.int IntKind.u8)) a0_2])]) (false))))))))))))
 (.sure (ieq (ssz z82) (ssz a0_3)) false
 (.sure (ieq (ssz z82) (ssz a0_3)) false
 (.sure (ieq (ssz z82) (ssz a0_3)) false
 (.sure (ieq (ssz z82) (ssz a0_3)) false
 (.sure (ieq (ssz z82) (ssz a0_3)) false
 (.sure (ieq (ssz z82) (ssz a0_3)) false
 (.sure (ieq (ssz z82) (ssz a0_3)) false
 (.sure (false) false
 (.sure (false) false
 (.leaf (SV.av (AV.one (Lf.v (Value.bool false))), [(1, Blk.cells 35 [Lf.dat (K.arr 32 (K.int IntKind.u8)) a0_0, Lf.v (Value.int IntKind.u32 a0_1), Lf.dat (K.arr 12 (K.int IntKind.u8)) a0_2, Lf.v (Value.string a0_3)]), (3, Blk.cells 23 [Lf.dat (K.arr 32 (K.int IntKind.u8)) a0_0]), (5, Blk.cells 26 [Lf.dat (K.arr 12 (K.int IntKind.u8)) a0_2])]) (false))))))))))))))
theorem f4_v (a0_0 : List Int) (a0_1 : Int) (a0_2 : List Int) (a0_3 : ByteArray) : vc (runR P noG Try.f4 f4_hn [AV.agg [Lf.dat (K.arr 32 (K.int IntKind.u8)) a0_0, Lf.v (Value.int IntKind.u32 a0_1), Lf.dat (K.arr 12 (K.int IntKind.u8)) a0_2, Lf.v (Value.string a0_3)]] []) (f4_t a0_0 a0_1 a0_2 a0_3) = vcT (f4_t a0_0 a0_1 a0_2 a0_3) := by kernel_rfl
theorem f4_o (a0_0 : List Int) (a0_1 : Int) (a0_2 : List Int) (a0_3 : ByteArray) : obl (Snd P noG) (Lp P noG Try.f4.ntmps [] f4_hn 1) (RelF [] (f4_R a0_0 a0_1 a0_2 a0_3)) (f4_t a0_0 a0_1 a0_2 a0_3) := by
 unfold f4_t
 exact (oAsk (fun h0 => (oCall (fun _ e => f7_s e) fun z68 _ =>
 (oLeaf (wks_tw [] [] (by kernel_rfl) (by kernel_rfl)))))
 (fun h0 => (oCall (fun _ e => f10_s e) fun z82 _ =>
 (oAsk (fun h1 => (oSure h1 (oSure h1 (oSure h1 (oSure h1 (oCall (fun _ e => f10_s e) fun z96 _ =>
 (oSure h1 (oSure h1 (oSure h1 (oAsk (fun h2 => (oCall (fun _ e => f7_s e) fun z98 _ =>
 (oSure h2 (oLeaf (wks_tw [] [] (by kernel_rfl) (by kernel_rfl))))))
 (fun h2 => (oSure h2 (oLeaf (wks_tw [] [] (by kernel_rfl) (by kernel_rfl)))))))))))))))
 (fun h1 => (oSure h1 (oSure h1 (oSure h1 (oSure h1 (oSure h1 (oSure h1 (oSure h1 (oSure rfl (oSure rfl (oLeaf (wks_tw [] [] (by kernel_rfl) (by kernel_rfl)))))))))))))))))
noncomputable def f4_m (a0_0 : List Int) (a0_1 : Int) (a0_2 : List Int) (a0_3 : ByteArray) : Option (Bool) := mod (f4_t a0_0 a0_1 a0_2 a0_3)
theorem f4_e (a0_0 : List Int) (a0_1 : Int) (a0_2 : List Int) (a0_3 : ByteArray) : f4_m a0_0 a0_1 a0_2 a0_3 =
 (sel (ilt 300 (ssz a0_3))
 (Option.bind (f7_m) fun z68 =>
 (some ((z68))))
 (Option.bind (f10_m a0_0 a0_1 a0_2 a0_3) fun z82 =>
 (sel (ieq (ssz z82) (ssz a0_3))
 (Option.bind (f10_m a0_0 a0_1 a0_2 z82) fun z96 =>
 (sel (seq z96 a0_3)
 (Option.bind (f7_m) fun z98 =>
 (some ((z98))))
 (some ((false)))))
 (some ((false)))))) := by kernel_rfl
theorem f4_s {a0_0 : List Int} {a0_1 : Int} {a0_2 : List Int} {a0_3 : ByteArray} {z : Bool} (h : f4_m a0_0 a0_1 a0_2 a0_3 = some z) : Snd P noG 4 [AV.agg [Lf.dat (K.arr 32 (K.int IntKind.u8)) a0_0, Lf.v (Value.int IntKind.u32 a0_1), Lf.dat (K.arr 12 (K.int IntKind.u8)) a0_2, Lf.v (Value.string a0_3)]] [] (SV.av (AV.one (Lf.v (Value.bool z)))) [] :=
 snd_tree (hn := f4_hn) 1 (f4_R a0_0 a0_1 a0_2 a0_3) mixed (by kernel_rfl) (by kernel_rfl) (by kernel_rfl) (by kernel_rfl) (by kernel_rfl) (f4_v a0_0 a0_1 a0_2 a0_3) (f4_o a0_0 a0_1 a0_2 a0_3) h
def f5_hn : Hn := Hn.mk [] [(1012, [3]), (1014, [5])] [] [] []
def f5_R (a0_0 : List Int) (a0_1 : Int) (a0_2 : List Int) (a0_3 : ByteArray) (a0_4 : Int) : Bool → SV × Hp
  | z => (SV.av (AV.one (Lf.v (Value.bool z))), [])
noncomputable def f5_t (a0_0 : List Int) (a0_1 : Int) (a0_2 : List Int) (a0_3 : ByteArray) (a0_4 : Int) : DT (SV × Hp) (Bool) :=
 (.ask (ilt 300 (ssz a0_3))
 (.call 7 [] [] (f7_m) (fun z94 => SV.av (AV.one (Lf.v (Value.bool z94)))) (fun z94 => []) fun z94 =>
 (.leaf (SV.av (AV.one (Lf.v (Value.bool z94))), [(1, Blk.cells 38 [Lf.dat (K.arr 32 (K.int IntKind.u8)) a0_0, Lf.v (Value.int IntKind.u32 a0_1), Lf.dat (K.arr 12 (K.int IntKind.u8)) a0_2, Lf.v (Value.string a0_3), Lf.v (Value.int IntKind.u8 a0_4)]), (3, Blk.cells 23 [Lf.dat (K.arr 32 (K.int IntKind.u8)) a0_0]), (5, Blk.cells 26 [Lf.dat (K.arr 12 (K.int IntKind.u8)) a0_2])]) (z94)))
 (.sure (true) true
 (.need (bno (ieq (iadd IntKind.i64 (iquo IntKind.i64 (ssz a0_3) 64) 1) 0)) true
 (.sure (true) true
 (.need (ile 0 (imul IntKind.i64 64 (irem (icv IntKind.i64 a0_4) (iadd IntKind.i64 (iquo IntKind.i64 (ssz a0_3) 64) 1)))) true
 (.need (ile (imul IntKind.i64 64 (irem (icv IntKind.i64 a0_4) (iadd IntKind.i64 (iquo IntKind.i64 (ssz a0_3) 64) 1))) (ssz a0_3)) true
 (.call 10 [AV.one (Lf.dat (K.arr 32 (K.int IntKind.u8)) a0_0), AV.one (Lf.v (Value.int IntKind.u32 a0_1)), AV.one (Lf.dat (K.arr 12 (K.int IntKind.u8)) a0_2), AV.one (Lf.v (Value.string (scut a0_3 0 (Int.toNat (imul IntKind.i64 64 (irem (icv IntKind.i64 a0_4) (iadd IntKind.i64 (iquo IntKind.i64 (ssz a0_3) 64) 1)))))))] [] (f10_m a0_0 a0_1 a0_2 (scut a0_3 0 (Int.toNat (imul IntKind.i64 64 (irem (icv IntKind.i64 a0_4) (iadd IntKind.i64 (iquo IntKind.i64 (ssz a0_3) 64) 1)))))) (fun z108 => SV.av (AV.one (Lf.v (Value.string z108)))) (fun z108 => []) fun z108 =>
 (.sure (ile 0 (imul IntKind.i64 64 (irem (icv IntKind.i64 a0_4) (iadd IntKind.i64 (iquo IntKind.i64 (ssz a0_3) 64) 1)))) true
 (.sure (ile (imul IntKind.i64 64 (irem (icv IntKind.i64 a0_4) (iadd IntKind.i64 (iquo IntKind.i64 (ssz a0_3) 64) 1))) (ssz a0_3)) true
 (.call 10 [AV.one (Lf.dat (K.arr 32 (K.int IntKind.u8)) a0_0), AV.one (Lf.v (Value.int IntKind.u32 (iadd IntKind.u32 a0_1 (icv IntKind.u32 (irem (icv IntKind.i64 a0_4) (iadd IntKind.i64 (iquo IntKind.i64 (ssz a0_3) 64) 1)))))), AV.one (Lf.dat (K.arr 12 (K.int IntKind.u8)) a0_2), AV.one (Lf.v (Value.string (scut a0_3 (Int.toNat (imul IntKind.i64 64 (irem (icv IntKind.i64 a0_4) (iadd IntKind.i64 (iquo IntKind.i64 (ssz a0_3) 64) 1)))) (ByteArray.size a0_3))))] [] (f10_m a0_0 (iadd IntKind.u32 a0_1 (icv IntKind.u32 (irem (icv IntKind.i64 a0_4) (iadd IntKind.i64 (iquo IntKind.i64 (ssz a0_3) 64) 1)))) a0_2 (scut a0_3 (Int.toNat (imul IntKind.i64 64 (irem (icv IntKind.i64 a0_4) (iadd IntKind.i64 (iquo IntKind.i64 (ssz a0_3) 64) 1)))) (ByteArray.size a0_3))) (fun z122 => SV.av (AV.one (Lf.v (Value.string z122)))) (fun z122 => []) fun z122 =>
 (.need (nle (ByteArray.size z108 + ByteArray.size z122) 9223372036854775807) true
 (.call 10 [AV.one (Lf.dat (K.arr 32 (K.int IntKind.u8)) a0_0), AV.one (Lf.v (Value.int IntKind.u32 a0_1)), AV.one (Lf.dat (K.arr 12 (K.int IntKind.u8)) a0_2), AV.one (Lf.v (Value.string a0_3))] [] (f10_m a0_0 a0_1 a0_2 a0_3) (fun z136 => SV.av (AV.one (Lf.v (Value.string z136)))) (fun z136 => []) fun z136 =>
 (.ask (seq (sapp z108 z122) z136)
 (.call 7 [] [] (f7_m) (fun z138 => SV.av (AV.one (Lf.v (Value.bool z138)))) (fun z138 => []) fun z138 =>
 (.sure (seq (sapp z108 z122) z136) true
 (.leaf (SV.av (AV.one (Lf.v (Value.bool z138))), [(1, Blk.cells 38 [Lf.dat (K.arr 32 (K.int IntKind.u8)) a0_0, Lf.v (Value.int IntKind.u32 a0_1), Lf.dat (K.arr 12 (K.int IntKind.u8)) a0_2, Lf.v (Value.string a0_3), Lf.v (Value.int IntKind.u8 a0_4)]), (3, Blk.cells 23 [Lf.dat (K.arr 32 (K.int IntKind.u8)) a0_0]), (5, Blk.cells 26 [Lf.dat (K.arr 12 (K.int IntKind.u8)) a0_2])]) (z138))))
 (.sure (seq (sapp z108 z122) z136) false
 (.leaf (SV.av (AV.one (Lf.v (Value.bool false))), [(1, Blk.cells 38 [Lf.dat (K.arr 32 (K.int IntKind.u8)) a0_0, Lf.v (Value.int IntKind.u32 a0_1), Lf.dat (K.arr 12 (K.int IntKind.u8)) a0_2, Lf.v (Value.string a0_3), Lf.v (Value.int IntKind.u8 a0_4)]), (3, Blk.cells 23 [Lf.dat (K.arr 32 (K.int IntKind.u8)) a0_0]), (5, Blk.cells 26 [Lf.dat (K.arr 12 (K.int IntKind.u8)) a0_2])]) (false))))))))))))))))
theorem f5_v (a0_0 : List Int) (a0_1 : Int) (a0_2 : List Int) (a0_3 : ByteArray) (a0_4 : Int) : vc (runR P noG Try.f5 f5_hn [AV.agg [Lf.dat (K.arr 32 (K.int IntKind.u8)) a0_0, Lf.v (Value.int IntKind.u32 a0_1), Lf.dat (K.arr 12 (K.int IntKind.u8)) a0_2, Lf.v (Value.string a0_3), Lf.v (Value.int IntKind.u8 a0_4)]] []) (f5_t a0_0 a0_1 a0_2 a0_3 a0_4) = vcT (f5_t a0_0 a0_1 a0_2 a0_3 a0_4) := by kernel_rfl
theorem f5_o (a0_0 : List Int) (a0_1 : Int) (a0_2 : List Int) (a0_3 : ByteArray) (a0_4 : Int) : obl (Snd P noG) (Lp P noG Try.f5.ntmps [] f5_hn 1) (RelF [] (f5_R a0_0 a0_1 a0_2 a0_3 a0_4)) (f5_t a0_0 a0_1 a0_2 a0_3 a0_4) := by
 unfold f5_t
 exact (oAsk (fun h0 => (oCall (fun _ e => f7_s e) fun z94 _ =>
 (oLeaf (wks_tw [] [] (by kernel_rfl) (by kernel_rfl)))))
 (fun h0 => (oSure rfl (oNeed fun h1 => (oSure rfl (oNeed fun h2 => (oNeed fun h3 => (oCall (fun _ e => f10_s e) fun z108 _ =>
 (oSure h2 (oSure h3 (oCall (fun _ e => f10_s e) fun z122 _ =>
 (oNeed fun h4 => (oCall (fun _ e => f10_s e) fun z136 _ =>
 (oAsk (fun h5 => (oCall (fun _ e => f7_s e) fun z138 _ =>
 (oSure h5 (oLeaf (wks_tw [] [] (by kernel_rfl) (by kernel_rfl))))))
 (fun h5 => (oSure h5 (oLeaf (wks_tw [] [] (by kernel_rfl) (by kernel_rfl)))))))))))))))))))
noncomputable def f5_m (a0_0 : List Int) (a0_1 : Int) (a0_2 : List Int) (a0_3 : ByteArray) (a0_4 : Int) : Option (Bool) := mod (f5_t a0_0 a0_1 a0_2 a0_3 a0_4)
theorem f5_e (a0_0 : List Int) (a0_1 : Int) (a0_2 : List Int) (a0_3 : ByteArray) (a0_4 : Int) : f5_m a0_0 a0_1 a0_2 a0_3 a0_4 =
 (sel (ilt 300 (ssz a0_3))
 (Option.bind (f7_m) fun z94 =>
 (some ((z94))))
 (sel (bno (ieq (iadd IntKind.i64 (iquo IntKind.i64 (ssz a0_3) 64) 1) 0))
 (sel (ile 0 (imul IntKind.i64 64 (irem (icv IntKind.i64 a0_4) (iadd IntKind.i64 (iquo IntKind.i64 (ssz a0_3) 64) 1))))
 (sel (ile (imul IntKind.i64 64 (irem (icv IntKind.i64 a0_4) (iadd IntKind.i64 (iquo IntKind.i64 (ssz a0_3) 64) 1))) (ssz a0_3))
 (Option.bind (f10_m a0_0 a0_1 a0_2 (scut a0_3 0 (Int.toNat (imul IntKind.i64 64 (irem (icv IntKind.i64 a0_4) (iadd IntKind.i64 (iquo IntKind.i64 (ssz a0_3) 64) 1)))))) fun z108 =>
 (Option.bind (f10_m a0_0 (iadd IntKind.u32 a0_1 (icv IntKind.u32 (irem (icv IntKind.i64 a0_4) (iadd IntKind.i64 (iquo IntKind.i64 (ssz a0_3) 64) 1)))) a0_2 (scut a0_3 (Int.toNat (imul IntKind.i64 64 (irem (icv IntKind.i64 a0_4) (iadd IntKind.i64 (iquo IntKind.i64 (ssz a0_3) 64) 1)))) (ByteArray.size a0_3))) fun z122 =>
 (sel (nle (ByteArray.size z108 + ByteArray.size z122) 9223372036854775807)
 (Option.bind (f10_m a0_0 a0_1 a0_2 a0_3) fun z136 =>
 (sel (seq (sapp z108 z122) z136)
 (Option.bind (f7_m) fun z138 =>
 (some ((z138))))
 (some ((false))))) none))) none) none) none)) := by kernel_rfl
theorem f5_s {a0_0 : List Int} {a0_1 : Int} {a0_2 : List Int} {a0_3 : ByteArray} {a0_4 : Int} {z : Bool} (h : f5_m a0_0 a0_1 a0_2 a0_3 a0_4 = some z) : Snd P noG 5 [AV.agg [Lf.dat (K.arr 32 (K.int IntKind.u8)) a0_0, Lf.v (Value.int IntKind.u32 a0_1), Lf.dat (K.arr 12 (K.int IntKind.u8)) a0_2, Lf.v (Value.string a0_3), Lf.v (Value.int IntKind.u8 a0_4)]] [] (SV.av (AV.one (Lf.v (Value.bool z)))) [] :=
 snd_tree (hn := f5_hn) 1 (f5_R a0_0 a0_1 a0_2 a0_3 a0_4) mixed (by kernel_rfl) (by kernel_rfl) (by kernel_rfl) (by kernel_rfl) (by kernel_rfl) (f5_v a0_0 a0_1 a0_2 a0_3 a0_4) (f5_o a0_0 a0_1 a0_2 a0_3 a0_4) h
def f6_hn : Hn := Hn.mk [] [(1012, [3]), (1014, [5])] [] [] []
def f6_R (a0_0 : List Int) (a0_1 : Int) (a0_2 : List Int) (a0_3 : ByteArray) (a0_4 : Int) : Bool → SV × Hp
  | z => (SV.av (AV.one (Lf.v (Value.bool z))), [])
noncomputable def f6_t (a0_0 : List Int) (a0_1 : Int) (a0_2 : List Int) (a0_3 : ByteArray) (a0_4 : Int) : DT (SV × Hp) (Bool) :=
 (.ask (ilt 300 (ssz a0_3))
 (.call 7 [] [] (f7_m) (fun z142 => SV.av (AV.one (Lf.v (Value.bool z142)))) (fun z142 => []) fun z142 =>
 (.leaf (SV.av (AV.one (Lf.v (Value.bool z142))), [(1, Blk.cells 41 [Lf.dat (K.arr 32 (K.int IntKind.u8)) a0_0, Lf.v (Value.int IntKind.u32 a0_1), Lf.dat (K.arr 12 (K.int IntKind.u8)) a0_2, Lf.v (Value.string a0_3), Lf.v (Value.int IntKind.u8 a0_4)]), (3, Blk.cells 23 [Lf.dat (K.arr 32 (K.int IntKind.u8)) a0_0]), (5, Blk.cells 26 [Lf.dat (K.arr 12 (K.int IntKind.u8)) a0_2])]) (z142)))
 (.call 10 [AV.one (Lf.dat (K.arr 32 (K.int IntKind.u8)) a0_0), AV.one (Lf.v (Value.int IntKind.u32 a0_1)), AV.one (Lf.dat (K.arr 12 (K.int IntKind.u8)) a0_2), AV.one (Lf.v (Value.string a0_3))] [] (f10_m a0_0 a0_1 a0_2 a0_3) (fun z156 => SV.av (AV.one (Lf.v (Value.string z156)))) (fun z156 => []) fun z156 =>
 (.need (bno (ieq (iadd IntKind.i64 (ssz a0_3) 1) 0)) true
 (.call 8 [AV.one (Lf.dat (K.arr 32 (K.int IntKind.u8)) a0_0), AV.one (Lf.v (Value.int IntKind.u32 a0_1)), AV.one (Lf.dat (K.arr 12 (K.int IntKind.u8)) a0_2)] [] (f8_m a0_0 a0_1 a0_2) (fun z167 => SV.av (AV.one (Lf.v (Value.string z167)))) (fun z167 => []) fun z167 =>
 (.call 8 [AV.one (Lf.dat (K.arr 32 (K.int IntKind.u8)) a0_0), AV.one (Lf.v (Value.int IntKind.u32 (iadd IntKind.u32 a0_1 1))), AV.one (Lf.dat (K.arr 12 (K.int IntKind.u8)) a0_2)] [] (f8_m a0_0 (iadd IntKind.u32 a0_1 1) a0_2) (fun z178 => SV.av (AV.one (Lf.v (Value.string z178)))) (fun z178 => []) fun z178 =>
 (.need (nle (ByteArray.size z167 + ByteArray.size z178) 9223372036854775807) true
 (.ask (ieq (ssz z156) (ssz a0_3))
 (.sure (ieq (ssz z156) (ssz a0_3)) true
 (.sure (ieq (ssz z156) (ssz a0_3)) true
 (.sure (true) true
 (.need (ile 0 (irem (icv IntKind.i64 a0_4) (iadd IntKind.i64 (ssz a0_3) 1))) true
 (.need (ile (irem (icv IntKind.i64 a0_4) (iadd IntKind.i64 (ssz a0_3) 1)) (ssz z156)) true
 (.sure (ieq (ssz z156) (ssz a0_3)) true
 (.sure (ieq (ssz z156) (ssz a0_3)) true
 (.sure (ieq (ssz z156) (ssz a0_3)) true
 (.sure (ieq (ssz z156) (ssz a0_3)) true
 (.sure (ieq (ssz z156) (ssz a0_3)) true
 (.sure (ieq (ssz z156) (ssz a0_3)) true
 (.sure (true) true
 (.sure (ile 0 (irem (icv IntKind.i64 a0_4) (iadd IntKind.i64 (ssz a0_3) 1))) true
 (.need (ile (irem (icv IntKind.i64 a0_4) (iadd IntKind.i64 (ssz a0_3) 1)) (ssz a0_3)) true
 (.sure (ieq (ssz z156) (ssz a0_3)) true
 (.call 10 [AV.one (Lf.dat (K.arr 32 (K.int IntKind.u8)) a0_0), AV.one (Lf.v (Value.int IntKind.u32 a0_1)), AV.one (Lf.dat (K.arr 12 (K.int IntKind.u8)) a0_2), AV.one (Lf.v (Value.string (scut a0_3 0 (Int.toNat (irem (icv IntKind.i64 a0_4) (iadd IntKind.i64 (ssz a0_3) 1))))))] [] (f10_m a0_0 a0_1 a0_2 (scut a0_3 0 (Int.toNat (irem (icv IntKind.i64 a0_4) (iadd IntKind.i64 (ssz a0_3) 1))))) (fun z192 => SV.av (AV.one (Lf.v (Value.string z192)))) (fun z192 => []) fun z192 =>
 (.sure (ieq (ssz z156) (ssz a0_3)) true
 (.sure (ieq (ssz z156) (ssz a0_3)) true
 (.ask (seq (scut z156 0 (Int.toNat (irem (icv IntKind.i64 a0_4) (iadd IntKind.i64 (ssz a0_3) 1)))) z192)
 (.sure (seq (scut z156 0 (Int.toNat (irem (icv IntKind.i64 a0_4) (iadd IntKind.i64 (ssz a0_3) 1)))) z192) true
 (.sure (seq (scut z156 0 (Int.toNat (irem (icv IntKind.i64 a0_4) (iadd IntKind.i64 (ssz a0_3) 1)))) z192) true
 (.sure (seq (scut z156 0 (Int.toNat (irem (icv IntKind.i64 a0_4) (iadd IntKind.i64 (ssz a0_3) 1)))) z192) true
 (.sure (seq (scut z156 0 (Int.toNat (irem (icv IntKind.i64 a0_4) (iadd IntKind.i64 (ssz a0_3) 1)))) z192) true
 (.sure (true) true
 (.sure (true) true
 (.sure (true) true
 (.sure (seq (scut z156 0 (Int.toNat (irem (icv IntKind.i64 a0_4) (iadd IntKind.i64 (ssz a0_3) 1)))) z192) true
 (.pick true (.sure (true) true
 (.sure (seq (scut z156 0 (Int.toNat (irem (icv IntKind.i64 a0_4) (iadd IntKind.i64 (ssz a0_3) 1)))) z192) true
 (.call 10 [AV.one (Lf.dat (K.arr 32 (K.int IntKind.u8)) a0_0), AV.one (Lf.v (Value.int IntKind.u32 a0_1)), AV.one (Lf.dat (K.arr 12 (K.int IntKind.u8)) a0_2), AV.one (Lf.v (Value.string (strOfNums (List.replicate 128 0))))] [] (f10_m a0_0 a0_1 a0_2 (strOfNums (List.replicate 128 0))) (fun z206 => SV.av (AV.one (Lf.v (Value.string z206)))) (fun z206 => []) fun z206 =>
 (.sure (seq (scut z156 0 (Int.toNat (irem (icv IntKind.i64 a0_4) (iadd IntKind.i64 (ssz a0_3) 1)))) z192) true
 (.sure (seq (scut z156 0 (Int.toNat (irem (icv IntKind.i64 a0_4) (iadd IntKind.i64 (ssz a0_3) 1)))) z192) true
 (.ask (seq (sapp z167 z178) z206)
 (.call 7 [] [] (f7_m) (fun z208 => SV.av (AV.one (Lf.v (Value.bool z208)))) (fun z208 => []) fun z208 =>
 (.sure (seq (sapp z167 z178) z206) true
 (.leaf (SV.av (AV.one (Lf.v (Value.bool z208))), [(1, Blk.cells 41 [Lf.dat (K.arr 32 (K.int IntKind.u8)) a0_0, Lf.v (Value.int IntKind.u32 a0_1), Lf.dat (K.arr 12 (K.int IntKind.u8)) a0_2, Lf.v (Value.string a0_3), Lf.v (Value.int IntKind.u8 a0_4)]), (3, Blk.cells 23 [Lf.dat (K.arr 32 (K.int IntKind.u8)) a0_0]), (5, Blk.cells 26 [Lf.dat (K.arr 12 (K.int IntKind.u8)) a0_2]), (69, Blk.row 5 (K.int IntKind.u8) (List.replicate 128 0))]) (z208))))
 (.sure (seq (sapp z167 z178) z206) false
 (.leaf (SV.av (AV.one (Lf.v (Value.bool false))), [(1, Blk.cells 41 [Lf.dat (K.arr 32 (K.int IntKind.u8)) a0_0, Lf.v (Value.int IntKind.u32 a0_1), Lf.dat (K.arr 12 (K.int IntKind.u8)) a0_2, Lf.v (Value.string a0_3), Lf.v (Value.int IntKind.u8 a0_4)]), (3, Blk.cells 23 [Lf.dat (K.arr 32 (K.int IntKind.u8)) a0_0]), (5, Blk.cells 26 [Lf.dat (K.arr 12 (K.int IntKind.u8)) a0_2]), (69, Blk.row 5 (K.int IntKind.u8) (List.replicate 128 0))]) (false))))))))))))))))))
 (.sure (seq (scut z156 0 (Int.toNat (irem (icv IntKind.i64 a0_4) (iadd IntKind.i64 (ssz a0_3) 1)))) z192) false
 (.sure (seq (scut z156 0 (Int.toNat (irem (icv IntKind.i64 a0_4) (iadd IntKind.i64 (ssz a0_3) 1)))) z192) false
 (.sure (seq (scut z156 0 (Int.toNat (irem (icv IntKind.i64 a0_4) (iadd IntKind.i64 (ssz a0_3) 1)))) z192) false
 (.sure (seq (scut z156 0 (Int.toNat (irem (icv IntKind.i64 a0_4) (iadd IntKind.i64 (ssz a0_3) 1)))) z192) false
 (.sure (seq (scut z156 0 (Int.toNat (irem (icv IntKind.i64 a0_4) (iadd IntKind.i64 (ssz a0_3) 1)))) z192) false
 (.sure (seq (scut z156 0 (Int.toNat (irem (icv IntKind.i64 a0_4) (iadd IntKind.i64 (ssz a0_3) 1)))) z192) false
 (.sure (seq (scut z156 0 (Int.toNat (irem (icv IntKind.i64 a0_4) (iadd IntKind.i64 (ssz a0_3) 1)))) z192) false
 (.sure (seq (scut z156 0 (Int.toNat (irem (icv IntKind.i64 a0_4) (iadd IntKind.i64 (ssz a0_3) 1)))) z192) false
 (.sure (false) false
 (.sure (false) false
 (.leaf (SV.av (AV.one (Lf.v (Value.bool false))), [(1, Blk.cells 41 [Lf.dat (K.arr 32 (K.int IntKind.u8)) a0_0, Lf.v (Value.int IntKind.u32 a0_1), Lf.dat (K.arr 12 (K.int IntKind.u8)) a0_2, Lf.v (Value.string a0_3), Lf.v (Value.int IntKind.u8 a0_4)]), (3, Blk.cells 23 [Lf.dat (K.arr 32 (K.int IntKind.u8)) a0_0]), (5, Blk.cells 26 [Lf.dat (K.arr 12 (K.int IntKind.u8)) a0_2])]) (false)))))))))))))))))))))))))))))))
 (.sure (ieq (ssz z156) (ssz a0_3)) false
 (.sure (ieq (ssz z156) (ssz a0_3)) false
 (.sure (ieq (ssz z156) (ssz a0_3)) false
 (.sure (ieq (ssz z156) (ssz a0_3)) false
 (.sure (ieq (ssz z156) (ssz a0_3)) false
 (.sure (ieq (ssz z156) (ssz a0_3)) false
 (.sure (ieq (ssz z156) (ssz a0_3)) false
 (.sure (ieq (ssz z156) (ssz a0_3)) false
 (.sure (ieq (ssz z156) (ssz a0_3)) false
 (.sure (ieq (ssz z156) (ssz a0_3)) false
 (.sure (ieq (ssz z156) (ssz a0_3)) false
 (.sure (false) false
 (.sure (false) false
 (.sure (false) false
 (.sure (false) false
 (.sure (false) false
 (.sure (false) false
 (.sure (false) false
 (.sure (false) false
 (.sure (false) false
 (.sure (false) false
 (.sure (false) false
 (.leaf (SV.av (AV.one (Lf.v (Value.bool false))), [(1, Blk.cells 41 [Lf.dat (K.arr 32 (K.int IntKind.u8)) a0_0, Lf.v (Value.int IntKind.u32 a0_1), Lf.dat (K.arr 12 (K.int IntKind.u8)) a0_2, Lf.v (Value.string a0_3), Lf.v (Value.int IntKind.u8 a0_4)]), (3, Blk.cells 23 [Lf.dat (K.arr 32 (K.int IntKind.u8)) a0_0]), (5, Blk.cells 26 [Lf.dat (K.arr 12 (K.int IntKind.u8)) a0_2])]) (false)))))))))))))))))))))))))))))))
theorem f6_v (a0_0 : List Int) (a0_1 : Int) (a0_2 : List Int) (a0_3 : ByteArray) (a0_4 : Int) : vc (runR P noG Try.f6 f6_hn [AV.agg [Lf.dat (K.arr 32 (K.int IntKind.u8)) a0_0, Lf.v (Value.int IntKind.u32 a0_1), Lf.dat (K.arr 12 (K.int IntKind.u8)) a0_2, Lf.v (Value.string a0_3), Lf.v (Value.int IntKind.u8 a0_4)]] []) (f6_t a0_0 a0_1 a0_2 a0_3 a0_4) = vcT (f6_t a0_0 a0_1 a0_2 a0_3 a0_4) := by kernel_rfl
theorem f6_o (a0_0 : List Int) (a0_1 : Int) (a0_2 : List Int) (a0_3 : ByteArray) (a0_4 : Int) : obl (Snd P noG) (Lp P noG Try.f6.ntmps [] f6_hn 1) (RelF [] (f6_R a0_0 a0_1 a0_2 a0_3 a0_4)) (f6_t a0_0 a0_1 a0_2 a0_3 a0_4) := by
 unfold f6_t
 exact (oAsk (fun h0 => (oCall (fun _ e => f7_s e) fun z142 _ =>
 (oLeaf (wks_tw [] [] (by kernel_rfl) (by kernel_rfl)))))
 (fun h0 => (oCall (fun _ e => f10_s e) fun z156 _ =>
 (oNeed fun h1 => (oCall (fun _ e => f8_s e) fun z167 _ =>
 (oCall (fun _ e => f8_s e) fun z178 _ =>
 (oNeed fun h2 => (oAsk (fun h3 => (oSure h3 (oSure h3 (oSure rfl (oNeed fun h4 => (oNeed fun h5 => (oSure h3 (oSure h3 (oSure h3 (oSure h3 (oSure h3 (oSure h3 (oSure rfl (oSure h4 (oNeed fun h6 => (oSure h3 (oCall (fun _ e => f10_s e) fun z192 _ =>
 (oSure h3 (oSure h3 (oAsk (fun h7 => (oSure h7 (oSure h7 (oSure h7 (oSure h7 (oSure rfl (oSure rfl (oSure rfl (oSure h7 (oPick (oSure rfl (oSure h7 (oCall (fun _ e => f10_s e) fun z206 _ =>
 (oSure h7 (oSure h7 (oAsk (fun h8 => (oCall (fun _ e => f7_s e) fun z208 _ =>
 (oSure h8 (oLeaf (wks_tw [] [] (by kernel_rfl) (by kernel_rfl))))))
 (fun h8 => (oSure h8 (oLeaf (wks_tw [] [] (by kernel_rfl) (by kernel_rfl)))))))))))))))))))))
 (fun h7 => (oSure h7 (oSure h7 (oSure h7 (oSure h7 (oSure h7 (oSure h7 (oSure h7 (oSure h7 (oSure rfl (oSure rfl (oLeaf (wks_tw [] [] (by kernel_rfl) (by kernel_rfl))))))))))))))))))))))))))))))))))
 (fun h3 => (oSure h3 (oSure h3 (oSure h3 (oSure h3 (oSure h3 (oSure h3 (oSure h3 (oSure h3 (oSure h3 (oSure h3 (oSure h3 (oSure rfl (oSure rfl (oSure rfl (oSure rfl (oSure rfl (oSure rfl (oSure rfl (oSure rfl (oSure rfl (oSure rfl (oSure rfl (oLeaf (wks_tw [] [] (by kernel_rfl) (by kernel_rfl))))))))))))))))))))))))))))))))))
noncomputable def f6_m (a0_0 : List Int) (a0_1 : Int) (a0_2 : List Int) (a0_3 : ByteArray) (a0_4 : Int) : Option (Bool) := mod (f6_t a0_0 a0_1 a0_2 a0_3 a0_4)
theorem f6_e (a0_0 : List Int) (a0_1 : Int) (a0_2 : List Int) (a0_3 : ByteArray) (a0_4 : Int) : f6_m a0_0 a0_1 a0_2 a0_3 a0_4 =
 (sel (ilt 300 (ssz a0_3))
 (Option.bind (f7_m) fun z142 =>
 (some ((z142))))
 (Option.bind (f10_m a0_0 a0_1 a0_2 a0_3) fun z156 =>
 (sel (bno (ieq (iadd IntKind.i64 (ssz a0_3) 1) 0))
 (Option.bind (f8_m a0_0 a0_1 a0_2) fun z167 =>
 (Option.bind (f8_m a0_0 (iadd IntKind.u32 a0_1 1) a0_2) fun z178 =>
 (sel (nle (ByteArray.size z167 + ByteArray.size z178) 9223372036854775807)
 (sel (ieq (ssz z156) (ssz a0_3))
 (sel (ile 0 (irem (icv IntKind.i64 a0_4) (iadd IntKind.i64 (ssz a0_3) 1)))
 (sel (ile (irem (icv IntKind.i64 a0_4) (iadd IntKind.i64 (ssz a0_3) 1)) (ssz z156))
 (sel (ile (irem (icv IntKind.i64 a0_4) (iadd IntKind.i64 (ssz a0_3) 1)) (ssz a0_3))
 (Option.bind (f10_m a0_0 a0_1 a0_2 (scut a0_3 0 (Int.toNat (irem (icv IntKind.i64 a0_4) (iadd IntKind.i64 (ssz a0_3) 1))))) fun z192 =>
 (sel (seq (scut z156 0 (Int.toNat (irem (icv IntKind.i64 a0_4) (iadd IntKind.i64 (ssz a0_3) 1)))) z192)
 (Option.bind (f10_m a0_0 a0_1 a0_2 (strOfNums (List.replicate 128 0))) fun z206 =>
 (sel (seq (sapp z167 z178) z206)
 (Option.bind (f7_m) fun z208 =>
 (some ((z208))))
 (some ((false)))))
 (some ((false))))) none) none) none)
 (some ((false)))) none))) none))) := by kernel_rfl
theorem f6_s {a0_0 : List Int} {a0_1 : Int} {a0_2 : List Int} {a0_3 : ByteArray} {a0_4 : Int} {z : Bool} (h : f6_m a0_0 a0_1 a0_2 a0_3 a0_4 = some z) : Snd P noG 6 [AV.agg [Lf.dat (K.arr 32 (K.int IntKind.u8)) a0_0, Lf.v (Value.int IntKind.u32 a0_1), Lf.dat (K.arr 12 (K.int IntKind.u8)) a0_2, Lf.v (Value.string a0_3), Lf.v (Value.int IntKind.u8 a0_4)]] [] (SV.av (AV.one (Lf.v (Value.bool z)))) [] :=
 snd_tree (hn := f6_hn) 1 (f6_R a0_0 a0_1 a0_2 a0_3 a0_4) mixed (by kernel_rfl) (by kernel_rfl) (by kernel_rfl) (by kernel_rfl) (by kernel_rfl) (f6_v a0_0 a0_1 a0_2 a0_3 a0_4) (f6_o a0_0 a0_1 a0_2 a0_3 a0_4) h

end Go.Proofs.Ytkbpgmhkmhojnaa
