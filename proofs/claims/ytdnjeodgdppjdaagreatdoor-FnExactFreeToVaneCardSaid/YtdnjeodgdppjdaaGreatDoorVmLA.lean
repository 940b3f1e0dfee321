/- Printed by vmprint.py: plain functions. -/
import Derived.Test.YtdnjeodgdppjdaaGreatDoorVmLTy
namespace Go.Proofs.Vm
open Go
set_option linter.unusedVariables false
def gw_szChartStepS (K : Nat) (a0 : (List DY0)) (a1 : Int) : Option (Int × Unit) :=
(cond (decide ((IntKind.wrap .i64 (a1 - ((a0.length : Int)))) < 0))
(some ((-1), ()))
(some (IntKind.wrap .i64 (a1 - ((a0.length : Int))), ())))
def gw_szCrane (K : Nat) (a0 : DY1) (a1 : Int) : Option (Int × Unit) :=
(cond (decide ((IntKind.wrap .i64 (a1 - ((a0.1.size : Int)))) < 0))
(some ((-1), ()))
((gw_szChartStepS K a0.2.2.2.2.2.1 (IntKind.wrap .i64 (a1 - ((a0.1.size : Int))))).bind fun r1 =>
(cond (decide (r1.1 < 0))
(some ((-1), ()))
(some (r1.1, ())))))
def lw_szCraneS_0 (K : Nat) {R : Type} (d : (List DY1) × Int × Int × Unit) (kx : ((Int × Int × Unit) ⊕ (Int × Unit)) → Option R) (kn : ((List DY1) × Int × Int × Unit) → Option R) : Option R := match d with
| (v0_0, v0_1, v0_2, ()) =>
(cond (decide (v0_2 < ((v0_0.length : Int))))
(atIdx v0_0.length v0_2 fun j1 =>
((gw_szCrane K (v0_0.getD j1 Z1) v0_1).bind fun r2 =>
(cond (decide (r2.1 < 0))
(kx (.inl (r2.1, (-1), ())))
(kn (v0_0, r2.1, IntKind.wrap .i64 (v0_2 + 1), ())))))
(kx (.inr (v0_1, ()))))
def gw_szCraneS (K : Nat) (a0 : (List DY1)) (a1 : Int) : Option (Int × Unit) :=
(cond (decide ((IntKind.wrap .i64 (a1 - ((a0.length : Int)))) < 0))
(some ((-1), ()))
(iter (lw_szCraneS_0 K) K (a0, IntKind.wrap .i64 (a1 - ((a0.length : Int))), 0, ()) fun o3 => match o3 with
| .inl (x4, x5, ()) => (some (x5, ()))
| .inr (x6, ()) => (some (x6, ()))))
def gw_szSite (K : Nat) (a0 : DY2) (a1 : Int) : Option (Int × Unit) :=
((gw_szCraneS K a0.1 a1).bind fun r1 =>
(cond (decide (r1.1 < 0))
(some ((-1), ()))
(some (r1.1, ()))))
def gw_toPoint (K : Nat) (a0 : DY0) : Option (DY0 × Unit) :=
(some (a0, ()))
def gw_toChartStep (K : Nat) (a0 : DY0) : Option (DY0 × Unit) :=
(some (a0, ()))
def lw_toChartStepS_0 (K : Nat) {R : Type} (d : (List DY0) × Int × (List DY0) × Unit) (kx : ((List DY0) × Unit) → Option R) (kn : ((List DY0) × Int × (List DY0) × Unit) → Option R) : Option R := match d with
| (v0_0, v0_1, v0_2, ()) =>
(cond (decide (v0_1 < ((v0_0.length : Int))))
(atIdx v0_0.length v0_1 fun j1 =>
((gw_toChartStep K (v0_0.getD j1 Z0)).bind fun r2 =>
(atIdx v0_2.length v0_1 fun j3 =>
(kn (v0_0, IntKind.wrap .i64 (v0_1 + 1), v0_2.set j3 r2.1, ())))))
(kx (v0_2, ())))
def gw_toChartStepS (K : Nat) (a0 : (List DY0)) : Option ((List DY0) × Unit) :=
(cond (decide (0 ≤ (a0.length : Int))) (cond (decide (((a0.length : Int)) * (16 + 1) ≤ (roomB : Int)))
(iter (lw_toChartStepS_0 K) K (a0, 0, List.replicate ((a0.length : Int)).toNat ((0, (0, ()))), ()) fun (x4, ()) =>
(some (x4, ()))) none) none)
def gw_toCrane (K : Nat) (a0 : DY1) : Option (DY1 × Unit) :=
((gw_toPoint K a0.2.1).bind fun r1 =>
((gw_toChartStepS K a0.2.2.2.2.2.1).bind fun r2 =>
(some ((a0.1, (r1.1, (a0.2.2.1, (a0.2.2.2.1, (a0.2.2.2.2.1, (r2.1, ())))))), ()))))
def lw_toCraneS_0 (K : Nat) {R : Type} (d : (List DY1) × Int × (List DY1) × Unit) (kx : ((List DY1) × Unit) → Option R) (kn : ((List DY1) × Int × (List DY1) × Unit) → Option R) : Option R := match d with
| (v0_0, v0_1, v0_2, ()) =>
(cond (decide (v0_1 < ((v0_0.length : Int))))
(atIdx v0_0.length v0_1 fun j1 =>
((gw_toCrane K (v0_0.getD j1 Z1)).bind fun r2 =>
(atIdx v0_2.length v0_1 fun j3 =>
(kn (v0_0, IntKind.wrap .i64 (v0_1 + 1), v0_2.set j3 r2.1, ())))))
(kx (v0_2, ())))
def gw_toCraneS (K : Nat) (a0 : (List DY1)) : Option ((List DY1) × Unit) :=
(cond (decide (0 ≤ (a0.length : Int))) (cond (decide (((a0.length : Int)) * (80 + 1) ≤ (roomB : Int)))
(iter (lw_toCraneS_0 K) K (a0, 0, List.replicate ((a0.length : Int)).toNat ((⟨#[]⟩, ((0, (0, ())), (0, (0, (0, ([], ()))))))), ()) fun (x4, ()) =>
(some (x4, ()))) none) none)
def gw_toSite (K : Nat) (a0 : DY2) : Option (DY2 × Unit) :=
((gw_toCraneS K a0.1).bind fun r1 =>
(some ((r1.1, ()), ())))
def gs_l01Small (K : Nat) (a0 : Int) : Option (Bool × Unit) :=
(cond (decide (a0 ≥ 97))
(some (decide (a0 ≤ 122), ()))
(some (false, ())))
def gs_l01Digit (K : Nat) (a0 : Int) : Option (Bool × Unit) :=
(cond (decide (a0 ≥ 48))
(some (decide (a0 ≤ 57), ()))
(some (false, ())))
def ls_IsName_0 (K : Nat) {R : Type} (d : ByteArray × Int × Unit) (kx : ((Bool × Unit) ⊕ (Unit)) → Option R) (kn : (ByteArray × Int × Unit) → Option R) : Option R := match d with
| (v0_0, v0_1, ()) =>
(cond (decide (v0_1 < ((v0_0.size : Int))))
(atIdx v0_0.size v0_1 fun j3 =>
((gs_l01Small K (bt v0_0 j3)).bind fun r4 =>
(cond (!r4.1)
(atIdx v0_0.size v0_1 fun j5 =>
((gs_l01Digit K (bt v0_0 j5)).bind fun r6 =>
(cond (!r6.1)
(atIdx v0_0.size v0_1 fun j7 =>
(cond ((bt v0_0 j7) != 45)
(kx (.inl (false, ())))
(kn (v0_0, IntKind.wrap .i64 (v0_1 + 1), ()))))
(kn (v0_0, IntKind.wrap .i64 (v0_1 + 1), ())))))
(kn (v0_0, IntKind.wrap .i64 (v0_1 + 1), ())))))
(kx (.inr ())))
def gs_IsName (K : Nat) (a0 : ByteArray) : Option (Bool × Unit) :=
(cond (strEq a0 ⟨#[]⟩)
(some (false, ()))
(cond (decide (((a0.size : Int)) > 12))
(some (false, ()))
(atIdx a0.size 0 fun j1 =>
((gs_l01Small K (bt a0 j1)).bind fun r2 =>
(cond (!r2.1)
(some (false, ()))
(iter (ls_IsName_0 K) K (a0, 0, ()) fun o8 => match o8 with
| .inl (x9, ()) => (some (x9, ()))
| .inr () => (some (true, ()))))))))
def gs_l00In (K : Nat) (a0 : Int) (a1 : Int) (a2 : Int) : Option (Bool × Unit) :=
(cond (decide (a0 ≥ a1))
(some (decide (a0 ≤ a2), ()))
(some (false, ())))
def gs_l02Ok (K : Nat) (a0 : DY0) : Option (Bool × Unit) :=
((gs_l00In K a0.1 ((-10000)) 10000).bind fun r1 =>
(cond r1.1
((gs_l00In K a0.2.1 ((-10000)) 10000).bind fun r2 =>
(some (r2.1, ())))
(some (false, ()))))
def ls_l03Ok_0 (K : Nat) {R : Type} (d : (List DY0) × Int × Unit) (kx : (((List DY0) × Bool × Unit) ⊕ ((List DY0) × Unit)) → Option R) (kn : ((List DY0) × Int × Unit) → Option R) : Option R := match d with
| (v0_0, v0_1, ()) =>
(cond (decide (v0_1 < ((v0_0.length : Int))))
(atIdx v0_0.length v0_1 fun j1 =>
((gs_l00In K ((v0_0.getD j1 Z0).1) 1 1000).bind fun r2 =>
(cond (!r2.1)
(kx (.inl (v0_0, false, ())))
(atIdx v0_0.length v0_1 fun j3 =>
((gs_l00In K (((v0_0.getD j3 Z0).2).1) 0 50000).bind fun r4 =>
(cond (!r4.1)
(kx (.inl (v0_0, false, ())))
(cond (decide (v0_1 > 0))
(atIdx v0_0.length v0_1 fun j5 =>
(atIdx v0_0.length (IntKind.wrap .i64 (v0_1 - 1)) fun j6 =>
(cond (decide (((v0_0.getD j5 Z0).1) ≤ ((v0_0.getD j6 Z0).1)))
(kx (.inl (v0_0, false, ())))
(atIdx v0_0.length v0_1 fun j7 =>
(atIdx v0_0.length (IntKind.wrap .i64 (v0_1 - 1)) fun j8 =>
(cond (decide ((((v0_0.getD j7 Z0).2).1) > (((v0_0.getD j8 Z0).2).1)))
(kx (.inl (v0_0, false, ())))
(kn (v0_0, IntKind.wrap .i64 (v0_1 + 1), ()))))))))
(kn (v0_0, IntKind.wrap .i64 (v0_1 + 1), ())))))))))
(kx (.inr (v0_0, ()))))
def gs_l03Ok (K : Nat) (a0 : (List DY0)) : Option (Bool × Unit) :=
(iter (ls_l03Ok_0 K) K (a0, 0, ()) fun o9 => match o9 with
| .inl (x10, x11, ()) => (some (x11, ()))
| .inr (x12, ()) => ((gs_l00In K ((x12.length : Int)) 1 20).bind fun r13 =>
(some (r13.1, ()))))
def gs_l03Last (K : Nat) (a0 : (List DY0)) : Option (Int × Unit) :=
(atIdx a0.length (IntKind.wrap .i64 (((a0.length : Int)) - 1)) fun j1 =>
(some ((a0.getD j1 Z0).1, ())))
def gs_l04Ok (K : Nat) (a0 : DY1) : Option (Bool × Unit) :=
((gs_IsName K a0.1).bind fun r1 =>
(cond (!r1.1)
(some (false, ()))
((gs_l02Ok K a0.2.1).bind fun r2 =>
(cond (!r2.1)
(some (false, ()))
((gs_l00In K a0.2.2.1 1 2000).bind fun r3 =>
(cond (!r3.1)
(some (false, ()))
((gs_l00In K a0.2.2.2.1 1 1000).bind fun r4 =>
(cond (!r4.1)
(some (false, ()))
((gs_l00In K a0.2.2.2.2.1 0 a0.2.2.2.1).bind fun r5 =>
(cond r5.1
((gs_l03Ok K a0.2.2.2.2.2.1).bind fun r6 =>
(cond r6.1
((gs_l03Last K a0.2.2.2.2.2.1).bind fun r7 =>
(some (decide (r7.1 ≤ a0.2.2.2.1), ())))
(some (false, ()))))
(some (false, ()))))))))))))
def gs_l02Square (K : Nat) (a0 : DY0) (a1 : DY0) : Option (Int × Unit) :=
(some (IntKind.wrap .i64 ((IntKind.wrap .i64 ((IntKind.wrap .i64 (a0.1 - a1.1)) * (IntKind.wrap .i64 (a0.1 - a1.1)))) + (IntKind.wrap .i64 ((IntKind.wrap .i64 (a0.2.1 - a1.2.1)) * (IntKind.wrap .i64 (a0.2.1 - a1.2.1))))), ()))
def gs_l04Far (K : Nat) (a0 : DY0) (a1 : DY0) (a2 : Int) : Option (Bool × Unit) :=
((gs_l02Square K a0 a1).bind fun r1 =>
(some (decide (r1.1 > (IntKind.wrap .i64 (a2 * a2))), ())))
def ls_l04Site_1 (K : Nat) {R : Type} (d : DY2 × Int × Int × Unit) (kx : ((DY2 × Bool × Int × Unit) ⊕ (DY2 × Int × Unit)) → Option R) (kn : (DY2 × Int × Int × Unit) → Option R) : Option R := match d with
| (v1_0, v1_1, v1_2, ()) =>
(cond (decide (v1_2 < v1_1))
(atIdx v1_0.1.length v1_2 fun j3 =>
(atIdx v1_0.1.length v1_1 fun j4 =>
(cond (strEq ((v1_0.1.getD j3 Z1).1) ((v1_0.1.getD j4 Z1).1))
(kx (.inl (v1_0, false, v1_1, ())))
(atIdx v1_0.1.length v1_2 fun j5 =>
(atIdx v1_0.1.length v1_1 fun j6 =>
((gs_l04Far K (((v1_0.1.getD j5 Z1).2).1) (((v1_0.1.getD j6 Z1).2).1) 10).bind fun r7 =>
(cond (!r7.1)
(kx (.inl (v1_0, false, v1_1, ())))
(kn (v1_0, v1_1, IntKind.wrap .i64 (v1_2 + 1), ())))))))))
(kx (.inr (v1_0, v1_1, ()))))
def ls_l04Site_0 (K : Nat) {R : Type} (d : DY2 × Int × Unit) (kx : ((DY2 × Bool × Unit) ⊕ (DY2 × Unit)) → Option R) (kn : (DY2 × Int × Unit) → Option R) : Option R := match d with
| (v0_0, v0_1, ()) =>
(cond (decide (v0_1 < ((v0_0.1.length : Int))))
(atIdx v0_0.1.length v0_1 fun j1 =>
((gs_l04Ok K (v0_0.1.getD j1 Z1)).bind fun r2 =>
(cond (!r2.1)
(kx (.inl (v0_0, false, ())))
(iter (ls_l04Site_1 K) K (v0_0, v0_1, 0, ()) fun o3 => match o3 with
| .inl (x4, x5, x6, ()) => (kx (.inl (x4, x5, ())))
| .inr (x7, x8, ()) => (kn (x7, IntKind.wrap .i64 (x8 + 1), ()))))))
(kx (.inr (v0_0, ()))))
def gs_l04Site (K : Nat) (a0 : DY2) : Option (Bool × Unit) :=
(iter (ls_l04Site_0 K) K (a0, 0, ()) fun o9 => match o9 with
| .inl (x10, x11, ()) => (some (x11, ()))
| .inr (x12, ()) => ((gs_l00In K ((x12.1.length : Int)) 1 6).bind fun r13 =>
(some (r13.1, ()))))
def gs_l15Distance (K : Nat) (a0 : Int) : Option (Bool × Unit) :=
((gs_l00In K a0 0 1000).bind fun r1 =>
(some (r1.1, ())))
def gs_l22Code (K : Nat) (a0 : DY2) (a1 : Int) (a2 : Int) : Option (Int × Unit) :=
((gs_l04Site K a0).bind fun r1 =>
(cond (!r1.1)
(some (1, ()))
((gs_l00In K a1 0 6).bind fun r2 =>
(cond (!r2.1)
(some (2, ()))
((gs_l15Distance K a2).bind fun r3 =>
(cond (!r3.1)
(some (2, ()))
(some (0, ()))))))))
def gs_l22Crane (K : Nat) (a0 : DY2) (a1 : Int) (a2 : Int) : Option (Int × Unit) :=
((gs_l22Code K a0 0 a2).bind fun r1 =>
(cond (r1.1 == 0)
((gs_l00In K a1 0 (IntKind.wrap .i64 (((a0.1.length : Int)) - 1))).bind fun r2 =>
(cond (!r2.1)
(some (2, ()))
(some (r1.1, ()))))
(some (r1.1, ()))))
def ls_l22All_0 (K : Nat) {R : Type} (d : Int × (List Int) × Unit) (kx : ((List Int) × Unit) → Option R) (kn : (Int × (List Int) × Unit) → Option R) : Option R := match d with
| (v0_0, v0_1, ()) =>
(cond (decide (v0_0 < 24))
(cond (Nat.ble ((v0_1.length + ([v0_0] : List Int).length) * (8 + 1)) roomB)
(kn (IntKind.wrap .i64 (v0_0 + 1), v0_1 ++ ([v0_0]), ())) none)
(kx (v0_1, ())))
def gs_l22All (K : Nat) : Option ((List Int) × Unit) :=
(iter (ls_l22All_0 K) K (0, [], ()) fun (x1, ()) =>
(some (x1, ())))
def gs_l00Max (K : Nat) (a0 : Int) (a1 : Int) : Option (Int × Unit) :=
(cond (decide (a0 > a1))
(some (a0, ()))
(some (a1, ())))
def gs_l10Size (K : Nat) (a0 : Int) : Option (Int × Unit) :=
((gs_l00Max K a0 (IntKind.wrap .i64 (0 - a0))).bind fun r1 =>
(some (r1.1, ())))
def gs_l02Mod (K : Nat) (a0 : Int) : Option (Int × Unit) :=
(some (Int.tmod (IntKind.wrap .i64 ((Int.tmod a0 24) + 24)) 24, ()))
def ls_l02Vector_0 (K : Nat) {R : Type} (d : Int × DY0 × DY0 × Unit) (kx : (DY0 × DY0 × Unit) → Option R) (kn : (Int × DY0 × DY0 × Unit) → Option R) : Option R := match d with
| (v0_0, v0_1, v0_2, ()) =>
(cond (decide (v0_0 ≥ 6))
(kn (IntKind.wrap .i64 (v0_0 - 6), (IntKind.wrap .i64 (0 - v0_1.2.1), (v0_1.1, ())), v0_2, ()))
(kx (v0_1, v0_2, ())))
def gs_l02Vector (K : Nat) (a0 : Int) : Option (DY0 × Unit) :=
(atIdx ([(1000, (0, ())), (966, (259, ())), (866, (500, ())), (707, (707, ())), (500, (866, ())), (259, (966, ()))]).length (Int.tmod a0 6) fun j1 =>
(iter (ls_l02Vector_0 K) K (a0, ([(1000, (0, ())), (966, (259, ())), (866, (500, ())), (707, (707, ())), (500, (866, ())), (259, (966, ()))]).getD j1 Z0, (0, (0, ())), ()) fun (x2, x3, ()) =>
(some (x2, ()))))
def gs_l02At (K : Nat) (a0 : DY0) (a1 : Int) (a2 : Int) : Option (DY0 × Unit) :=
((gs_l02Vector K a1).bind fun r1 =>
(some ((IntKind.wrap .i64 (a0.1 + (IntKind.wrap .i64 (Int.tdiv (IntKind.wrap .i64 (r1.1.1 * a2)) 1000))), (IntKind.wrap .i64 (a0.2.1 + (IntKind.wrap .i64 (Int.tdiv (IntKind.wrap .i64 (r1.1.2.1 * a2)) 1000))), ())), ())))
def gs_l04Back (K : Nat) (a0 : DY1) (a1 : Int) : Option (DY0 × Unit) :=
((gs_l02Mod K (IntKind.wrap .i64 (a1 + 12))).bind fun r1 =>
((gs_l02At K a0.2.1 r1.1 a0.2.2.2.2.1).bind fun r2 =>
(some (r2.1, ()))))
def gs_l04Jib (K : Nat) (a0 : DY1) (a1 : Int) : Option (DY0 × Unit) :=
((gs_l02At K a0.2.1 a1 a0.2.2.2.1).bind fun r1 =>
(some (r1.1, ())))
def gs_l15Boom (K : Nat) (a0 : DY1) (a1 : Int) : Option (DY3 × Unit) :=
((gs_l04Back K a0 a1).bind fun r1 =>
((gs_l04Jib K a0 a1).bind fun r2 =>
(some ((r1.1, (r2.1, ())), ()))))
def gs_l14Cross (K : Nat) (a0 : DY3) (a1 : DY0) : Option (Int × Unit) :=
(some (IntKind.wrap .i64 ((IntKind.wrap .i64 ((IntKind.wrap .i64 (a0.2.1.1 - a0.1.1)) * (IntKind.wrap .i64 (a1.2.1 - a0.1.2.1)))) - (IntKind.wrap .i64 ((IntKind.wrap .i64 (a0.2.1.2.1 - a0.1.2.1)) * (IntKind.wrap .i64 (a1.1 - a0.1.1))))), ()))
def gs_l14Sign (K : Nat) (a0 : Int) : Option (Int × Unit) :=
(cond (decide (a0 > 0))
(some (1, ()))
(cond (decide (a0 < 0))
(some ((-1), ()))
(some (0, ()))))
def gs_l00Min (K : Nat) (a0 : Int) (a1 : Int) : Option (Int × Unit) :=
(cond (decide (a0 < a1))
(some (a0, ()))
(some (a1, ())))
def gs_l14On (K : Nat) (a0 : DY3) (a1 : DY0) : Option (Bool × Unit) :=
((gs_l00Min K a0.1.1 a0.2.1.1).bind fun r1 =>
((gs_l00Max K a0.1.1 a0.2.1.1).bind fun r2 =>
((gs_l00In K a1.1 r1.1 r2.1).bind fun r3 =>
(cond r3.1
((gs_l00Min K a0.1.2.1 a0.2.1.2.1).bind fun r4 =>
((gs_l00Max K a0.1.2.1 a0.2.1.2.1).bind fun r5 =>
((gs_l00In K a1.2.1 r4.1 r5.1).bind fun r6 =>
(some (r6.1, ())))))
(some (false, ()))))))
def gs_l14Meet (K : Nat) (a0 : DY3) (a1 : DY3) : Option (Bool × Unit) :=
((gs_l14Cross K a0 a1.1).bind fun r1 =>
((gs_l14Sign K r1.1).bind fun r2 =>
((gs_l14Cross K a0 a1.2.1).bind fun r3 =>
((gs_l14Sign K r3.1).bind fun r4 =>
((gs_l14Cross K a1 a0.1).bind fun r5 =>
((gs_l14Sign K r5.1).bind fun r6 =>
((gs_l14Cross K a1 a0.2.1).bind fun r7 =>
((gs_l14Sign K r7.1).bind fun r8 =>
(cond (decide ((IntKind.wrap .i64 (r2.1 * r4.1)) < 0))
(cond (decide ((IntKind.wrap .i64 (r6.1 * r8.1)) < 0))
(some (true, ()))
(cond (r2.1 == 0)
((gs_l14On K a0 a1.1).bind fun r9 =>
(cond r9.1
(some (true, ()))
(cond (r4.1 == 0)
((gs_l14On K a0 a1.2.1).bind fun r10 =>
(cond r10.1
(some (true, ()))
(cond (r6.1 == 0)
((gs_l14On K a1 a0.1).bind fun r11 =>
(cond r11.1
(some (true, ()))
(cond (r8.1 == 0)
((gs_l14On K a1 a0.2.1).bind fun r12 =>
(some (r12.1, ())))
(some (false, ())))))
(cond (r8.1 == 0)
((gs_l14On K a1 a0.2.1).bind fun r13 =>
(some (r13.1, ())))
(some (false, ()))))))
(cond (r6.1 == 0)
((gs_l14On K a1 a0.1).bind fun r14 =>
(cond r14.1
(some (true, ()))
(cond (r8.1 == 0)
((gs_l14On K a1 a0.2.1).bind fun r15 =>
(some (r15.1, ())))
(some (false, ())))))
(cond (r8.1 == 0)
((gs_l14On K a1 a0.2.1).bind fun r16 =>
(some (r16.1, ())))
(some (false, ())))))))
(cond (r4.1 == 0)
((gs_l14On K a0 a1.2.1).bind fun r17 =>
(cond r17.1
(some (true, ()))
(cond (r6.1 == 0)
((gs_l14On K a1 a0.1).bind fun r18 =>
(cond r18.1
(some (true, ()))
(cond (r8.1 == 0)
((gs_l14On K a1 a0.2.1).bind fun r19 =>
(some (r19.1, ())))
(some (false, ())))))
(cond (r8.1 == 0)
((gs_l14On K a1 a0.2.1).bind fun r20 =>
(some (r20.1, ())))
(some (false, ()))))))
(cond (r6.1 == 0)
((gs_l14On K a1 a0.1).bind fun r21 =>
(cond r21.1
(some (true, ()))
(cond (r8.1 == 0)
((gs_l14On K a1 a0.2.1).bind fun r22 =>
(some (r22.1, ())))
(some (false, ())))))
(cond (r8.1 == 0)
((gs_l14On K a1 a0.2.1).bind fun r23 =>
(some (r23.1, ())))
(some (false, ())))))))
(cond (r2.1 == 0)
((gs_l14On K a0 a1.1).bind fun r24 =>
(cond r24.1
(some (true, ()))
(cond (r4.1 == 0)
((gs_l14On K a0 a1.2.1).bind fun r25 =>
(cond r25.1
(some (true, ()))
(cond (r6.1 == 0)
((gs_l14On K a1 a0.1).bind fun r26 =>
(cond r26.1
(some (true, ()))
(cond (r8.1 == 0)
((gs_l14On K a1 a0.2.1).bind fun r27 =>
(some (r27.1, ())))
(some (false, ())))))
(cond (r8.1 == 0)
((gs_l14On K a1 a0.2.1).bind fun r28 =>
(some (r28.1, ())))
(some (false, ()))))))
(cond (r6.1 == 0)
((gs_l14On K a1 a0.1).bind fun r29 =>
(cond r29.1
(some (true, ()))
(cond (r8.1 == 0)
((gs_l14On K a1 a0.2.1).bind fun r30 =>
(some (r30.1, ())))
(some (false, ())))))
(cond (r8.1 == 0)
((gs_l14On K a1 a0.2.1).bind fun r31 =>
(some (r31.1, ())))
(some (false, ())))))))
(cond (r4.1 == 0)
((gs_l14On K a0 a1.2.1).bind fun r32 =>
(cond r32.1
(some (true, ()))
(cond (r6.1 == 0)
((gs_l14On K a1 a0.1).bind fun r33 =>
(cond r33.1
(some (true, ()))
(cond (r8.1 == 0)
((gs_l14On K a1 a0.2.1).bind fun r34 =>
(some (r34.1, ())))
(some (false, ())))))
(cond (r8.1 == 0)
((gs_l14On K a1 a0.2.1).bind fun r35 =>
(some (r35.1, ())))
(some (false, ()))))))
(cond (r6.1 == 0)
((gs_l14On K a1 a0.1).bind fun r36 =>
(cond r36.1
(some (true, ()))
(cond (r8.1 == 0)
((gs_l14On K a1 a0.2.1).bind fun r37 =>
(some (r37.1, ())))
(some (false, ())))))
(cond (r8.1 == 0)
((gs_l14On K a1 a0.2.1).bind fun r38 =>
(some (r38.1, ())))
(some (false, ())))))))))))))))
def gs_l14Dot (K : Nat) (a0 : DY3) (a1 : DY0) : Option (Int × Unit) :=
(some (IntKind.wrap .i64 ((IntKind.wrap .i64 ((IntKind.wrap .i64 (a0.2.1.1 - a0.1.1)) * (IntKind.wrap .i64 (a1.1 - a0.1.1)))) + (IntKind.wrap .i64 ((IntKind.wrap .i64 (a0.2.1.2.1 - a0.1.2.1)) * (IntKind.wrap .i64 (a1.2.1 - a0.1.2.1))))), ()))
def ls_l14Gcd_0 (K : Nat) {R : Type} (d : Int × Int × Unit) (kx : (Int × Unit) → Option R) (kn : (Int × Int × Unit) → Option R) : Option R := match d with
| (v0_0, v0_1, ()) =>
(cond (v0_1 != 0)
(cond (v0_1 == 0) none
(kn (v0_1, Int.tmod v0_0 v0_1, ())))
(kx (v0_0, ())))
def gs_l14Gcd (K : Nat) (a0 : Int) (a1 : Int) : Option (Int × Unit) :=
(iter (ls_l14Gcd_0 K) K (a0, a1, ()) fun (x1, ()) =>
(some (x1, ())))
def gs_l14Make (K : Nat) (a0 : Int) (a1 : Int) : Option (DY0 × Unit) :=
((gs_l14Gcd K a0 a1).bind fun r1 =>
(cond (r1.1 == 0) none
(cond (r1.1 == 0) none
(some ((IntKind.wrap .i64 (Int.tdiv a0 r1.1), (IntKind.wrap .i64 (Int.tdiv a1 r1.1), ())), ())))))
def gs_l14PointSquare (K : Nat) (a0 : DY3) (a1 : DY0) : Option (DY0 × Unit) :=
((gs_l02Square K a0.1 a0.2.1).bind fun r1 =>
((gs_l14Dot K a0 a1).bind fun r2 =>
(cond (decide (r2.1 ≤ 0))
((gs_l02Square K a0.1 a1).bind fun r3 =>
((gs_l14Make K r3.1 1).bind fun r4 =>
(some (r4.1, ()))))
(cond (decide (r2.1 ≥ r1.1))
((gs_l02Square K a0.2.1 a1).bind fun r5 =>
((gs_l14Make K r5.1 1).bind fun r6 =>
(some (r6.1, ()))))
((gs_l14Cross K a0 a1).bind fun r7 =>
((gs_l14Make K (IntKind.wrap .i64 (r7.1 * r7.1)) r1.1).bind fun r8 =>
(some (r8.1, ()))))))))
def ls_l14Less_0 (K : Nat) {R : Type} (d : DY0 × DY0 × Unit) (kx : (Bool × Unit) → Option R) (kn : (DY0 × DY0 × Unit) → Option R) : Option R := match d with
| (v0_0, v0_1, ()) =>
(cond (v0_1.2.1 == 0) none
(cond (v0_0.2.1 == 0) none
(cond ((IntKind.wrap .i64 (Int.tdiv v0_1.1 v0_1.2.1)) != (IntKind.wrap .i64 (Int.tdiv v0_0.1 v0_0.2.1)))
(kx (decide ((IntKind.wrap .i64 (Int.tdiv v0_1.1 v0_1.2.1)) < (IntKind.wrap .i64 (Int.tdiv v0_0.1 v0_0.2.1))), ()))
(cond (v0_1.2.1 == 0) none
(cond (v0_0.2.1 == 0) none
(cond ((Int.tmod v0_1.1 v0_1.2.1) == 0)
(cond ((Int.tmod v0_1.1 v0_1.2.1) == 0)
(kx (decide ((Int.tmod v0_0.1 v0_0.2.1) > 0), ()))
(kx (false, ())))
(cond ((Int.tmod v0_0.1 v0_0.2.1) == 0)
(cond ((Int.tmod v0_1.1 v0_1.2.1) == 0)
(kx (decide ((Int.tmod v0_0.1 v0_0.2.1) > 0), ()))
(kx (false, ())))
(kn ((v0_1.2.1, (Int.tmod v0_1.1 v0_1.2.1, ())), (v0_0.2.1, (Int.tmod v0_0.1 v0_0.2.1, ())), ())))))))))
def gs_l14Less (K : Nat) (a0 : DY0) (a1 : DY0) : Option (Bool × Unit) :=
(iter (ls_l14Less_0 K) K (a1, a0, ()) fun (x1, ()) =>
(some (x1, ())))
def ls_l14Square_0 (K : Nat) {R : Type} (d : (List DY0) × Int × DY0 × DY0 × Unit) (kx : (DY0 × DY0 × Unit) → Option R) (kn : ((List DY0) × Int × DY0 × DY0 × Unit) → Option R) : Option R := match d with
| (v0_0, v0_1, v0_2, v0_3, ()) =>
(cond (decide (v0_1 < ((v0_0.length : Int))))
(atIdx v0_0.length v0_1 fun j6 =>
((gs_l14Less K (v0_0.getD j6 Z0) v0_2).bind fun r7 =>
(cond r7.1
(atIdx v0_0.length v0_1 fun j8 =>
(kn (v0_0, IntKind.wrap .i64 (v0_1 + 1), v0_0.getD j8 Z0, v0_3, ())))
(kn (v0_0, IntKind.wrap .i64 (v0_1 + 1), v0_2, v0_3, ())))))
(kx (v0_2, v0_3, ())))
def gs_l14Square (K : Nat) (a0 : DY3) (a1 : DY3) : Option (DY0 × Unit) :=
((gs_l14Meet K a0 a1).bind fun r1 =>
(cond r1.1
(some ((0, (1, ())), ()))
((gs_l14PointSquare K a0 a1.1).bind fun r2 =>
((gs_l14PointSquare K a0 a1.2.1).bind fun r3 =>
((gs_l14PointSquare K a1 a0.1).bind fun r4 =>
((gs_l14PointSquare K a1 a0.2.1).bind fun r5 =>
(iter (ls_l14Square_0 K) K ([r3.1, r4.1, r5.1], 0, r2.1, (0, (0, ())), ()) fun (x9, x10, ()) =>
(some (x9, ())))))))))
def gs_l14Near (K : Nat) (a0 : DY3) (a1 : DY3) (a2 : Int) : Option (Bool × Unit) :=
((gs_l14Square K a0 a1).bind fun r1 =>
((gs_l14Less K r1.1 ((IntKind.wrap .i64 (a2 * a2), (1, ())))).bind fun r2 =>
(some (r2.1, ()))))
def gs_l15Mast (K : Nat) (a0 : DY1) (a1 : Int) (a2 : DY1) (a3 : Int) : Option (Bool × Unit) :=
((gs_l15Boom K a0 a1).bind fun r1 =>
((gs_l14Near K r1.1 ((a2.2.1, (a2.2.1, ()))) a3).bind fun r2 =>
(some (r2.1, ()))))
def gs_l15Conflict (K : Nat) (a0 : DY1) (a1 : DY1) (a2 : Int) (a3 : Int) (a4 : Int) : Option (Bool × Unit) :=
((gs_l10Size K (IntKind.wrap .i64 (a0.2.2.1 - a1.2.2.1))).bind fun r1 =>
(cond (decide (r1.1 < 60))
((gs_l15Boom K a0 a2).bind fun r2 =>
((gs_l15Boom K a1 a3).bind fun r3 =>
((gs_l14Near K r2.1 r3.1 a4).bind fun r4 =>
(cond r4.1
(some (true, ()))
(cond (decide (a0.2.2.1 < a1.2.2.1))
((gs_l15Mast K a0 a2 a1 a4).bind fun r5 =>
(some (r5.1, ())))
(cond (decide (a0.2.2.1 > a1.2.2.1))
((gs_l15Mast K a1 a3 a0 a4).bind fun r6 =>
(some (r6.1, ())))
(some (false, ()))))))))
(cond (decide (a0.2.2.1 < a1.2.2.1))
((gs_l15Mast K a0 a2 a1 a4).bind fun r7 =>
(some (r7.1, ())))
(cond (decide (a0.2.2.1 > a1.2.2.1))
((gs_l15Mast K a1 a3 a0 a4).bind fun r8 =>
(some (r8.1, ())))
(some (false, ()))))))
def ls_l22Meet_1 (K : Nat) {R : Type} (d : DY1 × DY1 × (List Int) × (List Int) × Int × Int × Int × Unit) (kx : ((DY1 × DY1 × (List Int) × (List Int) × Int × Bool × Int × Unit) ⊕ (DY1 × DY1 × (List Int) × (List Int) × Int × Int × Unit)) → Option R) (kn : (DY1 × DY1 × (List Int) × (List Int) × Int × Int × Int × Unit) → Option R) : Option R := match d with
| (v1_0, v1_1, v1_2, v1_3, v1_4, v1_5, v1_6, ()) =>
(cond (decide (v1_6 < ((v1_3.length : Int))))
(atIdx v1_2.length v1_5 fun j1 =>
(atIdx v1_3.length v1_6 fun j2 =>
((gs_l15Conflict K v1_0 v1_1 (v1_2.getD j1 0) (v1_3.getD j2 0) v1_4).bind fun r3 =>
(cond r3.1
(kx (.inl (v1_0, v1_1, v1_2, v1_3, v1_4, true, v1_5, ())))
(kn (v1_0, v1_1, v1_2, v1_3, v1_4, v1_5, IntKind.wrap .i64 (v1_6 + 1), ()))))))
(kx (.inr (v1_0, v1_1, v1_2, v1_3, v1_4, v1_5, ()))))
def ls_l22Meet_0 (K : Nat) {R : Type} (d : DY1 × DY1 × (List Int) × (List Int) × Int × Int × Unit) (kx : ((Bool × Unit) ⊕ (Unit)) → Option R) (kn : (DY1 × DY1 × (List Int) × (List Int) × Int × Int × Unit) → Option R) : Option R := match d with
| (v0_0, v0_1, v0_2, v0_3, v0_4, v0_5, ()) =>
(cond (decide (v0_5 < ((v0_2.length : Int))))
(iter (ls_l22Meet_1 K) K (v0_0, v0_1, v0_2, v0_3, v0_4, v0_5, 0, ()) fun o1 => match o1 with
| .inl (x2, x3, x4, x5, x6, x7, x8, ()) => (kx (.inl (x7, ())))
| .inr (x9, x10, x11, x12, x13, x14, ()) => (kn (x9, x10, x11, x12, x13, IntKind.wrap .i64 (x14 + 1), ())))
(kx (.inr ())))
def gs_l22Meet (K : Nat) (a0 : DY1) (a1 : DY1) (a2 : (List Int)) (a3 : (List Int)) (a4 : Int) : Option (Bool × Unit) :=
(iter (ls_l22Meet_0 K) K (a0, a1, a2, a3, a4, 0, ()) fun o15 => match o15 with
| .inl (x16, ()) => (some (x16, ()))
| .inr () => (some (false, ())))
def ls_l22Free_0 (K : Nat) {R : Type} (d : DY2 × Int × Int × (List Int) × Int × Unit) (kx : ((Bool × Unit) ⊕ (Unit)) → Option R) (kn : (DY2 × Int × Int × (List Int) × Int × Unit) → Option R) : Option R := match d with
| (v0_0, v0_1, v0_2, v0_3, v0_4, ()) =>
(cond (decide (v0_4 < ((v0_0.1.length : Int))))
(cond (v0_4 != v0_1)
(atIdx v0_0.1.length v0_1 fun j2 =>
(atIdx v0_0.1.length v0_4 fun j3 =>
((gs_l22Meet K (v0_0.1.getD j2 Z1) (v0_0.1.getD j3 Z1) v0_3 v0_3 v0_2).bind fun r4 =>
(cond r4.1
(kx (.inl (false, ())))
(kn (v0_0, v0_1, v0_2, v0_3, IntKind.wrap .i64 (v0_4 + 1), ()))))))
(kn (v0_0, v0_1, v0_2, v0_3, IntKind.wrap .i64 (v0_4 + 1), ())))
(kx (.inr ())))
def gs_l22Free (K : Nat) (a0 : DY2) (a1 : Int) (a2 : Int) : Option (Bool × Unit) :=
((gs_l22All K ).bind fun r1 =>
(iter (ls_l22Free_0 K) K (a0, a1, a2, r1.1, 0, ()) fun o5 => match o5 with
| .inl (x6, ()) => (some (x6, ()))
| .inr () => (some (true, ()))))
def gs_FreeToVane (K : Nat) (a0 : DY2) (a1 : Int) (a2 : Int) : Option (Bool × Int × Unit) :=
((gs_l22Crane K a0 a1 a2).bind fun r1 =>
(cond (r1.1 != 0)
(some (false, r1.1, ()))
((gs_l22Free K a0 a1 a2).bind fun r2 =>
(some (r2.1, 0, ())))))
def li_IsName_0 (K : Nat) {R : Type} (d : ByteArray × Int × Int × Unit) (kx : ((ByteArray × Bool × Unit) ⊕ (ByteArray × Unit)) → Option R) (kn : (ByteArray × Int × Int × Unit) → Option R) : Option R := match d with
| (v0_0, v0_1, v0_2, ()) =>
(cond (decide (v0_2 < v0_1))
(atIdx v0_0.size v0_2 fun j1 =>
(cond (decide ((bt v0_0 j1) ≥ 97))
(cond (!(decide ((bt v0_0 j1) ≤ 122)))
(cond (v0_2 == 0)
(kx (.inl (v0_0, false, ())))
(cond ((bt v0_0 j1) != 45)
(cond (decide ((bt v0_0 j1) < 48))
(kx (.inl (v0_0, false, ())))
(cond (decide ((bt v0_0 j1) > 57))
(kx (.inl (v0_0, false, ())))
(kn (v0_0, v0_1, IntKind.wrap .i64 (v0_2 + 1), ()))))
(kn (v0_0, v0_1, IntKind.wrap .i64 (v0_2 + 1), ()))))
(kn (v0_0, v0_1, IntKind.wrap .i64 (v0_2 + 1), ())))
(cond (v0_2 == 0)
(kx (.inl (v0_0, false, ())))
(cond ((bt v0_0 j1) != 45)
(cond (decide ((bt v0_0 j1) < 48))
(kx (.inl (v0_0, false, ())))
(cond (decide ((bt v0_0 j1) > 57))
(kx (.inl (v0_0, false, ())))
(kn (v0_0, v0_1, IntKind.wrap .i64 (v0_2 + 1), ()))))
(kn (v0_0, v0_1, IntKind.wrap .i64 (v0_2 + 1), ()))))))
(kx (.inr (v0_0, ()))))
def gi_IsName (K : Nat) (a0 : ByteArray) : Option (Bool × Unit) :=
(iter (li_IsName_0 K) K (a0, (a0.size : Int), 0, ()) fun o2 => match o2 with
| .inl (x3, x4, ()) => (some (x4, ()))
| .inr (x5, ()) => (cond (decide (((x5.size : Int)) ≥ 1))
(some (decide (((x5.size : Int)) ≤ 12), ()))
(some (false, ()))))
def gi_within (K : Nat) (a0 : Int) (a1 : Int) (a2 : Int) : Option (Bool × Unit) :=
(cond (decide (a0 ≥ a1))
(some (decide (a0 ≤ a2), ()))
(some (false, ())))
def gi_ValidPlace (K : Nat) (a0 : DY0) : Option (Bool × Unit) :=
((gi_within K a0.1 ((-10000)) 10000).bind fun r1 =>
(cond r1.1
((gi_within K a0.2.1 ((-10000)) 10000).bind fun r2 =>
(some (r2.1, ())))
(some (false, ()))))
def li_ValidChart_0 (K : Nat) {R : Type} (d : (List DY0) × (List DY0) × Int × Int × Unit) (kx : (((List DY0) × Bool × Unit) ⊕ ((List DY0) × Unit)) → Option R) (kn : ((List DY0) × (List DY0) × Int × Int × Unit) → Option R) : Option R := match d with
| (v0_0, v0_1, v0_2, v0_3, ()) =>
(cond (decide (v0_3 < v0_2))
(atIdx v0_1.length v0_3 fun j1 =>
((gi_within K ((v0_1.getD j1 Z0).1) 1 1000).bind fun r2 =>
(cond (!r2.1)
(kx (.inl (v0_0, false, ())))
((gi_within K (((v0_1.getD j1 Z0).2).1) 0 50000).bind fun r3 =>
(cond (!r3.1)
(kx (.inl (v0_0, false, ())))
(cond (decide (v0_3 > 0))
(atIdx v0_0.length (IntKind.wrap .i64 (v0_3 - 1)) fun j4 =>
(cond (decide (((v0_1.getD j1 Z0).1) ≤ ((v0_0.getD j4 Z0).1)))
(kx (.inl (v0_0, false, ())))
(atIdx v0_0.length (IntKind.wrap .i64 (v0_3 - 1)) fun j5 =>
(cond (decide ((((v0_1.getD j1 Z0).2).1) > (((v0_0.getD j5 Z0).2).1)))
(kx (.inl (v0_0, false, ())))
(kn (v0_0, v0_1, v0_2, IntKind.wrap .i64 (v0_3 + 1), ()))))))
(kn (v0_0, v0_1, v0_2, IntKind.wrap .i64 (v0_3 + 1), ()))))))))
(kx (.inr (v0_0, ()))))
def gi_ValidChart (K : Nat) (a0 : (List DY0)) : Option (Bool × Unit) :=
(iter (li_ValidChart_0 K) K (a0, a0, (a0.length : Int), 0, ()) fun o6 => match o6 with
| .inl (x7, x8, ()) => (some (x8, ()))
| .inr (x9, ()) => (cond (decide (((x9.length : Int)) ≥ 1))
(some (decide (((x9.length : Int)) ≤ 20), ()))
(some (false, ()))))
def gi_ValidCrane (K : Nat) (a0 : DY1) : Option (Bool × Unit) :=
((gi_IsName K a0.1).bind fun r1 =>
(cond (!r1.1)
(some (false, ()))
((gi_ValidPlace K a0.2.1).bind fun r2 =>
(cond (!r2.1)
(some (false, ()))
((gi_within K a0.2.2.1 1 2000).bind fun r3 =>
(cond (!r3.1)
(some (false, ()))
((gi_within K a0.2.2.2.1 1 1000).bind fun r4 =>
(cond (!r4.1)
(some (false, ()))
((gi_within K a0.2.2.2.2.1 0 a0.2.2.2.1).bind fun r5 =>
(cond (!r5.1)
(some (false, ()))
((gi_ValidChart K a0.2.2.2.2.2.1).bind fun r6 =>
(cond r6.1
(atIdx a0.2.2.2.2.2.1.length (IntKind.wrap .i64 (((a0.2.2.2.2.2.1.length : Int)) - 1)) fun j7 =>
(some (decide (((a0.2.2.2.2.2.1.getD j7 Z0).1) ≤ a0.2.2.2.1), ())))
(some (false, ()))))))))))))))
def gi_square (K : Nat) (a0 : DY0) (a1 : DY0) : Option (Int × Unit) :=
(some (IntKind.wrap .i64 ((IntKind.wrap .i64 ((IntKind.wrap .i64 (a0.1 - a1.1)) * (IntKind.wrap .i64 (a0.1 - a1.1)))) + (IntKind.wrap .i64 ((IntKind.wrap .i64 (a0.2.1 - a1.2.1)) * (IntKind.wrap .i64 (a0.2.1 - a1.2.1))))), ()))
def gi_near (K : Nat) (a0 : DY0) (a1 : DY0) (a2 : Int) : Option (Bool × Unit) :=
((gi_square K a0 a1).bind fun r1 =>
(some (decide (r1.1 ≤ (IntKind.wrap .i64 (a2 * a2))), ())))
def li_ValidSite_1 (K : Nat) {R : Type} (d : (List DY1) × Int × Int × (List DY1) × Int × Int × DY1 × DY2 × Unit) (kx : ((Bool × (List DY1) × Int × Int × DY2 × Unit) ⊕ ((List DY1) × Int × Int × DY2 × Unit)) → Option R) (kn : ((List DY1) × Int × Int × (List DY1) × Int × Int × DY1 × DY2 × Unit) → Option R) : Option R := match d with
| (v1_0, v1_1, v1_2, v1_3, v1_4, v1_5, v1_6, v1_7, ()) =>
(cond (decide (v1_5 < v1_4))
(atIdx v1_3.length v1_5 fun j3 =>
(cond (strEq ((v1_3.getD j3 Z1).1) v1_6.1)
(kx (.inl (false, v1_0, v1_1, v1_2, v1_7, ())))
((gi_near K (((v1_3.getD j3 Z1).2).1) v1_6.2.1 10).bind fun r4 =>
(cond r4.1
(kx (.inl (false, v1_0, v1_1, v1_2, v1_7, ())))
(kn (v1_0, v1_1, v1_2, v1_3, v1_4, IntKind.wrap .i64 (v1_5 + 1), v1_6, v1_7, ()))))))
(kx (.inr (v1_0, v1_1, v1_2, v1_7, ()))))
def li_ValidSite_0 (K : Nat) {R : Type} (d : (List DY1) × Int × Int × DY2 × Unit) (kx : ((Bool × DY2 × Unit) ⊕ (DY2 × Unit)) → Option R) (kn : ((List DY1) × Int × Int × DY2 × Unit) → Option R) : Option R := match d with
| (v0_0, v0_1, v0_2, v0_3, ()) =>
(cond (decide (v0_2 < v0_1))
(atIdx v0_0.length v0_2 fun j1 =>
((gi_ValidCrane K (v0_0.getD j1 Z1)).bind fun r2 =>
(cond (!r2.1)
(kx (.inl (false, v0_3, ())))
(cond (decide (0 ≤ v0_2)) (cond (decide (v0_2 ≤ ((v0_3.1.length : Nat) : Int)))
(iter (li_ValidSite_1 K) K (v0_0, v0_1, v0_2, (v0_3.1.take v0_2.toNat).drop 0, (((v0_3.1.take v0_2.toNat).drop 0).length : Int), 0, v0_0.getD j1 Z1, v0_3, ()) fun o3 => match o3 with
| .inl (x4, x5, x6, x7, x8, ()) => (kx (.inl (x4, x8, ())))
| .inr (x9, x10, x11, x12, ()) => (kn (x9, x10, IntKind.wrap .i64 (x11 + 1), x12, ()))) none) none))))
(kx (.inr (v0_3, ()))))
def gi_ValidSite (K : Nat) (a0 : DY2) : Option (Bool × Unit) :=
(iter (li_ValidSite_0 K) K (a0.1, (a0.1.length : Int), 0, a0, ()) fun o13 => match o13 with
| .inl (x14, x15, ()) => (some (x14, ()))
| .inr (x16, ()) => (cond (decide (((x16.1.length : Int)) ≥ 1))
(some (decide (((x16.1.length : Int)) ≤ 6), ()))
(some (false, ()))))
def gi_index (K : Nat) (a0 : Int) (a1 : Int) : Option (Bool × Unit) :=
((gi_within K a0 0 (IntKind.wrap .i64 (a1 - 1))).bind fun r1 =>
(some (r1.1, ())))
def gi_craneCode (K : Nat) (a0 : DY2) (a1 : Int) : Option (Int × Unit) :=
((gi_ValidSite K a0).bind fun r1 =>
(cond (!r1.1)
(some (1, ()))
((gi_index K a1 ((a0.1.length : Int))).bind fun r2 =>
(cond (!r2.1)
(some (2, ()))
(some (0, ()))))))
def gi_distanceCode (K : Nat) (a0 : DY2) (a1 : Int) (a2 : Int) : Option (Int × Unit) :=
((gi_craneCode K a0 a1).bind fun r1 =>
(cond (r1.1 != 0)
(some (r1.1, ()))
((gi_within K a2 0 1000).bind fun r2 =>
(cond (!r2.1)
(some (2, ()))
(some (0, ()))))))
def gi_turned (K : Nat) (a0 : Int) (a1 : Int) : Option (Int × Unit) :=
(some (Int.tmod (IntKind.wrap .i64 ((Int.tmod (IntKind.wrap .i64 (a0 + a1)) 24) + 24)) 24, ()))
def gi_opposite (K : Nat) (a0 : Int) : Option (Int × Unit) :=
((gi_turned K a0 12).bind fun r1 =>
(some (r1.1, ())))
def gi_turnBetween (K : Nat) (a0 : Int) (a1 : Int) : Option (Int × Unit) :=
((gi_turned K a1 (IntKind.wrap .i64 (0 - a0))).bind fun r1 =>
(cond (decide (r1.1 > 12))
(some (IntKind.wrap .i64 (r1.1 - 24), ()))
(some (r1.1, ()))))
def gi_abs (K : Nat) (a0 : Int) : Option (Int × Unit) :=
(some (if (IntKind.wrap .i64 (0 - a0)) > a0 then (IntKind.wrap .i64 (0 - a0)) else a0, ()))
def li_swings_0 (K : Nat) {R : Type} (d : Int × Int × Int × (List Int) × Unit) (kx : ((List Int) × Unit) → Option R) (kn : (Int × Int × Int × (List Int) × Unit) → Option R) : Option R := match d with
| (v0_0, v0_1, v0_2, v0_3, ()) =>
(cond (decide (v0_2 < 24))
((gi_opposite K v0_0).bind fun r1 =>
((gi_turnBetween K r1.1 v0_2).bind fun r2 =>
((gi_abs K r2.1).bind fun r3 =>
(cond (decide (r3.1 ≤ v0_1))
(cond (Nat.ble ((v0_3.length + ([v0_2] : List Int).length) * (8 + 1)) roomB)
(kn (v0_0, v0_1, IntKind.wrap .i64 (v0_2 + 1), v0_3 ++ ([v0_2]), ())) none)
(kn (v0_0, v0_1, IntKind.wrap .i64 (v0_2 + 1), v0_3, ()))))))
(kx (v0_3, ())))
def gi_swings (K : Nat) (a0 : Int) (a1 : Int) : Option ((List Int) × Unit) :=
(iter (li_swings_0 K) K (a0, a1, 0, [], ()) fun (x4, ()) =>
(some (x4, ())))
def gi_allDirections (K : Nat) : Option ((List Int) × Unit) :=
((gi_swings K 0 24).bind fun r1 =>
(some (r1.1, ())))
def li_vector_0 (K : Nat) {R : Type} (d : Int × DY0 × DY0 × Unit) (kx : (DY0 × DY0 × Unit) → Option R) (kn : (Int × DY0 × DY0 × Unit) → Option R) : Option R := match d with
| (v0_0, v0_1, v0_2, ()) =>
(cond (decide (v0_0 ≥ 6))
(kn (IntKind.wrap .i64 (v0_0 - 6), (IntKind.wrap .i64 (0 - v0_1.2.1), (v0_1.1, ())), v0_2, ()))
(kx (v0_1, v0_2, ())))
def gi_vector (K : Nat) (a0 : Int) : Option (DY0 × Unit) :=
(atIdx quarter.length (Int.tmod a0 6) fun j1 =>
(iter (li_vector_0 K) K (a0, quarter.getD j1 Z0, (0, (0, ())), ()) fun (x2, x3, ()) =>
(some (x2, ()))))
def gi_placeAt (K : Nat) (a0 : DY0) (a1 : Int) (a2 : Int) : Option (DY0 × Unit) :=
((gi_vector K a1).bind fun r1 =>
(some ((IntKind.wrap .i64 (a0.1 + (IntKind.wrap .i64 (Int.tdiv (IntKind.wrap .i64 (r1.1.1 * a2)) 1000))), (IntKind.wrap .i64 (a0.2.1 + (IntKind.wrap .i64 (Int.tdiv (IntKind.wrap .i64 (r1.1.2.1 * a2)) 1000))), ())), ())))
def gi_Crane_backEnd (K : Nat) (a0 : DY1) (a1 : Int) : Option (DY0 × Unit) :=
((gi_opposite K a1).bind fun r1 =>
((gi_placeAt K a0.2.1 r1.1 a0.2.2.2.2.1).bind fun r2 =>
(some (r2.1, ()))))
def gi_Crane_jibEnd (K : Nat) (a0 : DY1) (a1 : Int) : Option (DY0 × Unit) :=
((gi_placeAt K a0.2.1 a1 a0.2.2.2.1).bind fun r1 =>
(some (r1.1, ())))
def gi_Crane_boom (K : Nat) (a0 : DY1) (a1 : Int) : Option (DY3 × Unit) :=
((gi_Crane_backEnd K a0 a1).bind fun r1 =>
((gi_Crane_jibEnd K a0 a1).bind fun r2 =>
(some ((r1.1, (r2.1, ())), ()))))
def gi_side (K : Nat) (a0 : DY0) (a1 : DY0) (a2 : DY0) : Option (Int × Unit) :=
(some (IntKind.wrap .i64 ((IntKind.wrap .i64 ((IntKind.wrap .i64 (a1.1 - a0.1)) * (IntKind.wrap .i64 (a2.2.1 - a0.2.1)))) - (IntKind.wrap .i64 ((IntKind.wrap .i64 (a1.2.1 - a0.2.1)) * (IntKind.wrap .i64 (a2.1 - a0.1))))), ()))
def gi_Segment_covers (K : Nat) (a0 : DY3) (a1 : DY0) : Option (Bool × Unit) :=
((gi_side K a0.1 a0.2.1 a1).bind fun r1 =>
(cond (r1.1 == 0)
((gi_within K a1.1 (if a0.2.1.1 < a0.1.1 then a0.2.1.1 else a0.1.1) (if a0.2.1.1 > a0.1.1 then a0.2.1.1 else a0.1.1)).bind fun r2 =>
(cond r2.1
((gi_within K a1.2.1 (if a0.2.1.2.1 < a0.1.2.1 then a0.2.1.2.1 else a0.1.2.1) (if a0.2.1.2.1 > a0.1.2.1 then a0.2.1.2.1 else a0.1.2.1)).bind fun r3 =>
(some (r3.1, ())))
(some (false, ()))))
(some (false, ()))))
def gcmp_isNaN_int64 (K : Nat) (a0 : Int) : Option (Bool × Unit) :=
(some (a0 != a0, ()))
def gcmp_Compare_int64 (K : Nat) (a0 : Int) (a1 : Int) : Option (Int × Unit) :=
((gcmp_isNaN_int64 K a0).bind fun r1 =>
((gcmp_isNaN_int64 K a1).bind fun r2 =>
(cond r1.1
(cond r2.1
(some (0, ()))
(some ((-1), ())))
(cond r2.1
(some (1, ()))
(cond (decide (a0 < a1))
(some ((-1), ()))
(cond (decide (a0 > a1))
(some (1, ()))
(some (0, ()))))))))
def gi_sign (K : Nat) (a0 : Int) : Option (Int × Unit) :=
((gcmp_Compare_int64 K a0 0).bind fun r1 =>
(some (r1.1, ())))
def gi_meet (K : Nat) (a0 : DY3) (a1 : DY3) : Option (Bool × Unit) :=
((gi_Segment_covers K a0 a1.1).bind fun r1 =>
(cond r1.1
(some (true, ()))
((gi_Segment_covers K a0 a1.2.1).bind fun r2 =>
(cond r2.1
(some (true, ()))
((gi_Segment_covers K a1 a0.1).bind fun r3 =>
(cond r3.1
(some (true, ()))
((gi_Segment_covers K a1 a0.2.1).bind fun r4 =>
(cond r4.1
(some (true, ()))
((gi_side K a0.1 a0.2.1 a1.1).bind fun r5 =>
((gi_sign K r5.1).bind fun r6 =>
((gi_side K a0.1 a0.2.1 a1.2.1).bind fun r7 =>
((gi_sign K r7.1).bind fun r8 =>
(cond (decide ((IntKind.wrap .i64 (r6.1 * r8.1)) < 0))
((gi_side K a1.1 a1.2.1 a0.1).bind fun r9 =>
((gi_sign K r9.1).bind fun r10 =>
((gi_side K a1.1 a1.2.1 a0.2.1).bind fun r11 =>
((gi_sign K r11.1).bind fun r12 =>
(some (decide ((IntKind.wrap .i64 (r10.1 * r12.1)) < 0), ()))))))
(some (false, ())))))))))))))))
def li_reduced_0 (K : Nat) {R : Type} (d : Int × Int × Int × Int × DY0 × Unit) (kx : (Int × Int × Int × DY0 × Unit) → Option R) (kn : (Int × Int × Int × Int × DY0 × Unit) → Option R) : Option R := match d with
| (v0_0, v0_1, v0_2, v0_3, v0_4, ()) =>
(cond (decide (v0_3 > 0))
(cond (v0_3 == 0) none
(kn (v0_0, v0_1, v0_3, Int.tmod v0_2 v0_3, v0_4, ())))
(kx (v0_0, v0_1, v0_2, v0_4, ())))
def gi_reduced (K : Nat) (a0 : Int) (a1 : Int) : Option (DY0 × Unit) :=
((gi_abs K a0).bind fun r1 =>
(iter (li_reduced_0 K) K (a0, a1, r1.1, a1, (0, (0, ())), ()) fun (x2, x3, x4, x5, ()) =>
(cond (x4 == 0) none
(cond (x4 == 0) none
(some ((IntKind.wrap .i64 (Int.tdiv x2 x4), (IntKind.wrap .i64 (Int.tdiv x3 x4), ())), ()))))))
def gi_Segment_pointSquare (K : Nat) (a0 : DY3) (a1 : DY0) : Option (DY0 × Unit) :=
(cond (decide ((IntKind.wrap .i64 ((IntKind.wrap .i64 ((IntKind.wrap .i64 (a1.1 - a0.1.1)) * (IntKind.wrap .i64 (a0.2.1.1 - a0.1.1)))) + (IntKind.wrap .i64 ((IntKind.wrap .i64 (a1.2.1 - a0.1.2.1)) * (IntKind.wrap .i64 (a0.2.1.2.1 - a0.1.2.1)))))) ≤ 0))
((gi_square K a1 a0.1).bind fun r1 =>
(some ((r1.1, (1, ())), ())))
(cond (decide ((IntKind.wrap .i64 ((IntKind.wrap .i64 ((IntKind.wrap .i64 (a1.1 - a0.1.1)) * (IntKind.wrap .i64 (a0.2.1.1 - a0.1.1)))) + (IntKind.wrap .i64 ((IntKind.wrap .i64 (a1.2.1 - a0.1.2.1)) * (IntKind.wrap .i64 (a0.2.1.2.1 - a0.1.2.1)))))) ≥ (IntKind.wrap .i64 ((IntKind.wrap .i64 ((IntKind.wrap .i64 (a0.2.1.1 - a0.1.1)) * (IntKind.wrap .i64 (a0.2.1.1 - a0.1.1)))) + (IntKind.wrap .i64 ((IntKind.wrap .i64 (a0.2.1.2.1 - a0.1.2.1)) * (IntKind.wrap .i64 (a0.2.1.2.1 - a0.1.2.1))))))))
((gi_square K a1 a0.2.1).bind fun r2 =>
(some ((r2.1, (1, ())), ())))
((gi_side K a0.1 a0.2.1 a1).bind fun r3 =>
((gi_reduced K (IntKind.wrap .i64 (r3.1 * r3.1)) (IntKind.wrap .i64 ((IntKind.wrap .i64 ((IntKind.wrap .i64 (a0.2.1.1 - a0.1.1)) * (IntKind.wrap .i64 (a0.2.1.1 - a0.1.1)))) + (IntKind.wrap .i64 ((IntKind.wrap .i64 (a0.2.1.2.1 - a0.1.2.1)) * (IntKind.wrap .i64 (a0.2.1.2.1 - a0.1.2.1))))))).bind fun r4 =>
(some (r4.1, ()))))))
def gmath_bits_Mul64 (K : Nat) (a0 : Int) (a1 : Int) : Option (Int × Int × Unit) :=
(some (IntKind.wrap .u64 ((IntKind.wrap .u64 ((IntKind.wrap .u64 ((Int.fdiv a0 (2 ^ 32)) * (Int.fdiv a1 (2 ^ 32)))) + (Int.fdiv (IntKind.wrap .u64 ((IntKind.wrap .u64 ((Int.fdiv a0 (2 ^ 32)) * (IntKind.wrap .u64 ((BitVec.ofInt (IntKind.bits .u64) a1 &&& BitVec.ofInt (IntKind.bits .u64) 4294967295).toNat : Int)))) + (Int.fdiv (IntKind.wrap .u64 ((IntKind.wrap .u64 ((BitVec.ofInt (IntKind.bits .u64) a0 &&& BitVec.ofInt (IntKind.bits .u64) 4294967295).toNat : Int)) * (IntKind.wrap .u64 ((BitVec.ofInt (IntKind.bits .u64) a1 &&& BitVec.ofInt (IntKind.bits .u64) 4294967295).toNat : Int)))) (2 ^ 32)))) (2 ^ 32)))) + (Int.fdiv (IntKind.wrap .u64 ((IntKind.wrap .u64 ((BitVec.ofInt (IntKind.bits .u64) (IntKind.wrap .u64 ((IntKind.wrap .u64 ((Int.fdiv a0 (2 ^ 32)) * (IntKind.wrap .u64 ((BitVec.ofInt (IntKind.bits .u64) a1 &&& BitVec.ofInt (IntKind.bits .u64) 4294967295).toNat : Int)))) + (Int.fdiv (IntKind.wrap .u64 ((IntKind.wrap .u64 ((BitVec.ofInt (IntKind.bits .u64) a0 &&& BitVec.ofInt (IntKind.bits .u64) 4294967295).toNat : Int)) * (IntKind.wrap .u64 ((BitVec.ofInt (IntKind.bits .u64) a1 &&& BitVec.ofInt (IntKind.bits .u64) 4294967295).toNat : Int)))) (2 ^ 32)))) &&& BitVec.ofInt (IntKind.bits .u64) 4294967295).toNat : Int)) + (IntKind.wrap .u64 ((IntKind.wrap .u64 ((BitVec.ofInt (IntKind.bits .u64) a0 &&& BitVec.ofInt (IntKind.bits .u64) 4294967295).toNat : Int)) * (Int.fdiv a1 (2 ^ 32)))))) (2 ^ 32))), IntKind.wrap .u64 (a0 * a1), ()))
def gcmp_isNaN_uint64 (K : Nat) (a0 : Int) : Option (Bool × Unit) :=
(some (a0 != a0, ()))
def gcmp_Compare_uint64 (K : Nat) (a0 : Int) (a1 : Int) : Option (Int × Unit) :=
((gcmp_isNaN_uint64 K a0).bind fun r1 =>
((gcmp_isNaN_uint64 K a1).bind fun r2 =>
(cond r1.1
(cond r2.1
(some (0, ()))
(some ((-1), ())))
(cond r2.1
(some (1, ()))
(cond (decide (a0 < a1))
(some ((-1), ()))
(cond (decide (a0 > a1))
(some (1, ()))
(some (0, ()))))))))
def lcmp_Or_int_0 (K : Nat) {R : Type} (d : Int × (List Int) × Int × Int × Unit) (kx : ((Int × Int × Unit) ⊕ (Int × Unit)) → Option R) (kn : (Int × (List Int) × Int × Int × Unit) → Option R) : Option R := match d with
| (v0_0, v0_1, v0_2, v0_3, ()) =>
(cond (decide (v0_3 < v0_2))
(atIdx v0_1.length v0_3 fun j1 =>
(cond ((v0_1.getD j1 0) != v0_0)
(kx (.inl (v0_1.getD j1 0, v0_0, ())))
(kn (v0_0, v0_1, v0_2, IntKind.wrap .i64 (v0_3 + 1), ()))))
(kx (.inr (v0_0, ()))))
def gcmp_Or_int (K : Nat) (a0 : (List Int)) : Option (Int × Unit) :=
(iter (lcmp_Or_int_0 K) K (0, a0, (a0.length : Int), 0, ()) fun o2 => match o2 with
| .inl (x3, x4, ()) => (some (x3, ()))
| .inr (x5, ()) => (some (x5, ())))
def gi_Fraction_compare (K : Nat) (a0 : DY0) (a1 : DY0) : Option (Int × Unit) :=
((gmath_bits_Mul64 K (IntKind.wrap .u64 a0.1) (IntKind.wrap .u64 a1.2.1)).bind fun r1 =>
((gmath_bits_Mul64 K (IntKind.wrap .u64 a1.1) (IntKind.wrap .u64 a0.2.1)).bind fun r2 =>
((gcmp_Compare_uint64 K r1.1 r2.1).bind fun r3 =>
((gcmp_Compare_uint64 K r1.2.1 r2.2.1).bind fun r4 =>
((gcmp_Or_int K ([r3.1, r4.1])).bind fun r5 =>
(some (r5.1, ())))))))
def li_segmentSquare_0 (K : Nat) {R : Type} (d : (List DY0) × Int × Int × DY0 × DY0 × Unit) (kx : (DY0 × DY0 × Unit) → Option R) (kn : ((List DY0) × Int × Int × DY0 × DY0 × Unit) → Option R) : Option R := match d with
| (v0_0, v0_1, v0_2, v0_3, v0_4, ()) =>
(cond (decide (v0_2 < v0_1))
(atIdx v0_0.length v0_2 fun j6 =>
((gi_Fraction_compare K (v0_0.getD j6 Z0) v0_3).bind fun r7 =>
(cond (decide (r7.1 < 0))
(kn (v0_0, v0_1, IntKind.wrap .i64 (v0_2 + 1), v0_0.getD j6 Z0, v0_4, ()))
(kn (v0_0, v0_1, IntKind.wrap .i64 (v0_2 + 1), v0_3, v0_4, ())))))
(kx (v0_3, v0_4, ())))
def gi_segmentSquare (K : Nat) (a0 : DY3) (a1 : DY3) : Option (DY0 × Unit) :=
((gi_meet K a0 a1).bind fun r1 =>
(cond r1.1
(some ((0, (1, ())), ()))
((gi_Segment_pointSquare K a0 a1.1).bind fun r2 =>
((gi_Segment_pointSquare K a0 a1.2.1).bind fun r3 =>
((gi_Segment_pointSquare K a1 a0.1).bind fun r4 =>
((gi_Segment_pointSquare K a1 a0.2.1).bind fun r5 =>
(iter (li_segmentSquare_0 K) K ([r3.1, r4.1, r5.1], (([r3.1, r4.1, r5.1]).length : Int), 0, r2.1, (0, (0, ())), ()) fun (x8, x9, ()) =>
(some (x8, ())))))))))
def gi_nearer (K : Nat) (a0 : DY3) (a1 : DY3) (a2 : Int) : Option (Bool × Unit) :=
((gi_segmentSquare K a0 a1).bind fun r1 =>
(some (decide (r1.1.1 < (IntKind.wrap .i64 ((IntKind.wrap .i64 (a2 * a2)) * r1.1.2.1))), ())))
def gi_conflict (K : Nat) (a0 : DY1) (a1 : DY1) (a2 : Int) (a3 : Int) (a4 : Int) : Option (Bool × Unit) :=
(cond (decide (a0.2.2.1 > a1.2.2.1))
((gi_Crane_boom K a1 a3).bind fun r1 =>
(cond (decide ((IntKind.wrap .i64 (a0.2.2.1 - a1.2.2.1)) < 60))
((gi_Crane_boom K a0 a2).bind fun r2 =>
((gi_nearer K r1.1 r2.1 a4).bind fun r3 =>
(cond r3.1
(some (true, ()))
(cond (a1.2.2.1 != a0.2.2.1)
((gi_nearer K r1.1 ((a0.2.1, (a0.2.1, ()))) a4).bind fun r4 =>
(some (r4.1, ())))
(some (false, ()))))))
(cond (a1.2.2.1 != a0.2.2.1)
((gi_nearer K r1.1 ((a0.2.1, (a0.2.1, ()))) a4).bind fun r5 =>
(some (r5.1, ())))
(some (false, ())))))
((gi_Crane_boom K a0 a2).bind fun r6 =>
(cond (decide ((IntKind.wrap .i64 (a1.2.2.1 - a0.2.2.1)) < 60))
((gi_Crane_boom K a1 a3).bind fun r7 =>
((gi_nearer K r6.1 r7.1 a4).bind fun r8 =>
(cond r8.1
(some (true, ()))
(cond (a0.2.2.1 != a1.2.2.1)
((gi_nearer K r6.1 ((a1.2.1, (a1.2.1, ()))) a4).bind fun r9 =>
(some (r9.1, ())))
(some (false, ()))))))
(cond (a0.2.2.1 != a1.2.2.1)
((gi_nearer K r6.1 ((a1.2.1, (a1.2.1, ()))) a4).bind fun r10 =>
(some (r10.1, ())))
(some (false, ()))))))
def li_anyConflict_1 (K : Nat) {R : Type} (d : (List Int) × Int × Int × (List Int) × Int × Int × (List Int) × Int × Int × DY1 × DY1 × Unit) (kx : (((List Int) × Int × Bool × (List Int) × Int × Int × DY1 × DY1 × Unit) ⊕ ((List Int) × Int × (List Int) × Int × Int × DY1 × DY1 × Unit)) → Option R) (kn : ((List Int) × Int × Int × (List Int) × Int × Int × (List Int) × Int × Int × DY1 × DY1 × Unit) → Option R) : Option R := match d with
| (v1_0, v1_1, v1_2, v1_3, v1_4, v1_5, v1_6, v1_7, v1_8, v1_9, v1_10, ()) =>
(cond (decide (v1_8 < v1_7))
(atIdx v1_6.length v1_8 fun j2 =>
((gi_conflict K v1_10 v1_9 v1_2 (v1_6.getD j2 0) v1_1).bind fun r3 =>
(cond r3.1
(kx (.inl (v1_0, v1_1, true, v1_3, v1_4, v1_5, v1_9, v1_10, ())))
(kn (v1_0, v1_1, v1_2, v1_3, v1_4, v1_5, v1_6, v1_7, IntKind.wrap .i64 (v1_8 + 1), v1_9, v1_10, ())))))
(kx (.inr (v1_0, v1_1, v1_3, v1_4, v1_5, v1_9, v1_10, ()))))
def li_anyConflict_0 (K : Nat) {R : Type} (d : (List Int) × Int × (List Int) × Int × Int × DY1 × DY1 × Unit) (kx : ((Bool × Unit) ⊕ (Unit)) → Option R) (kn : ((List Int) × Int × (List Int) × Int × Int × DY1 × DY1 × Unit) → Option R) : Option R := match d with
| (v0_0, v0_1, v0_2, v0_3, v0_4, v0_5, v0_6, ()) =>
(cond (decide (v0_4 < v0_3))
(atIdx v0_2.length v0_4 fun j1 =>
(iter (li_anyConflict_1 K) K (v0_0, v0_1, v0_2.getD j1 0, v0_2, v0_3, v0_4, v0_0, (v0_0.length : Int), 0, v0_5, v0_6, ()) fun o2 => match o2 with
| .inl (x3, x4, x5, x6, x7, x8, x9, x10, ()) => (kx (.inl (x5, ())))
| .inr (x11, x12, x13, x14, x15, x16, x17, ()) => (kn (x11, x12, x13, x14, IntKind.wrap .i64 (x15 + 1), x16, x17, ()))))
(kx (.inr ())))
def gi_anyConflict (K : Nat) (a0 : DY1) (a1 : DY1) (a2 : (List Int)) (a3 : (List Int)) (a4 : Int) : Option (Bool × Unit) :=
(iter (li_anyConflict_0 K) K (a3, a4, a2, (a2.length : Int), 0, a1, a0, ()) fun o18 => match o18 with
| .inl (x19, ()) => (some (x19, ()))
| .inr () => (some (false, ())))
def gi_hinder (K : Nat) (a0 : DY1) (a1 : DY1) (a2 : Int) : Option (Bool × Unit) :=
((gi_allDirections K ).bind fun r1 =>
((gi_allDirections K ).bind fun r2 =>
((gi_anyConflict K a0 a1 r1.1 r2.1 a2).bind fun r3 =>
(some (r3.1, ())))))
def gi_FreeToVane_1_a220 (K : Nat) (a0 : DY1) (a1 : (List DY1)) (a2 : Int) (a3 : Int) : Option (Bool × Unit) :=
(atIdx a1.length a2 fun j1 =>
((gi_hinder K (a1.getD j1 Z1) a0 a3).bind fun r2 =>
(some (!r2.1, ()))))
def li_Site_others__FreeToVane_1_0152_0 (K : Nat) {R : Type} (d : Int × (List DY1) × Int × Int × (List DY1) × Int × Int × Unit) (kx : ((Bool × Unit) ⊕ (Unit)) → Option R) (kn : (Int × (List DY1) × Int × Int × (List DY1) × Int × Int × Unit) → Option R) : Option R := match d with
| (v0_0, v0_1, v0_2, v0_3, v0_4, v0_5, v0_6, ()) =>
(cond (decide (v0_6 < v0_5))
(atIdx v0_4.length v0_6 fun j1 =>
(cond (v0_6 != v0_0)
((gi_FreeToVane_1_a220 K (v0_4.getD j1 Z1) v0_1 v0_2 v0_3).bind fun r2 =>
(cond (!r2.1)
(kx (.inl (false, ())))
(kn (v0_0, v0_1, v0_2, v0_3, v0_4, v0_5, IntKind.wrap .i64 (v0_6 + 1), ()))))
(kn (v0_0, v0_1, v0_2, v0_3, v0_4, v0_5, IntKind.wrap .i64 (v0_6 + 1), ()))))
(kx (.inr ())))
def gi_Site_others__FreeToVane_1_0152 (K : Nat) (a0 : DY2) (a1 : Int) (a2 : (List DY1)) (a3 : Int) (a4 : Int) : Option (Bool × Unit) :=
(iter (li_Site_others__FreeToVane_1_0152_0 K) K (a1, a2, a3, a4, a0.1, (a0.1.length : Int), 0, ()) fun o3 => match o3 with
| .inl (x4, ()) => (some (x4, ()))
| .inr () => (some (true, ())))
def gi_FreeToVane (K : Nat) (a0 : DY2) (a1 : Int) (a2 : Int) : Option (Bool × Int × Unit) :=
((gi_distanceCode K a0 a1 a2).bind fun r1 =>
(cond (r1.1 != 0)
(some (false, r1.1, ()))
((gi_Site_others__FreeToVane_1_0152 K a0 a1 a0.1 a1 a2).bind fun r2 =>
(some (r2.1, 0, ())))))
def gw_eqPoint (K : Nat) (a0 : DY0) (a1 : DY0) : Option (Bool × Unit) :=
(cond (a0.1 != a1.1)
(some (false, ()))
(cond (a0.2.1 != a1.2.1)
(some (false, ()))
(some (true, ()))))
def gw_eqChartStep (K : Nat) (a0 : DY0) (a1 : DY0) : Option (Bool × Unit) :=
(cond (a0.1 != a1.1)
(some (false, ()))
(cond (a0.2.1 != a1.2.1)
(some (false, ()))
(some (true, ()))))
def lw_eqChartStepS_0 (K : Nat) {R : Type} (d : (List DY0) × (List DY0) × Int × Unit) (kx : ((Bool × Unit) ⊕ (Unit)) → Option R) (kn : ((List DY0) × (List DY0) × Int × Unit) → Option R) : Option R := match d with
| (v0_0, v0_1, v0_2, ()) =>
(cond (decide (v0_2 < ((v0_0.length : Int))))
(atIdx v0_0.length v0_2 fun j1 =>
(atIdx v0_1.length v0_2 fun j2 =>
((gw_eqChartStep K (v0_0.getD j1 Z0) (v0_1.getD j2 Z0)).bind fun r3 =>
(cond (!r3.1)
(kx (.inl (false, ())))
(kn (v0_0, v0_1, IntKind.wrap .i64 (v0_2 + 1), ()))))))
(kx (.inr ())))
def gw_eqChartStepS (K : Nat) (a0 : (List DY0)) (a1 : (List DY0)) : Option (Bool × Unit) :=
(cond (((a0.length : Int)) != ((a1.length : Int)))
(some (false, ()))
(iter (lw_eqChartStepS_0 K) K (a0, a1, 0, ()) fun o4 => match o4 with
| .inl (x5, ()) => (some (x5, ()))
| .inr () => (some (true, ()))))
def gw_eqCrane (K : Nat) (a0 : DY1) (a1 : DY1) : Option (Bool × Unit) :=
(cond (!(strEq a0.1 a1.1))
(some (false, ()))
((gw_eqPoint K a0.2.1 a1.2.1).bind fun r1 =>
(cond (!r1.1)
(some (false, ()))
(cond (a0.2.2.1 != a1.2.2.1)
(some (false, ()))
(cond (a0.2.2.2.1 != a1.2.2.2.1)
(some (false, ()))
(cond (a0.2.2.2.2.1 != a1.2.2.2.2.1)
(some (false, ()))
((gw_eqChartStepS K a0.2.2.2.2.2.1 a1.2.2.2.2.2.1).bind fun r2 =>
(cond (!r2.1)
(some (false, ()))
(some (true, ()))))))))))
def lw_eqCraneS_0 (K : Nat) {R : Type} (d : (List DY1) × (List DY1) × Int × Unit) (kx : ((Bool × Unit) ⊕ (Unit)) → Option R) (kn : ((List DY1) × (List DY1) × Int × Unit) → Option R) : Option R := match d with
| (v0_0, v0_1, v0_2, ()) =>
(cond (decide (v0_2 < ((v0_0.length : Int))))
(atIdx v0_0.length v0_2 fun j1 =>
(atIdx v0_1.length v0_2 fun j2 =>
((gw_eqCrane K (v0_0.getD j1 Z1) (v0_1.getD j2 Z1)).bind fun r3 =>
(cond (!r3.1)
(kx (.inl (false, ())))
(kn (v0_0, v0_1, IntKind.wrap .i64 (v0_2 + 1), ()))))))
(kx (.inr ())))
def gw_eqCraneS (K : Nat) (a0 : (List DY1)) (a1 : (List DY1)) : Option (Bool × Unit) :=
(cond (((a0.length : Int)) != ((a1.length : Int)))
(some (false, ()))
(iter (lw_eqCraneS_0 K) K (a0, a1, 0, ()) fun o4 => match o4 with
| .inl (x5, ()) => (some (x5, ()))
| .inr () => (some (true, ()))))
def gw_eqSite (K : Nat) (a0 : DY2) (a1 : DY2) : Option (Bool × Unit) :=
((gw_eqCraneS K a0.1 a1.1).bind fun r1 =>
(cond (!r1.1)
(some (false, ()))
(some (true, ()))))
def gw_FnExactFreeToVane (K : Nat) (a0 : DY2) (a1 : Int) (a2 : Int) : Option (Bool × Unit) :=
((gw_szSite K a0 1048576).bind fun r1 =>
(cond (decide (r1.1 < 0))
(some (true, ()))
((gw_toSite K a0).bind fun r2 =>
((gs_FreeToVane K r2.1 a1 a2).bind fun r3 =>
((gw_toSite K a0).bind fun r4 =>
((gi_FreeToVane K r4.1 a1 a2).bind fun r5 =>
(cond (!((r5.1) == (r3.1)))
(some (false, ()))
(cond (r5.2.1 != r3.2.1)
(some (false, ()))
((gw_toSite K a0).bind fun r6 =>
((gw_eqSite K r4.1 r6.1).bind fun r7 =>
(cond (!r7.1)
(some (false, ()))
(some (true, ())))))))))))))
def ls_ParkDirection_1 (K : Nat) {R : Type} (d : Int × Int × (List Int) × Int × Bool × Int × DY2 × Unit) (kx : (Int × Int × (List Int) × Int × Bool × DY2 × Unit) → Option R) (kn : (Int × Int × (List Int) × Int × Bool × Int × DY2 × Unit) → Option R) : Option R := match d with
| (v1_0, v1_1, v1_2, v1_3, v1_4, v1_5, v1_6, ()) =>
(cond (decide (v1_5 < ((v1_6.1.length : Int))))
(cond v1_4
(cond (v1_5 == v1_0)
(kn (v1_0, v1_1, v1_2, v1_3, true, IntKind.wrap .i64 (v1_5 + 1), v1_6, ()))
(atIdx v1_6.1.length v1_0 fun j3 =>
(atIdx v1_6.1.length v1_5 fun j4 =>
((gs_l22Meet K (v1_6.1.getD j3 Z1) (v1_6.1.getD j4 Z1) ([v1_3]) v1_2 v1_1).bind fun r5 =>
(kn (v1_0, v1_1, v1_2, v1_3, !r5.1, IntKind.wrap .i64 (v1_5 + 1), v1_6, ()))))))
(kn (v1_0, v1_1, v1_2, v1_3, false, IntKind.wrap .i64 (v1_5 + 1), v1_6, ())))
(kx (v1_0, v1_1, v1_2, v1_3, v1_4, v1_6, ())))
def ls_ParkDirection_0 (K : Nat) {R : Type} (d : Int × Int × (List Int) × Int × DY2 × Unit) (kx : ((Int × Int × Unit) ⊕ (Unit)) → Option R) (kn : (Int × Int × (List Int) × Int × DY2 × Unit) → Option R) : Option R := match d with
| (v0_0, v0_1, v0_2, v0_3, v0_4, ()) =>
(cond (decide (v0_3 < 24))
(iter (ls_ParkDirection_1 K) K (v0_0, v0_1, v0_2, v0_3, true, 0, v0_4, ()) fun (x3, x4, x5, x6, x7, x8, ()) =>
(cond x7
(kx (.inl (x6, 0, ())))
(kn (x3, x4, x5, IntKind.wrap .i64 (x6 + 1), x8, ()))))
(kx (.inr ())))
def gs_ParkDirection (K : Nat) (a0 : DY2) (a1 : Int) (a2 : Int) : Option (Int × Int × Unit) :=
((gs_l22Crane K a0 a1 a2).bind fun r1 =>
(cond (r1.1 != 0)
(some (0, r1.1, ()))
((gs_l22All K ).bind fun r2 =>
(iter (ls_ParkDirection_0 K) K (a1, a2, r2.1, 0, a0, ()) fun o9 => match o9 with
| .inl (x10, x11, ()) => (some (x10, x11, ()))
| .inr () => (some (0, 3, ()))))))
def gi_ParkDirection_1_406a (K : Nat) (a0 : DY1) (a1 : (List DY1)) (a2 : Int) (a3 : Int) (a4 : Int) : Option (Bool × Unit) :=
(atIdx a1.length a2 fun j1 =>
((gi_allDirections K ).bind fun r2 =>
((gi_anyConflict K (a1.getD j1 Z1) a0 ([a3]) r2.1 a4).bind fun r3 =>
(some (!r3.1, ())))))
def li_Site_others__ParkDirection_1_c634_0 (K : Nat) {R : Type} (d : Int × (List DY1) × Int × Int × Int × (List DY1) × Int × Int × Unit) (kx : ((Bool × Unit) ⊕ (Unit)) → Option R) (kn : (Int × (List DY1) × Int × Int × Int × (List DY1) × Int × Int × Unit) → Option R) : Option R := match d with
| (v0_0, v0_1, v0_2, v0_3, v0_4, v0_5, v0_6, v0_7, ()) =>
(cond (decide (v0_7 < v0_6))
(atIdx v0_5.length v0_7 fun j1 =>
(cond (v0_7 != v0_0)
((gi_ParkDirection_1_406a K (v0_5.getD j1 Z1) v0_1 v0_2 v0_3 v0_4).bind fun r2 =>
(cond (!r2.1)
(kx (.inl (false, ())))
(kn (v0_0, v0_1, v0_2, v0_3, v0_4, v0_5, v0_6, IntKind.wrap .i64 (v0_7 + 1), ()))))
(kn (v0_0, v0_1, v0_2, v0_3, v0_4, v0_5, v0_6, IntKind.wrap .i64 (v0_7 + 1), ()))))
(kx (.inr ())))
def gi_Site_others__ParkDirection_1_c634 (K : Nat) (a0 : DY2) (a1 : Int) (a2 : (List DY1)) (a3 : Int) (a4 : Int) (a5 : Int) : Option (Bool × Unit) :=
(iter (li_Site_others__ParkDirection_1_c634_0 K) K (a1, a2, a3, a4, a5, a0.1, (a0.1.length : Int), 0, ()) fun o3 => match o3 with
| .inl (x4, ()) => (some (x4, ()))
| .inr () => (some (true, ())))
def li_ParkDirection_0 (K : Nat) {R : Type} (d : (List Int) × Int × Int × Int × Int × DY2 × Unit) (kx : ((Int × Int × Unit) ⊕ (Unit)) → Option R) (kn : ((List Int) × Int × Int × Int × Int × DY2 × Unit) → Option R) : Option R := match d with
| (v0_0, v0_1, v0_2, v0_3, v0_4, v0_5, ()) =>
(cond (decide (v0_2 < v0_1))
(atIdx v0_0.length v0_2 fun j3 =>
((gi_Site_others__ParkDirection_1_c634 K v0_5 v0_4 v0_5.1 v0_4 (v0_0.getD j3 0) v0_3).bind fun r4 =>
(cond r4.1
(kx (.inl (v0_0.getD j3 0, 0, ())))
(kn (v0_0, v0_1, IntKind.wrap .i64 (v0_2 + 1), v0_3, v0_4, v0_5, ())))))
(kx (.inr ())))
def gi_ParkDirection (K : Nat) (a0 : DY2) (a1 : Int) (a2 : Int) : Option (Int × Int × Unit) :=
((gi_distanceCode K a0 a1 a2).bind fun r1 =>
(cond (r1.1 != 0)
(some (0, r1.1, ()))
((gi_allDirections K ).bind fun r2 =>
(iter (li_ParkDirection_0 K) K (r2.1, (r2.1.length : Int), 0, a2, a1, a0, ()) fun o5 => match o5 with
| .inl (x6, x7, ()) => (some (x6, x7, ()))
| .inr () => (some (0, 3, ()))))))
def gw_FnExactParkDirection (K : Nat) (a0 : DY2) (a1 : Int) (a2 : Int) : Option (Bool × Unit) :=
((gw_szSite K a0 1048576).bind fun r1 =>
(cond (decide (r1.1 < 0))
(some (true, ()))
((gw_toSite K a0).bind fun r2 =>
((gs_ParkDirection K r2.1 a1 a2).bind fun r3 =>
((gw_toSite K a0).bind fun r4 =>
((gi_ParkDirection K r4.1 a1 a2).bind fun r5 =>
(cond (r5.1 != r3.1)
(some (false, ()))
(cond (r5.2.1 != r3.2.1)
(some (false, ()))
((gw_toSite K a0).bind fun r6 =>
((gw_eqSite K r4.1 r6.1).bind fun r7 =>
(cond (!r7.1)
(some (false, ()))
(some (true, ())))))))))))))
end Go.Proofs.Vm
