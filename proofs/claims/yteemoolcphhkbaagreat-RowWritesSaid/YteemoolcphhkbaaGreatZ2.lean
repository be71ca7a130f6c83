/- Part of the proof that YteemoolcphhkbaaGreat holds whatever the input: a text of contracts, laws and steps; no condition. -/
import Derived.Test.YteemoolcphhkbaaGreatRvX
import Derived.Test.YteemoolcphhkbaaGreatZ1
import Derived.Test.YteemoolcphhkbaaGreatProg
set_option linter.all false
set_option autoImplicit false
set_option maxRecDepth 100000
namespace Go.Proofs.YteemoolcphhkbaaGreat
open Go Go.Rv

/-- drive.sector] -/
def c95 (a0 : Value) (R : KV) (w : World) : Prop :=
  D pg (.box 81 a0) (fun x1 w =>
  D pg (.mkFn (Go.Fn.func 127) [] [x1]) (fun x3 w =>
  R x3 w) w) w

theorem c95_eq {a0 : Value} {R : KV} {w : World} : c95 a0 R w = semF pg Tryz.f95 (bodyOf Tryz.f95) [a0] R w := by kernel_rfl
instance : Fo pg 127 := fo_of (by kernel_rfl)
theorem l95 {a0 : Value} {R : KV} {w : World} (h : c95 a0 R w) : Calls pg 95 #[a0] w (Ret R) :=
  calls_of_semF mixed Tryz.func95 (by kernel_rfl) (by kernel_rfl) (by rw [Tryz.ntmps95]; rfl) (c95_eq ▸ h)

/-- drive.sector]$1 -/
def c127 (a0 : Value) (a1 : Value) (R : KV) (w : World) : Prop :=
  D pg (.load 81 a1) (fun x4 w =>
  D pg (.range 81 x4) (fun x5 w =>
  Lp [] w (fun k2 vs1 w =>
    D pg (.next x5 false 0) (fun x6 w =>
    D pg (.ext x6 0) (fun x7 w =>
    Cnd x7 (
     D pg (.entry x5) (fun x8 w =>
     D pg (.ext x8 0) (fun x9 w =>
     D pg (.call a0 [x9]) (fun x12 w =>
     D pg (.un .not x12) (fun x13 w =>
     Cnd x13 (
      R (.tuple #[]) w) (
      k2 [] w)) w) w) w) w) (
     R (.tuple #[]) w)) w) w)) w) w

theorem c127_eq {a0 a1 : Value} {R : KV} {w : World} : c127 a0 a1 R w = semF pg Tryz.f127 (bodyOf Tryz.f127) [a0, a1] R w := by kernel_rfl
instance : Sc pg 81 := sc_of (by kernel_rfl)
theorem l127 {a0 a1 : Value} {R : KV} {w : World} (h : c127 a0 a1 R w) : Calls pg 127 #[a0, a1] w (Ret R) :=
  calls_of_semF mixed Tryz.func127 (by kernel_rfl) (by kernel_rfl) (by rw [Tryz.ntmps127]; rfl) (c127_eq ▸ h)

/-- slices.AppendSeq[[]int,int] -/
def c133 (a0 : Value) (a1 : Value) (R : KV) (w : World) : Prop :=
  D pg (.box 28 a0) (fun x2 w =>
  RF pg a1 1 w (fun xs1 mid2 K3 w =>
    mid2 w (fun w =>
      D pg (.load 28 x2) (fun x8 w =>
      D pg (.mkSl 28 1 [(0, (g xs1 0))]) (fun x10 w =>
      D pg (.bi .append #[28, 28] 28 [x8, x10]) (fun x11 w =>
      D pg (.store 28 x2 x11) (fun _ w =>
      K3 none w) w) w) w) w)) (fun j4 d5 w => JK j4 (
    D pg (.load 28 x2) (fun x12_1 w =>
    Mk d5 w (fun w =>
    R x12_1 w)) w) (
    Mk d5 w (fun w =>
    R (.slice none 0 0) w)) (fun id6 =>
     cond (Nat.beq id6 0) (
      D pg (.load 28 x2) (fun x12 w =>
      Mk d5 w (fun w =>
      R x12 w)) w) (
     False)))) w

theorem c133_eq {a0 a1 : Value} {R : KV} {w : World} : c133 a0 a1 R w = semFR pg Tryz.f133 (bodyOf Tryz.f133) [a0, a1] R w := by kernel_rfl
instance : Sc pg 28 := sc_of (by kernel_rfl)
instance : Sl pg 28 3 1 8 (.int .i64 0) := sl_of (by kernel_rfl) (by kernel_rfl) (by kernel_rfl) (by kernel_rfl) (by kernel_rfl)
instance : Sz1 pg 28 1 := sz1_of (by kernel_rfl)
theorem l133 {a0 a1 : Value} {R : KV} {w : World} (h : c133 a0 a1 R w) : Calls pg 133 #[a0, a1] w (Ret R) :=
  calls_of_semFR mixed Tryz.func133 (by kernel_rfl) (by kernel_rfl) (by rw [Tryz.ntmps133]; rfl) (c133_eq ▸ h)

/-- slices.Collect[int] -/
def c110 (a0 : Value) (R : KV) (w : World) : Prop :=
  D pg (.call (.func (.func 133) #[] #[]) [(.slice none 0 0), a0]) (fun x4 w =>
  R x4 w) w

theorem c110_eq {a0 : Value} {R : KV} {w : World} : c110 a0 R w = semF pg Tryz.f110 (bodyOf Tryz.f110) [a0] R w := by kernel_rfl
instance : Fo pg 133 := fo_of (by kernel_rfl)
theorem l110 {a0 : Value} {R : KV} {w : World} (h : c110 a0 R w) : Calls pg 110 #[a0] w (Ret R) :=
  calls_of_semF mixed Tryz.func110 (by kernel_rfl) (by kernel_rfl) (by rw [Tryz.ntmps110]; rfl) (c110_eq ▸ h)

/-- slices.Sorted[int] -/
def c82 (a0 : Value) (R : KV) (w : World) : Prop :=
  D pg (.call (.func (.func 110) #[] #[]) [a0]) (fun x5 w =>
  D pg (.call (.func (.func 111) #[] #[]) [x5]) (fun x7 w =>
  R x5 w) w) w

theorem c82_eq {a0 : Value} {R : KV} {w : World} : c82 a0 R w = semF pg Tryz.f82 (bodyOf Tryz.f82) [a0] R w := by kernel_rfl
instance : Fo pg 110 := fo_of (by kernel_rfl)
instance : Fo pg 111 := fo_of (by kernel_rfl)
theorem l82 {a0 : Value} {R : KV} {w : World} (h : c82 a0 R w) : Calls pg 82 #[a0] w (Ret R) :=
  calls_of_semF mixed Tryz.func82 (by kernel_rfl) (by kernel_rfl) (by rw [Tryz.ntmps82]; rfl) (c82_eq ▸ h)

/-- drive.Drive).settle -/
def c48 (a0 : Value) (a1 : Value) (R : KV) (w : World) : Prop :=
  D pg (.nilck a0) (fun x9 w =>
  D pg (.fa 84 x9 1) (fun x10 w =>
  D pg (.load 81 x10) (fun x11 w =>
  D pg (.call (.func (.func 95) #[] #[]) [x11]) (fun x12 w =>
  D pg (.call (.func (.func 82) #[] #[]) [x12]) (fun x13 w =>
  D pg (.bi .len #[28] 3 [x13]) (fun x14 w =>
  Lp [(.int .i64 0)] w (fun k2 vs1 w =>
    D pg (.bin .lss 3 (g vs1 0) x14) (fun x16 w =>
    Cnd x16 (
     Join (fun _ w =>
       D pg (.bin .add 3 (g vs1 0) (.int .i64 1)) (fun x44 w =>
       k2 [x44] w) w) (fun k4 =>
       D pg (.ia 28 x13 (g vs1 0)) (fun x18 w =>
       D pg (.load 3 x18) (fun x19 w =>
       D pg (.nilck a0) (fun x21 w =>
       D pg (.fa 84 x21 1) (fun x22 w =>
       D pg (.load 81 x22) (fun x23 w =>
       D pg (.look 81 x23 x19 false) (fun x25 w =>
       D pg (.bi .len #[80] 3 [x25]) (fun x29 w =>
       D pg (.call a1 [(g vs1 0), x29]) (fun x30 w =>
       D pg (.bin .gtr 3 x30 (.int .i64 0)) (fun x32 w =>
       Cnd x32 (
        Dr w fun w =>
        Fl pg (.nilck a0) w fun x34 =>
        Fl pg (.fa 84 x34 0) w fun x35 =>
        Fl pg (.load 80 x35) w fun x36 =>
        Fl pg (.bin .sub 3 x30 (.int .i64 1)) w fun x40 =>
        Fl pg (.ia 80 x25 x40) w fun x41 =>
        Fl pg (.load 116 x41) w fun x42 =>
        Fl pg (.ia 80 x36 x19) w fun x43 =>
        D pg (.store 116 x43 x42) (fun _ w =>
        k4 [] w) w) (
        k4 [] w)) w) w) w) w) w) w) w) w) w)) (
     D pg (.nilck a0) (fun x46 w =>
     D pg (.fa 84 x46 1) (fun x47 w =>
     D pg (.load 81 x47) (fun x48 w =>
     D pg (.bi .clear #[81] 0 [x48]) (fun _ w =>
     R (.tuple #[]) w) w) w) w) w)) w)) w) w) w) w) w) w

theorem c48_eq {a0 a1 : Value} {R : KV} {w : World} : c48 a0 a1 R w = semF pg Tryz.f48 (bodyOf Tryz.f48) [a0, a1] R w := by kernel_rfl
instance : Sc pg 3 := sc_of (by kernel_rfl)
instance : Mp pg 81 3 80 (.slice none 0 0) := mp_of (by kernel_rfl) (by kernel_rfl) (by kernel_rfl)
instance : Sc pg 80 := sc_of (by kernel_rfl)
instance : Sl pg 80 116 64 64 (.agg #[(.int .u8 0), (.int .u8 0), (.int .u8 0), (.int .u8 0), (.int .u8 0), (.int .u8 0), (.int .u8 0), (.int .u8 0), (.int .u8 0), (.int .u8 0), (.int .u8 0), (.int .u8 0), (.int .u8 0), (.int .u8 0), (.int .u8 0), (.int .u8 0), (.int .u8 0), (.int .u8 0), (.int .u8 0), (.int .u8 0), (.int .u8 0), (.int .u8 0), (.int .u8 0), (.int .u8 0), (.int .u8 0), (.int .u8 0), (.int .u8 0), (.int .u8 0), (.int .u8 0), (.int .u8 0), (.int .u8 0), (.int .u8 0), (.int .u8 0), (.int .u8 0), (.int .u8 0), (.int .u8 0), (.int .u8 0), (.int .u8 0), (.int .u8 0), (.int .u8 0), (.int .u8 0), (.int .u8 0), (.int .u8 0), (.int .u8 0), (.int .u8 0), (.int .u8 0), (.int .u8 0), (.int .u8 0), (.int .u8 0), (.int .u8 0), (.int .u8 0), (.int .u8 0), (.int .u8 0), (.int .u8 0), (.int .u8 0), (.int .u8 0), (.int .u8 0), (.int .u8 0), (.int .u8 0), (.int .u8 0), (.int .u8 0), (.int .u8 0), (.int .u8 0), (.int .u8 0)]) := sl_of (by kernel_rfl) (by kernel_rfl) (by kernel_rfl) (by kernel_rfl) (by kernel_rfl)
instance : Ag pg 116 64 := ag_of (by kernel_rfl) (by kernel_rfl)
instance : Sz1 pg 116 64 := sz1_of (by kernel_rfl)
instance : Fa pg 84 1 1 := fa_of (by kernel_rfl)
instance : Fa pg 84 0 0 := fa_of (by kernel_rfl)
instance : Fo pg 95 := fo_of (by kernel_rfl)
instance : Fo pg 82 := fo_of (by kernel_rfl)
theorem l48 {a0 a1 : Value} {R : KV} {w : World} (h : c48 a0 a1 R w) : Calls pg 48 #[a0, a1] w (Ret R) :=
  calls_of_semF mixed Tryz.func48 (by kernel_rfl) (by kernel_rfl) (by rw [Tryz.ntmps48]; rfl) (c48_eq ▸ h)

/-- drive.Drive).Flush -/
def c47 (a0 : Value) (R : KV) (w : World) : Prop :=
  D pg (.nilck a0) (fun x4 w =>
  D pg (.fa 84 x4 3) (fun x5 w =>
  D pg (.load 4 x5) (fun x6 w =>
  Cnd x6 (
   R (.int .i64 40) w) (
   D pg (.call (.func (.func 78) #[] #[]) [a0]) (fun x8 w =>
   Cnd x8 (
    R (.int .i64 42) w) (
    D pg (.nilck a0) (fun x10 w =>
    D pg (.fa 84 x10 4) (fun x11 w =>
    D pg (.load 3 x11) (fun x12 w =>
    D pg (.bin .sub 3 x12 (.int .i64 1)) (fun x13 w =>
    D pg (.nilck a0) (fun x14 w =>
    D pg (.fa 84 x14 4) (fun x15 w =>
    D pg (.store 3 x15 x13) (fun _ w =>
    D pg (.call (.func (.func 48) #[] #[]) [a0, (.func (.func 94) #[] #[])]) (fun x17 w =>
    R (.int .i64 0) w) w) w) w) w) w) w) w) w)) w)) w) w) w

theorem c47_eq {a0 : Value} {R : KV} {w : World} : c47 a0 R w = semF pg Tryz.f47 (bodyOf Tryz.f47) [a0] R w := by kernel_rfl
instance : Sc pg 4 := sc_of (by kernel_rfl)
instance : Sz1 pg 3 1 := sz1_of (by kernel_rfl)
instance : Fa pg 84 3 3 := fa_of (by kernel_rfl)
instance : Fa pg 84 4 4 := fa_of (by kernel_rfl)
instance : Fo pg 78 := fo_of (by kernel_rfl)
instance : Fo pg 48 := fo_of (by kernel_rfl)
instance : Fo pg 94 := fo_of (by kernel_rfl)
theorem l47 {a0 : Value} {R : KV} {w : World} (h : c47 a0 R w) : Calls pg 47 #[a0] w (Ret R) :=
  calls_of_semF mixed Tryz.func47 (by kernel_rfl) (by kernel_rfl) (by rw [Tryz.ntmps47]; rfl) (c47_eq ▸ h)

/-- drive.Drive).Flush$1 -/
def c94 (a0 : Value) (a1 : Value) (R : KV) (w : World) : Prop :=
  R a1 w

theorem c94_eq {a0 a1 : Value} {R : KV} {w : World} : c94 a0 a1 R w = semF pg Tryz.f94 (bodyOf Tryz.f94) [a0, a1] R w := by kernel_rfl
theorem l94 {a0 a1 : Value} {R : KV} {w : World} (h : c94 a0 a1 R w) : Calls pg 94 #[a0, a1] w (Ret R) :=
  calls_of_semF mixed Tryz.func94 (by kernel_rfl) (by kernel_rfl) (by rw [Tryz.ntmps94]; rfl) (c94_eq ▸ h)

/-- drive.Drive).Crash -/
def c20 (a0 : Value) (a1 : Value) (R : KV) (w : World) : Prop :=
  D pg (.box 92 a1) (fun x3 w =>
  D pg (.nilck a0) (fun x5 w =>
  D pg (.fa 84 x5 5) (fun x6 w =>
  D pg (.store 4 x6 (.bool false)) (fun _ w =>
  D pg (.mkFn (Go.Fn.func 49) [] [x3]) (fun x8 w =>
  D pg (.call (.func (.func 48) #[] #[]) [a0, x8]) (fun x9 w =>
  R (.tuple #[]) w) w) w) w) w) w) w

theorem c20_eq {a0 a1 : Value} {R : KV} {w : World} : c20 a0 a1 R w = semF pg Tryz.f20 (bodyOf Tryz.f20) [a0, a1] R w := by kernel_rfl
instance : Sz1 pg 4 1 := sz1_of (by kernel_rfl)
instance : Fa pg 84 5 5 := fa_of (by kernel_rfl)
instance : Fo pg 49 := fo_of (by kernel_rfl)
theorem l20 {a0 a1 : Value} {R : KV} {w : World} (h : c20 a0 a1 R w) : Calls pg 20 #[a0, a1] w (Ret R) :=
  calls_of_semF mixed Tryz.func20 (by kernel_rfl) (by kernel_rfl) (by rw [Tryz.ntmps20]; rfl) (c20_eq ▸ h)

/-- drive.Drive).Crash$1 -/
def c49 (a0 : Value) (a1 : Value) (a2 : Value) (R : KV) (w : World) : Prop :=
  D pg (.load 92 a2) (fun x6 w =>
  D pg (.bi .len #[92] 3 [x6]) (fun x7 w =>
  D pg (.bin .eql 3 x7 (.int .i64 0)) (fun x8 w =>
  Cnd x8 (
   R (.int .i64 0) w) (
   Dr w fun w =>
   Fl pg (.load 92 a2) w fun x9 =>
   Fl pg (.load 92 a2) w fun x11 =>
   Fl pg (.bi .len #[92] 3 [x11]) w fun x12 =>
   Fl pg (.bin .rem 3 a0 x12) w fun x13 =>
   Fl pg (.ia 92 x9 x13) w fun x14 =>
   Fl pg (.load 5 x14) w fun x15 =>
   Fl pg (.bin .add 3 a1 (.int .i64 1)) w fun x18 =>
   D pg (.conv 5 3 x15) (fun x16 w =>
   (StAll pg [((some (.bin .add 3 a1 (.int .i64 1))), x18)] w ∧
   Fl pg (.bin .rem 3 x16 x18) w fun x19 =>
   R x19 w)) w)) w) w) w

theorem c49_eq {a0 a1 a2 : Value} {R : KV} {w : World} : c49 a0 a1 a2 R w = semF pg Tryz.f49 (bodyOf Tryz.f49) [a0, a1, a2] R w := by kernel_rfl
instance : Sc pg 92 := sc_of (by kernel_rfl)
instance : Sl pg 92 5 1 1 (.int .u8 0) := sl_of (by kernel_rfl) (by kernel_rfl) (by kernel_rfl) (by kernel_rfl) (by kernel_rfl)
instance : Sc pg 5 := sc_of (by kernel_rfl)
instance : It pg 5 .u8 := it_of (by kernel_rfl)
instance : It pg 3 .i64 := it_of (by kernel_rfl)
theorem l49 {a0 a1 a2 : Value} {R : KV} {w : World} (h : c49 a0 a1 a2 R w) : Calls pg 49 #[a0, a1, a2] w (Ret R) :=
  calls_of_semF mixed Tryz.func49 (by kernel_rfl) (by kernel_rfl) (by rw [Tryz.ntmps49]; rfl) (c49_eq ▸ h)

/-- revetmentlaw16.RowWrites -/
def c4 (a0 : Value) (a1 : Value) (a2 : Value) (a3 : Value) (a4 : Value) (a5 : Value) (a6 : Value) (a7 : Value) (R : KV) (w : World) : Prop :=
  D pg (.bi .len #[9] 3 [a6]) (fun x32 w =>
  D pg (.bin .gtr 3 x32 (.int .i64 100)) (fun x33 w =>
  GD pg x33 false (.call (.func (.func 7) #[] #[]) []) (fun x35 w =>
  GD pg x33 false (.un .not x35) (fun x36 w =>
  D pg (.pick x33 (.bool true) x36) (fun x37 w =>
  Cnd x37 (
   D pg (.call (.func (.func 7) #[] #[]) []) (fun x38 w =>
   R x38 w) w) (
   D pg (.call (.func (.func 8) #[] #[]) [a0, a1, a2]) (fun x42 w =>
   D pg (.alloc 25) (fun x17 w =>
   D pg (.store 25 x17 x42) (fun _ w =>
   D pg (.load 25 x17) (fun x44 w =>
   D pg (.call (.func (.func 9) #[] #[]) [x44, (.bool false)]) (fun x45 w =>
   D pg (.ext x45 0) (fun x46 w =>
   D pg (.ext x45 1) (fun x47 w =>
   D pg (.alloc 30) (fun x18 w =>
   D pg (.alloc 33) (fun x19 w =>
   D pg (.store 30 x18 x46) (fun _ w =>
   D pg (.store 33 x19 x47) (fun _ w =>
   D pg (.conv 5 3 a3) (fun x49 w =>
   D pg (.fa 25 x17 2) (fun x50 w =>
   D pg (.load 3 x50) (fun x51 w =>
   D pg (.bin .rem 3 x49 x51) (fun x52 w =>
   D pg (.conv 5 3 a4) (fun x54 w =>
   D pg (.fa 25 x17 1) (fun x55 w =>
   D pg (.load 3 x55) (fun x56 w =>
   D pg (.bin .rem 3 x54 x56) (fun x57 w =>
   D pg (.conv 5 3 a5) (fun x59 w =>
   D pg (.fa 25 x17 0) (fun x60 w =>
   D pg (.load 3 x60) (fun x61 w =>
   D pg (.bin .rem 3 x59 x61) (fun x62 w =>
   Dr w fun w =>
   Fl pg (.load 30 x18) w fun x63 =>
   D pg (.call (.func (.func 10) #[] #[]) [a6]) (fun x68 w =>
   (StAll pg [((some (.load 30 x18)), x63)] w ∧
   D pg (.call (.func (.func 13) #[] #[]) [x63, x52, x57, x62, x68]) (fun x69 w =>
   Fl pg (.bin .neq 38 x69 (.int .i64 0)) w fun x70 =>
   GM x70 false a7 fun x72 =>
   GM x70 false x72 fun x73 =>
   GF pg x73 true (.load 30 x18) w fun q1 x74 =>
   GD pg x73 true (.call (.func (.func 19) #[] #[]) [x74]) (fun x75 w =>
   GF pg x73 true (.bin .neq 38 x75 (.int .i64 0)) w fun q2 x76 =>
   GF pg x70 false (.pick x73 x76 (.bool false)) w fun q3 x77 =>
   Fl pg (.pick x70 (.bool true) x77) w fun x78 =>
   Cnd x78 (
    R (.bool false) w) (
    Lp [(.int .i64 0)] w (fun k5 vs4 w =>
      D pg (.fa 25 x17 0) (fun x80 w =>
      D pg (.load 3 x80) (fun x81 w =>
      D pg (.bin .lss 3 (g vs4 0) x81) (fun x82 w =>
      Cnd x82 (
       D pg (.fa 30 x18 1) (fun x85 w =>
       D pg (.load 27 x85) (fun x86 w =>
       D pg (.ia 27 x86 (g vs4 0)) (fun x88 w =>
       D pg (.load 40 x88) (fun x89 w =>
       D pg (.call (.func (.func 20) #[] #[]) [x89, (.slice none 0 0)]) (fun x90 w =>
       D pg (.bin .add 3 (g vs4 0) (.int .i64 1)) (fun x84 w =>
       k5 [x84] w) w) w) w) w) w) w) (
       Lp [(.int .i64 0), (.bool false)] w (fun k7 vs6 w =>
         D pg (.fa 25 x17 2) (fun x92 w =>
         D pg (.load 3 x92) (fun x93 w =>
         D pg (.bin .lss 3 (g vs6 0) x93) (fun x94 w =>
         Cnd x94 (
          Lp [(.int .i64 0), (g vs6 1)] w (fun k9 vs8 w =>
            D pg (.fa 25 x17 1) (fun x98 w =>
            D pg (.load 3 x98) (fun x99 w =>
            D pg (.bin .lss 3 (g vs8 0) x99) (fun x100 w =>
            Cnd x100 (
             D pg (.load 30 x18) (fun x104 w =>
             D pg (.call (.func (.func 17) #[] #[]) [x104, (g vs6 0), (g vs8 0)]) (fun x107 w =>
             D pg (.ext x107 0) (fun x108 w =>
             D pg (.ext x107 1) (fun x109 w =>
             D pg (.ext x107 2) (fun x110 w =>
             D pg (.bin .neq 38 x110 (.int .i64 0)) (fun x112 w =>
             GM x112 false x109 fun x114 =>
             GD pg x112 false (.bi .len #[28] 3 [x114]) (fun x115 w =>
             GD pg x112 false (.bin .neq 3 x115 (.int .i64 0)) (fun x116 w =>
             D pg (.pick x112 (.bool true) x116) (fun x117 w =>
             GM x117 false x108 fun x119 =>
             GD pg x117 false (.bi .len #[22] 3 [x119]) (fun x120 w =>
             GD pg x117 false (.fa 25 x17 0) (fun x121 w =>
             GD pg x117 false (.load 3 x121) (fun x122 w =>
             GD pg x117 false (.bin .neq 3 x120 x122) (fun x123 w =>
             D pg (.pick x117 (.bool true) x123) (fun x124 w =>
             Cnd x124 (
              R (.bool false) w) (
              Lp [(.int .i64 0), (g vs8 1)] w (fun k11 vs10 w =>
                D pg (.fa 25 x17 0) (fun x126 w =>
                D pg (.load 3 x126) (fun x127 w =>
                D pg (.bin .lss 3 (g vs10 0) x127) (fun x128 w =>
                Cnd x128 (
                 D pg (.call (.func (.func 10) #[] #[]) [(.string ⟨#[]⟩)]) (fun x131 w =>
                 Join (fun vs12 w =>
                   D pg (.ia 22 x108 (g vs10 0)) (fun x152 w =>
                   D pg (.load 9 x152) (fun x153 w =>
                   D pg (.bin .neq 9 x153 (g vs12 0)) (fun x155 w =>
                   Cnd x155 (
                    R (.bool false) w) (
                    D pg (.bin .add 3 (g vs10 0) (.int .i64 1)) (fun x130 w =>
                    k11 [x130, (g vs10 1)] w) w)) w) w) w) (fun k13 =>
                   D pg (.bin .eql 3 (g vs6 0) x52) (fun x134 w =>
                   GM x134 true (g vs8 0) fun x136 =>
                   GM x134 true x57 fun x137 =>
                   GD pg x134 true (.bin .eql 3 x136 x137) (fun x138 w =>
                   D pg (.pick x134 x138 (.bool false)) (fun x139 w =>
                   GM x139 true (g vs10 0) fun x141 =>
                   GM x139 true x62 fun x142 =>
                   GD pg x139 true (.bin .eql 3 x141 x142) (fun x143 w =>
                   D pg (.pick x139 x143 (.bool false)) (fun x144 w =>
                   GM x144 true a7 fun x146 =>
                   D pg (.pick x144 x146 (.bool false)) (fun x147 w =>
                   Cnd x147 (
                    D pg (.call (.func (.func 10) #[] #[]) [a6]) (fun x149 w =>
                    k13 [x149] w) w) (
                    k13 [x131] w)) w) w) w) w) w) w)) w) (
                 D pg (.bin .add 3 (g vs8 0) (.int .i64 1)) (fun x102 w =>
                 k9 [x102, (g vs10 1)] w) w)) w) w) w))) w) w) w) w) w) w) w) w) w) w) w) w) w) w) (
             D pg (.bin .add 3 (g vs6 0) (.int .i64 1)) (fun x96 w =>
             k7 [x96, (g vs8 1)] w) w)) w) w) w)) (
          R (.bool true) w)) w) w) w))) w) w) w))) w) w)) w) w) w) w) w) w) w) w) w) w) w) w) w) w) w) w) w) w) w) w) w) w) w) w)) w) w) w) w) w

theorem c4_eq {a0 a1 a2 a3 a4 a5 a6 a7 : Value} {R : KV} {w : World} : c4 a0 a1 a2 a3 a4 a5 a6 a7 R w = semF pg Tryz.f4 (bodyOf Tryz.f4) [a0, a1, a2, a3, a4, a5, a6, a7] R w := by kernel_rfl
instance : ZrL pg 25 [(.int .i64 0), (.int .i64 0), (.int .i64 0)] := zrl_of (v := (.agg #[(.int .i64 0), (.int .i64 0), (.int .i64 0)])) (by kernel_rfl) rfl
instance : Sz1 pg 25 3 := sz1_of (by kernel_rfl)
instance : Ag pg 25 3 := ag_of (by kernel_rfl) (by kernel_rfl)
instance : ZrL pg 30 [(.int .i64 0), (.int .i64 0), (.int .i64 0), (.slice none 0 0), (.slice none 0 0)] := zrl_of (v := (.agg #[(.int .i64 0), (.int .i64 0), (.int .i64 0), (.slice none 0 0), (.slice none 0 0)])) (by kernel_rfl) rfl
instance : ZrL pg 33 [(.int .i64 0), (.int .i64 0), (.int .i64 0), (.slice none 0 0), (.slice none 0 0)] := zrl_of (v := (.agg #[(.int .i64 0), (.int .i64 0), (.int .i64 0), (.slice none 0 0), (.slice none 0 0)])) (by kernel_rfl) rfl
instance : Sz1 pg 30 5 := sz1_of (by kernel_rfl)
instance : Sz1 pg 33 5 := sz1_of (by kernel_rfl)
instance : Ag pg 30 5 := ag_of (by kernel_rfl) (by kernel_rfl)
instance : Sc pg 27 := sc_of (by kernel_rfl)
instance : Sl pg 27 40 1 8 (.pointer none) := sl_of (by kernel_rfl) (by kernel_rfl) (by kernel_rfl) (by kernel_rfl) (by kernel_rfl)
instance : Sc pg 40 := sc_of (by kernel_rfl)
instance : Sl pg 22 9 1 16 (.string ⟨#[]⟩) := sl_of (by kernel_rfl) (by kernel_rfl) (by kernel_rfl) (by kernel_rfl) (by kernel_rfl)
instance : Sc pg 9 := sc_of (by kernel_rfl)
instance : Fa pg 25 2 2 := fa_of (by kernel_rfl)
instance : Fa pg 25 1 1 := fa_of (by kernel_rfl)
instance : Fa pg 25 0 0 := fa_of (by kernel_rfl)
instance : Fa pg 30 1 3 := fa_of (by kernel_rfl)
instance : Str pg 9 := str_of_ty (by kernel_rfl)
instance : Fo pg 7 := fo_of (by kernel_rfl)
instance : Fo pg 8 := fo_of (by kernel_rfl)
instance : Fo pg 9 := fo_of (by kernel_rfl)
instance : Fo pg 10 := fo_of (by kernel_rfl)
instance : Fo pg 13 := fo_of (by kernel_rfl)
instance : Fo pg 19 := fo_of (by kernel_rfl)
instance : Fo pg 20 := fo_of (by kernel_rfl)
instance : Fo pg 17 := fo_of (by kernel_rfl)
theorem l4 {a0 a1 a2 a3 a4 a5 a6 a7 : Value} {R : KV} {w : World} (h : c4 a0 a1 a2 a3 a4 a5 a6 a7 R w) : Calls pg 4 #[a0, a1, a2, a3, a4, a5, a6, a7] w (Ret R) :=
  calls_of_semF mixed Tryz.func4 (by kernel_rfl) (by kernel_rfl) (by rw [Tryz.ntmps4]; rfl) (c4_eq ▸ h)
end Go.Proofs.YteemoolcphhkbaaGreat
