/- Part of the proof that YteemoolcphhkbaaGreat holds whatever the input: a text of contracts, laws and steps; no condition. -/
import Derived.Test.YteemoolcphhkbaaGreatRvU
import Derived.Test.YteemoolcphhkbaaGreatProg
set_option linter.all false
set_option autoImplicit false
set_option maxRecDepth 100000
namespace Go.Proofs.YteemoolcphhkbaaGreat
open Go Go.Rv

noncomputable def pg : Program := Tryz.prog
theorem mixed : pg.follows .mixedOrders = true := by kernel_rfl

/-- revetmentlaw16.RowArgs -/
def c5 (a0 : Value) (a1 : Value) (a2 : Value) (a3 : Value) (a4 : Value) (a5 : Value) (R : KV) (w : World) : Prop :=
  D pg (.call (.func (.func 8) #[] #[]) [a0, a1, a2]) (fun x31 w =>
  D pg (.alloc 25) (fun x13 w =>
  D pg (.store 25 x13 x31) (fun _ w =>
  D pg (.load 25 x13) (fun x33 w =>
  D pg (.call (.func (.func 9) #[] #[]) [x33, (.bool false)]) (fun x34 w =>
  D pg (.ext x34 0) (fun x35 w =>
  D pg (.ext x34 1) (fun x36 w =>
  D pg (.alloc 30) (fun x14 w =>
  D pg (.alloc 33) (fun x15 w =>
  D pg (.store 30 x14 x35) (fun _ w =>
  D pg (.store 33 x15 x36) (fun _ w =>
  D pg (.fa 30 x14 1) (fun x37 w =>
  D pg (.load 27 x37) (fun x38 w =>
  D pg (.ia 27 x38 (.int .i64 0)) (fun x39 w =>
  D pg (.load 40 x39) (fun x40 w =>
  D pg (.bin .eql 40 x40 (.pointer none)) (fun x41 w =>
  GD pg x41 false (.load 30 x14) (fun x43 w =>
  GD pg x41 false (.call (.func (.func 21) #[] #[]) [x43]) (fun x44 w =>
  GD pg x41 false (.un .not x44) (fun x45 w =>
  D pg (.pick x41 (.bool true) x45) (fun x46 w =>
  GD pg x46 false (.call (.func (.func 7) #[] #[]) []) (fun x48 w =>
  GD pg x46 false (.un .not x48) (fun x49 w =>
  D pg (.pick x46 (.bool true) x49) (fun x50 w =>
  Cnd x50 (
   R (.bool false) w) (
   D pg (.bin .geq 3 a3 (.int .i64 0)) (fun x52 w =>
   GM x52 true a3 fun x54 =>
   GD pg x52 true (.fa 25 x13 2) (fun x55 w =>
   GD pg x52 true (.load 3 x55) (fun x56 w =>
   GD pg x52 true (.bin .lss 3 x54 x56) (fun x57 w =>
   D pg (.pick x52 x57 (.bool false)) (fun x58 w =>
   GM x58 true a4 fun x60 =>
   GD pg x58 true (.bin .geq 3 x60 (.int .i64 0)) (fun x61 w =>
   D pg (.pick x58 x61 (.bool false)) (fun x62 w =>
   GM x62 true a4 fun x64 =>
   GD pg x62 true (.fa 25 x13 1) (fun x65 w =>
   GD pg x62 true (.load 3 x65) (fun x66 w =>
   GD pg x62 true (.bin .lss 3 x64 x66) (fun x67 w =>
   D pg (.pick x62 x67 (.bool false)) (fun x68 w =>
   D pg (.load 30 x14) (fun x70 w =>
   D pg (.call (.func (.func 17) #[] #[]) [x70, a3, a4]) (fun x73 w =>
   D pg (.ext x73 0) (fun x74 w =>
   D pg (.ext x73 1) (fun x75 w =>
   D pg (.ext x73 2) (fun x76 w =>
   D pg (.load 30 x14) (fun x78 w =>
   D pg (.call (.func (.func 16) #[] #[]) [x78, a3, a4, a5]) (fun x82 w =>
   D pg (.ext x82 0) (fun x83 w =>
   D pg (.ext x82 1) (fun x84 w =>
   Dr w fun w =>
   Fl pg (.load 30 x14) w fun x85 =>
   D pg (.call (.func (.func 10) #[] #[]) [(.string ⟨#[97]⟩)]) (fun x89 w =>
   (StAll pg [((some (.load 30 x14)), x85)] w ∧
   D pg (.call (.func (.func 13) #[] #[]) [x85, a3, a4, a5, x89]) (fun x90 w =>
   D pg (.bin .eql 38 x76 (.int .i64 0)) (fun x92 w =>
   D pg (.bin .neq 4 x92 x68) (fun x94 w =>
   GM x94 false x84 fun x96 =>
   GD pg x94 false (.bin .eql 38 x96 (.int .i64 0)) (fun x97 w =>
   GM x94 false x68 fun x98 =>
   GM x94 false x98 fun x99 =>
   GM x99 true a5 fun x100 =>
   GD pg x99 true (.bin .geq 3 x100 (.int .i64 0)) (fun x101 w =>
   GD pg x94 false (.pick x99 x101 (.bool false)) (fun x102 w =>
   GM x94 false x102 fun x103 =>
   GM x103 true a5 fun x104 =>
   GD pg x103 true (.fa 25 x13 0) (fun x105 w =>
   GD pg x103 true (.load 3 x105) (fun x106 w =>
   GD pg x103 true (.bin .sub 3 x106 (.int .i64 2)) (fun x107 w =>
   GD pg x103 true (.bin .lss 3 x104 x107) (fun x108 w =>
   GD pg x94 false (.pick x103 x108 (.bool false)) (fun x109 w =>
   GD pg x94 false (.bin .neq 4 x97 x109) (fun x110 w =>
   D pg (.pick x94 (.bool true) x110) (fun x111 w =>
   GM x111 false x90 fun x113 =>
   GD pg x111 false (.bin .eql 38 x113 (.int .i64 0)) (fun x114 w =>
   GM x111 false x68 fun x115 =>
   GM x111 false x115 fun x116 =>
   GM x116 true a5 fun x117 =>
   GD pg x116 true (.bin .geq 3 x117 (.int .i64 0)) (fun x118 w =>
   GD pg x111 false (.pick x116 x118 (.bool false)) (fun x119 w =>
   GM x111 false x119 fun x120 =>
   GM x120 true a5 fun x121 =>
   GD pg x120 true (.fa 25 x13 0) (fun x122 w =>
   GD pg x120 true (.load 3 x122) (fun x123 w =>
   GD pg x120 true (.bin .lss 3 x121 x123) (fun x124 w =>
   GD pg x111 false (.pick x120 x124 (.bool false)) (fun x125 w =>
   GD pg x111 false (.bin .neq 4 x114 x125) (fun x126 w =>
   D pg (.pick x111 (.bool true) x126) (fun x127 w =>
   GM x127 false x76 fun x129 =>
   GD pg x127 false (.bin .neq 38 x129 (.int .i64 0)) (fun x130 w =>
   GM x127 false x130 fun x131 =>
   GM x131 true x76 fun x132 =>
   GD pg x131 true (.bin .neq 38 x132 (.int .i64 70)) (fun x133 w =>
   GD pg x127 false (.pick x131 x133 (.bool false)) (fun x134 w =>
   D pg (.pick x127 (.bool true) x134) (fun x135 w =>
   GM x135 false x84 fun x137 =>
   GD pg x135 false (.bin .neq 38 x137 (.int .i64 0)) (fun x138 w =>
   GM x135 false x138 fun x139 =>
   GM x139 true x84 fun x140 =>
   GD pg x139 true (.bin .neq 38 x140 (.int .i64 70)) (fun x141 w =>
   GD pg x135 false (.pick x139 x141 (.bool false)) (fun x142 w =>
   D pg (.pick x135 (.bool true) x142) (fun x143 w =>
   GM x143 false x90 fun x145 =>
   GD pg x143 false (.bin .neq 38 x145 (.int .i64 0)) (fun x146 w =>
   GM x143 false x146 fun x147 =>
   GM x147 true x90 fun x148 =>
   GD pg x147 true (.bin .neq 38 x148 (.int .i64 70)) (fun x149 w =>
   GD pg x143 false (.pick x147 x149 (.bool false)) (fun x150 w =>
   D pg (.pick x143 (.bool true) x150) (fun x151 w =>
   Cnd x151 (
    R (.bool false) w) (
    D pg (.fa 30 x14 1) (fun x152 w =>
    D pg (.load 27 x152) (fun x153 w =>
    D pg (.slice 27 x153 (some (.int .i64 1)) none none) (fun x154 w =>
    D pg (.fa 30 x14 1) (fun x155 w =>
    D pg (.store 27 x155 x154) (fun _ w =>
    D pg (.load 30 x14) (fun x157 w =>
    D pg (.call (.func (.func 17) #[] #[]) [x157, (.int .i64 0), (.int .i64 0)]) (fun x158 w =>
    D pg (.ext x158 0) (fun x159 w =>
    D pg (.ext x158 1) (fun x160 w =>
    D pg (.ext x158 2) (fun x161 w =>
    D pg (.load 30 x14) (fun x163 w =>
    D pg (.call (.func (.func 22) #[] #[]) [x163, (.int .i64 0)]) (fun x164 w =>
    D pg (.ext x164 0) (fun x165 w =>
    D pg (.ext x164 1) (fun x166 w =>
    Dr w fun w =>
    Fl pg (.bin .eql 38 x161 (.int .i64 1)) w fun x168 =>
    GM x168 true x166 fun x170 =>
    GF pg x168 true (.bin .eql 38 x170 (.int .i64 1)) w fun q1 x171 =>
    Fl pg (.pick x168 x171 (.bool false)) w fun x172 =>
    GF pg x172 true (.load 30 x14) w fun q2 x174 =>
    GD pg x172 true (.call (.func (.func 19) #[] #[]) [x174]) (fun x175 w =>
    GF pg x172 true (.bin .eql 38 x175 (.int .i64 1)) w fun q3 x176 =>
    Fl pg (.pick x172 x176 (.bool false)) w fun x177 =>
    GF pg x177 true (.load 30 x14) w fun q4 x179 =>
    GD pg x177 true (.call (.func (.func 10) #[] #[]) [(.string ⟨#[]⟩)]) (fun x180 w =>
    AndS pg (consO (pureQ q4) q4 x179 []) w (
    GD pg x177 true (.call (.func (.func 13) #[] #[]) [x179, (.int .i64 0), (.int .i64 0), (.int .i64 0), x180]) (fun x181 w =>
    GF pg x177 true (.bin .eql 38 x181 (.int .i64 1)) w fun q5 x182 =>
    Fl pg (.pick x177 x182 (.bool false)) w fun x183 =>
    GF pg x183 true (.load 30 x14) w fun q6 x185 =>
    GD pg x183 true (.call (.func (.func 21) #[] #[]) [x185]) (fun x186 w =>
    GF pg x183 true (.un .not x186) w fun q7 x187 =>
    Fl pg (.pick x183 x187 (.bool false)) w fun x188 =>
    R x188 w) w) w)) w) w) w) w) w) w) w) w) w) w) w) w) w) w) w) w)) w) w) w) w) w) w) w) w) w) w) w) w) w) w) w) w) w) w) w) w) w) w) w) w) w) w) w) w) w) w) w) w) w) w)) w) w) w) w) w) w) w) w) w) w) w) w) w) w) w) w) w) w) w) w) w)) w) w) w) w) w) w) w) w) w) w) w) w) w) w) w) w) w) w) w) w) w) w) w

theorem c5_eq {a0 a1 a2 a3 a4 a5 : Value} {R : KV} {w : World} : c5 a0 a1 a2 a3 a4 a5 R w = semF pg Tryz.f5 (bodyOf Tryz.f5) [a0, a1, a2, a3, a4, a5] R w := by kernel_rfl
instance : ZrL pg 25 [(.int .i64 0), (.int .i64 0), (.int .i64 0)] := zrl_of (v := (.agg #[(.int .i64 0), (.int .i64 0), (.int .i64 0)])) (by kernel_rfl) rfl
instance : Sz1 pg 25 3 := sz1_of (by kernel_rfl)
instance : Ag pg 25 3 := ag_of (by kernel_rfl) (by kernel_rfl)
instance : ZrL pg 30 [(.int .i64 0), (.int .i64 0), (.int .i64 0), (.slice none 0 0), (.slice none 0 0)] := zrl_of (v := (.agg #[(.int .i64 0), (.int .i64 0), (.int .i64 0), (.slice none 0 0), (.slice none 0 0)])) (by kernel_rfl) rfl
instance : ZrL pg 33 [(.int .i64 0), (.int .i64 0), (.int .i64 0), (.slice none 0 0), (.slice none 0 0)] := zrl_of (v := (.agg #[(.int .i64 0), (.int .i64 0), (.int .i64 0), (.slice none 0 0), (.slice none 0 0)])) (by kernel_rfl) rfl
instance : Sz1 pg 30 5 := sz1_of (by kernel_rfl)
instance : Sz1 pg 33 5 := sz1_of (by kernel_rfl)
instance : Sc pg 27 := sc_of (by kernel_rfl)
instance : Sl pg 27 40 1 8 (.pointer none) := sl_of (by kernel_rfl) (by kernel_rfl) (by kernel_rfl) (by kernel_rfl) (by kernel_rfl)
instance : Sc pg 40 := sc_of (by kernel_rfl)
instance : Ag pg 30 5 := ag_of (by kernel_rfl) (by kernel_rfl)
instance : Sc pg 3 := sc_of (by kernel_rfl)
instance : Sz1 pg 27 1 := sz1_of (by kernel_rfl)
instance : Fa pg 30 1 3 := fa_of (by kernel_rfl)
instance : Fa pg 25 2 2 := fa_of (by kernel_rfl)
instance : Fa pg 25 1 1 := fa_of (by kernel_rfl)
instance : Fa pg 25 0 0 := fa_of (by kernel_rfl)
instance : Ptr pg 40 := ptr_of (by kernel_rfl)
instance : Bo pg 4 := bo_of (by kernel_rfl)
instance : Fo pg 8 := fo_of (by kernel_rfl)
instance : Fo pg 9 := fo_of (by kernel_rfl)
instance : Fo pg 21 := fo_of (by kernel_rfl)
instance : Fo pg 7 := fo_of (by kernel_rfl)
instance : Fo pg 17 := fo_of (by kernel_rfl)
instance : Fo pg 16 := fo_of (by kernel_rfl)
instance : Fo pg 10 := fo_of (by kernel_rfl)
instance : Fo pg 13 := fo_of (by kernel_rfl)
instance : Fo pg 22 := fo_of (by kernel_rfl)
instance : Fo pg 19 := fo_of (by kernel_rfl)
theorem l5 {a0 a1 a2 a3 a4 a5 : Value} {R : KV} {w : World} (h : c5 a0 a1 a2 a3 a4 a5 R w) : Calls pg 5 #[a0, a1, a2, a3, a4, a5] w (Ret R) :=
  calls_of_semF mixed Tryz.func5 (by kernel_rfl) (by kernel_rfl) (by rw [Tryz.ntmps5]; rfl) (c5_eq ▸ h)

/-- revetmentlaw16.shown -/
def c7 (R : KV) (w : World) : Prop :=
  D pg (.call (.func (.func 8) #[] #[]) [(.int .u8 0), (.int .u8 0), (.int .u8 0)]) (fun x6 w =>
  D pg (.call (.func (.func 9) #[] #[]) [x6, (.bool false)]) (fun x7 w =>
  D pg (.ext x7 0) (fun x8 w =>
  D pg (.ext x7 1) (fun x9 w =>
  D pg (.alloc 30) (fun x1 w =>
  D pg (.alloc 33) (fun x2 w =>
  D pg (.store 30 x1 x8) (fun _ w =>
  D pg (.store 33 x2 x9) (fun _ w =>
  Dr w fun w =>
  Fl pg (.fa 30 x1 1) w fun x10 =>
  Fl pg (.load 27 x10) w fun x11 =>
  Fl pg (.ia 27 x11 (.int .i64 0)) w fun x12 =>
  Fl pg (.load 40 x12) w fun x13 =>
  Fl pg (.bin .eql 40 x13 (.pointer none)) w fun x14 =>
  GF pg x14 false (.load 30 x1) w fun q1 x16 =>
  GD pg x14 false (.call (.func (.func 10) #[] #[]) [(.string ⟨#[97]⟩)]) (fun x17 w =>
  AndS pg (consO (pureQ q1) q1 x16 []) w (
  GD pg x14 false (.call (.func (.func 13) #[] #[]) [x16, (.int .i64 0), (.int .i64 0), (.int .i64 1), x17]) (fun x18 w =>
  GF pg x14 false (.bin .neq 38 x18 (.int .i64 0)) w fun q2 x19 =>
  Fl pg (.pick x14 (.bool true) x19) w fun x20 =>
  Cnd x20 (
   R (.bool false) w) (
   D pg (.load 30 x1) (fun x22 w =>
   D pg (.call (.func (.func 16) #[] #[]) [x22, (.int .i64 0), (.int .i64 0), (.int .i64 1)]) (fun x23 w =>
   D pg (.ext x23 0) (fun x24 w =>
   D pg (.ext x23 1) (fun x25 w =>
   D pg (.call (.func (.func 10) #[] #[]) [(.string ⟨#[97]⟩)]) (fun x27 w =>
   D pg (.bin .eql 9 x24 x27) (fun x28 w =>
   GM x28 true x25 fun x30 =>
   GD pg x28 true (.bin .eql 38 x30 (.int .i64 0)) (fun x31 w =>
   D pg (.pick x28 x31 (.bool false)) (fun x32 w =>
   GD pg x32 true (.load 30 x1) (fun x34 w =>
   GD pg x32 true (.call (.func (.func 21) #[] #[]) [x34]) (fun x35 w =>
   D pg (.pick x32 x35 (.bool false)) (fun x36 w =>
   R x36 w) w) w) w) w) w) w) w) w) w) w) w)) w)) w) w) w) w) w) w) w) w) w

theorem c7_eq {R : KV} {w : World} : c7  R w = semF pg Tryz.f7 (bodyOf Tryz.f7) [] R w := by kernel_rfl
theorem l7 {R : KV} {w : World} (h : c7  R w) : Calls pg 7 #[] w (Ret R) :=
  calls_of_semF mixed Tryz.func7 (by kernel_rfl) (by kernel_rfl) (by rw [Tryz.ntmps7]; rfl) (c7_eq ▸ h)

/-- revetmentlaw16.geometry -/
def c8 (a0 : Value) (a1 : Value) (a2 : Value) (R : KV) (w : World) : Prop :=
  D pg (.alloc 25) (fun x6 w =>
  D pg (.conv 5 3 a0) (fun x8 w =>
  D pg (.bin .rem 3 x8 (.int .i64 4)) (fun x9 w =>
  D pg (.bin .add 3 (.int .i64 4) x9) (fun x10 w =>
  D pg (.conv 5 3 a1) (fun x12 w =>
  D pg (.bin .rem 3 x12 (.int .i64 3)) (fun x13 w =>
  D pg (.bin .add 3 (.int .i64 1) x13) (fun x14 w =>
  D pg (.conv 5 3 a2) (fun x16 w =>
  D pg (.bin .rem 3 x16 (.int .i64 6)) (fun x17 w =>
  D pg (.bin .add 3 (.int .i64 1) x17) (fun x18 w =>
  D pg (.build 25 [(0, x10), (1, x14), (2, x18)]) (fun x19 w =>
  D pg (.store 25 x6 x19) (fun _ w =>
  Fl pg (.load 25 x6) w fun r1 =>
  R r1 w) w) w) w) w) w) w) w) w) w) w) w) w

theorem c8_eq {a0 a1 a2 : Value} {R : KV} {w : World} : c8 a0 a1 a2 R w = semF pg Tryz.f8 (bodyOf Tryz.f8) [a0, a1, a2] R w := by kernel_rfl
instance : It pg 5 .u8 := it_of (by kernel_rfl)
instance : It pg 3 .i64 := it_of (by kernel_rfl)
instance : Bd pg 25 [(0, 1), (1, 1), (2, 1)] [(.int .i64 0), (.int .i64 0), (.int .i64 0)] := bd_of (v := (.agg #[(.int .i64 0), (.int .i64 0), (.int .i64 0)])) 0 0 (by kernel_rfl) (by kernel_rfl) rfl
theorem l8 {a0 a1 a2 : Value} {R : KV} {w : World} (h : c8 a0 a1 a2 R w) : Calls pg 8 #[a0, a1, a2] w (Ret R) :=
  calls_of_semF mixed Tryz.func8 (by kernel_rfl) (by kernel_rfl) (by rw [Tryz.ntmps8]; rfl) (c8_eq ▸ h)

/-- revetmentlaw16.pair -/
def c9 (a0 : Value) (a1 : Value) (R : KV) (w : World) : Prop :=
  D pg (.box 25 a0) (fun x2 w =>
  D pg (.alloc 30) (fun x4 w =>
  D pg (.alloc 33) (fun x5 w =>
  D pg (.load 25 x2) (fun x10 w =>
  D pg (.build 30 [(0, x10)]) (fun x11 w =>
  D pg (.alloc 30) (fun x6 w =>
  D pg (.store 30 x6 x11) (fun _ w =>
  D pg (.load 25 x2) (fun x12 w =>
  D pg (.build 33 [(0, x12)]) (fun x13 w =>
  D pg (.alloc 33) (fun x7 w =>
  D pg (.store 33 x7 x13) (fun _ w =>
  D pg (.fa 25 x2 2) (fun x14 w =>
  D pg (.load 3 x14) (fun x15 w =>
  D pg (.fa 25 x2 1) (fun x16 w =>
  D pg (.load 3 x16) (fun x17 w =>
  D pg (.bin .mul 3 x15 x17) (fun x18 w =>
  D pg (.bin .add 3 (.int .i64 4) x18) (fun x19 w =>
  Join (fun vs1 w =>
    Lp [(.int .i64 0)] w (fun k4 vs3 w =>
      D pg (.fa 25 x2 0) (fun x24 w =>
      D pg (.load 3 x24) (fun x25 w =>
      D pg (.bin .lss 3 (g vs3 0) x25) (fun x26 w =>
      Cnd x26 (
       Dr w fun w =>
       Fl pg (.fa 30 x6 1) w fun x29 =>
       Fl pg (.load 27 x29) w fun x30 =>
       D pg (.call (.func (.func 32) #[] #[]) [(g vs1 0)]) (fun x32 w =>
       (StAll pg [((some (.fa 30 x6 1)), x29), ((some (.load 27 x29)), x30)] w ∧
       D pg (.mkSl 27 1 [(0, x32)]) (fun x33 w =>
       (StAll pg [((some (.fa 30 x6 1)), x29), ((some (.load 27 x29)), x30)] w ∧
       D pg (.bi .append #[27, 27] 27 [x30, x33]) (fun x34 w =>
       Fl pg (.fa 30 x6 1) w fun x35 =>
       D pg (.store 27 x35 x34) (fun _ w =>
       Dr w fun w =>
       Fl pg (.fa 33 x7 1) w fun x36 =>
       Fl pg (.load 31 x36) w fun x37 =>
       D pg (.call (.func (.func 33) #[] #[]) [(g vs1 0)]) (fun x39 w =>
       (StAll pg [((some (.fa 33 x7 1)), x36), ((some (.load 31 x36)), x37)] w ∧
       D pg (.mkSl 31 1 [(0, x39)]) (fun x40 w =>
       (StAll pg [((some (.fa 33 x7 1)), x36), ((some (.load 31 x36)), x37)] w ∧
       D pg (.bi .append #[31, 31] 31 [x37, x40]) (fun x41 w =>
       Fl pg (.fa 33 x7 1) w fun x42 =>
       D pg (.store 31 x42 x41) (fun _ w =>
       D pg (.fa 30 x6 2) (fun x43 w =>
       D pg (.load 28 x43) (fun x44 w =>
       D pg (.fa 25 x2 2) (fun x45 w =>
       D pg (.load 3 x45) (fun x46 w =>
       D pg (.mkSl 28 1 [(0, x46)]) (fun x47 w =>
       D pg (.bi .append #[28, 28] 28 [x44, x47]) (fun x48 w =>
       D pg (.fa 30 x6 2) (fun x49 w =>
       D pg (.store 28 x49 x48) (fun _ w =>
       D pg (.fa 33 x7 2) (fun x50 w =>
       D pg (.load 28 x50) (fun x51 w =>
       D pg (.fa 25 x2 2) (fun x52 w =>
       D pg (.load 3 x52) (fun x53 w =>
       D pg (.mkSl 28 1 [(0, x53)]) (fun x54 w =>
       D pg (.bi .append #[28, 28] 28 [x51, x54]) (fun x55 w =>
       D pg (.fa 33 x7 2) (fun x56 w =>
       D pg (.store 28 x56 x55) (fun _ w =>
       D pg (.bin .add 3 (g vs3 0) (.int .i64 1)) (fun x28 w =>
       k4 [x28] w) w) w) w) w) w) w) w) w) w) w) w) w) w) w) w) w) w) w) w)) w)) w) w) w)) w)) w) (
       Dr w fun w =>
       Fl pg (.load 30 x6) w fun x57 =>
       Fl pg (.load 33 x7) w fun x58 =>
       D pg (.store 30 x4 x57) (fun _ w =>
       (StAll pg [((some (.load 33 x7)), x58)] w ∧
       D pg (.store 33 x5 x58) (fun _ w =>
       Fl pg (.load 30 x4) w fun r5 =>
       Fl pg (.load 33 x5) w fun r6 =>
       R (.tuple #[r5, r6]) w) w)) w)) w) w) w)) (fun k2 =>
    Cnd a1 (
     D pg (.bin .sub 3 x19 (.int .i64 1)) (fun x22 w =>
     k2 [x22] w) w) (
     k2 [x19] w))) w) w) w) w) w) w) w) w) w) w) w) w) w) w) w) w) w

theorem c9_eq {a0 a1 : Value} {R : KV} {w : World} : c9 a0 a1 R w = semF pg Tryz.f9 (bodyOf Tryz.f9) [a0, a1] R w := by kernel_rfl
instance : Bd pg 30 [(0, 3), (3, 1), (4, 1)] [(.int .i64 0), (.int .i64 0), (.int .i64 0), (.slice none 0 0), (.slice none 0 0)] := bd_of (v := (.agg #[(.int .i64 0), (.int .i64 0), (.int .i64 0), (.slice none 0 0), (.slice none 0 0)])) 0 0 (by kernel_rfl) (by kernel_rfl) rfl
instance : Bd pg 33 [(0, 3), (3, 1), (4, 1)] [(.int .i64 0), (.int .i64 0), (.int .i64 0), (.slice none 0 0), (.slice none 0 0)] := bd_of (v := (.agg #[(.int .i64 0), (.int .i64 0), (.int .i64 0), (.slice none 0 0), (.slice none 0 0)])) 0 0 (by kernel_rfl) (by kernel_rfl) rfl
instance : Sc pg 31 := sc_of (by kernel_rfl)
instance : Sl pg 31 67 1 8 (.pointer none) := sl_of (by kernel_rfl) (by kernel_rfl) (by kernel_rfl) (by kernel_rfl) (by kernel_rfl)
instance : Sz1 pg 31 1 := sz1_of (by kernel_rfl)
instance : Sc pg 28 := sc_of (by kernel_rfl)
instance : Sl pg 28 3 1 8 (.int .i64 0) := sl_of (by kernel_rfl) (by kernel_rfl) (by kernel_rfl) (by kernel_rfl) (by kernel_rfl)
instance : Sz1 pg 28 1 := sz1_of (by kernel_rfl)
instance : Ag pg 33 5 := ag_of (by kernel_rfl) (by kernel_rfl)
instance : Fa pg 33 1 3 := fa_of (by kernel_rfl)
instance : Fa pg 30 2 4 := fa_of (by kernel_rfl)
instance : Fa pg 33 2 4 := fa_of (by kernel_rfl)
instance : Fo pg 32 := fo_of (by kernel_rfl)
instance : Fo pg 33 := fo_of (by kernel_rfl)
theorem l9 {a0 a1 : Value} {R : KV} {w : World} (h : c9 a0 a1 R w) : Calls pg 9 #[a0, a1] w (Ret R) :=
  calls_of_semF mixed Tryz.func9 (by kernel_rfl) (by kernel_rfl) (by rw [Tryz.ntmps9]; rfl) (c9_eq ▸ h)

/-- drive.New -/
def c32 (a0 : Value) (R : KV) (w : World) : Prop :=
  D pg (.bin .lss 3 a0 (.int .i64 1)) (fun x4 w =>
  GM x4 false a0 fun x6 =>
  GD pg x4 false (.bin .gtr 3 x6 (.int .i64 4096)) (fun x7 w =>
  D pg (.pick x4 (.bool true) x7) (fun x8 w =>
  Cnd x8 (
   R (.pointer none) w) (
   D pg (.make 80 a0 a0) (fun x10 w =>
   D pg (.mkMap 81 none) (fun x11 w =>
   D pg (.mkMap 82 none) (fun x12 w =>
   D pg (.build 84 [(0, x10), (1, x11), (2, x12)]) (fun x13 w =>
   D pg (.box 84 x13) (fun x14 w =>
   R x14 w) w) w) w) w) w)) w) w) w

theorem c32_eq {a0 : Value} {R : KV} {w : World} : c32 a0 R w = semF pg Tryz.f32 (bodyOf Tryz.f32) [a0] R w := by kernel_rfl
instance : Sl pg 80 116 64 64 (.agg #[(.int .u8 0), (.int .u8 0), (.int .u8 0), (.int .u8 0), (.int .u8 0), (.int .u8 0), (.int .u8 0), (.int .u8 0), (.int .u8 0), (.int .u8 0), (.int .u8 0), (.int .u8 0), (.int .u8 0), (.int .u8 0), (.int .u8 0), (.int .u8 0), (.int .u8 0), (.int .u8 0), (.int .u8 0), (.int .u8 0), (.int .u8 0), (.int .u8 0), (.int .u8 0), (.int .u8 0), (.int .u8 0), (.int .u8 0), (.int .u8 0), (.int .u8 0), (.int .u8 0), (.int .u8 0), (.int .u8 0), (.int .u8 0), (.int .u8 0), (.int .u8 0), (.int .u8 0), (.int .u8 0), (.int .u8 0), (.int .u8 0), (.int .u8 0), (.int .u8 0), (.int .u8 0), (.int .u8 0), (.int .u8 0), (.int .u8 0), (.int .u8 0), (.int .u8 0), (.int .u8 0), (.int .u8 0), (.int .u8 0), (.int .u8 0), (.int .u8 0), (.int .u8 0), (.int .u8 0), (.int .u8 0), (.int .u8 0), (.int .u8 0), (.int .u8 0), (.int .u8 0), (.int .u8 0), (.int .u8 0), (.int .u8 0), (.int .u8 0), (.int .u8 0), (.int .u8 0)]) := sl_of (by kernel_rfl) (by kernel_rfl) (by kernel_rfl) (by kernel_rfl) (by kernel_rfl)
instance : Bd pg 84 [(0, 1), (1, 1), (2, 1), (3, 1), (4, 1), (5, 1)] [(.slice none 0 0), (.map none), (.map none), (.bool false), (.int .i64 0), (.bool false)] := bd_of (v := (.agg #[(.slice none 0 0), (.map none), (.map none), (.bool false), (.int .i64 0), (.bool false)])) 0 0 (by kernel_rfl) (by kernel_rfl) rfl
theorem l32 {a0 : Value} {R : KV} {w : World} (h : c32 a0 R w) : Calls pg 32 #[a0] w (Ret R) :=
  calls_of_semF mixed Tryz.func32 (by kernel_rfl) (by kernel_rfl) (by rw [Tryz.ntmps32]; rfl) (c32_eq ▸ h)

/-- revetmentref04.New -/
def c33 (a0 : Value) (R : KV) (w : World) : Prop :=
  D pg (.bin .lss 3 a0 (.int .i64 1)) (fun x7 w =>
  GM x7 false a0 fun x9 =>
  GD pg x7 false (.bin .gtr 3 x9 (.int .i64 4096)) (fun x10 w =>
  D pg (.pick x7 (.bool true) x10) (fun x11 w =>
  Cnd x11 (
   R (.pointer none) w) (
   D pg (.build 104 []) (fun x12 w =>
   D pg (.box 104 x12) (fun x13 w =>
   D pg (.call (.func (.func 34) #[] #[]) []) (fun x14 w =>
   Lp [(.int .i64 0)] w (fun k2 vs1 w =>
     D pg (.bin .lss 3 (g vs1 0) a0) (fun x17 w =>
     Cnd x17 (
      D pg (.nilck x13) (fun x22 w =>
      D pg (.fa 104 x22 0) (fun x23 w =>
      D pg (.load 22 x23) (fun x24 w =>
      D pg (.mkSl 22 1 [(0, x14)]) (fun x26 w =>
      D pg (.bi .append #[22, 22] 22 [x24, x26]) (fun x27 w =>
      D pg (.nilck x13) (fun x28 w =>
      D pg (.fa 104 x28 0) (fun x29 w =>
      D pg (.store 22 x29 x27) (fun _ w =>
      D pg (.nilck x13) (fun x32 w =>
      D pg (.fa 104 x32 1) (fun x33 w =>
      D pg (.load 101 x33) (fun x34 w =>
      D pg (.mkSl 101 1 [(0, (.slice none 0 0))]) (fun x35 w =>
      D pg (.bi .append #[101, 101] 101 [x34, x35]) (fun x36 w =>
      D pg (.nilck x13) (fun x37 w =>
      D pg (.fa 104 x37 1) (fun x38 w =>
      D pg (.store 101 x38 x36) (fun _ w =>
      D pg (.nilck x13) (fun x41 w =>
      D pg (.fa 104 x41 2) (fun x42 w =>
      D pg (.load 102 x42) (fun x43 w =>
      D pg (.mkSl 102 1 [(0, (.bool false))]) (fun x44 w =>
      D pg (.bi .append #[102, 102] 102 [x43, x44]) (fun x45 w =>
      D pg (.nilck x13) (fun x46 w =>
      D pg (.fa 104 x46 2) (fun x47 w =>
      D pg (.store 102 x47 x45) (fun _ w =>
      D pg (.bin .add 3 (g vs1 0) (.int .i64 1)) (fun x19 w =>
      k2 [x19] w) w) w) w) w) w) w) w) w) w) w) w) w) w) w) w) w) w) w) w) w) w) w) w) w) w) (
      R x13 w)) w)) w) w) w)) w) w) w

theorem c33_eq {a0 : Value} {R : KV} {w : World} : c33 a0 R w = semF pg Tryz.f33 (bodyOf Tryz.f33) [a0] R w := by kernel_rfl
instance : Bd pg 104 [(0, 1), (1, 1), (2, 1), (3, 1), (4, 1), (5, 1)] [(.slice none 0 0), (.slice none 0 0), (.slice none 0 0), (.bool false), (.bool false), (.int .i64 0)] := bd_of (v := (.agg #[(.slice none 0 0), (.slice none 0 0), (.slice none 0 0), (.bool false), (.bool false), (.int .i64 0)])) 0 0 (by kernel_rfl) (by kernel_rfl) rfl
instance : Sc pg 22 := sc_of (by kernel_rfl)
instance : Sl pg 22 9 1 16 (.string ⟨#[]⟩) := sl_of (by kernel_rfl) (by kernel_rfl) (by kernel_rfl) (by kernel_rfl) (by kernel_rfl)
instance : Sz1 pg 22 1 := sz1_of (by kernel_rfl)
instance : Sc pg 101 := sc_of (by kernel_rfl)
instance : Sl pg 101 22 1 24 (.slice none 0 0) := sl_of (by kernel_rfl) (by kernel_rfl) (by kernel_rfl) (by kernel_rfl) (by kernel_rfl)
instance : Sz1 pg 101 1 := sz1_of (by kernel_rfl)
instance : Sc pg 102 := sc_of (by kernel_rfl)
instance : Sl pg 102 4 1 1 (.bool false) := sl_of (by kernel_rfl) (by kernel_rfl) (by kernel_rfl) (by kernel_rfl) (by kernel_rfl)
instance : Sz1 pg 102 1 := sz1_of (by kernel_rfl)
instance : Fa pg 104 0 0 := fa_of (by kernel_rfl)
instance : Fa pg 104 1 1 := fa_of (by kernel_rfl)
instance : Fa pg 104 2 2 := fa_of (by kernel_rfl)
instance : Fo pg 34 := fo_of (by kernel_rfl)
theorem l33 {a0 : Value} {R : KV} {w : World} (h : c33 a0 R w) : Calls pg 33 #[a0] w (Ret R) :=
  calls_of_semF mixed Tryz.func33 (by kernel_rfl) (by kernel_rfl) (by rw [Tryz.ntmps33]; rfl) (c33_eq ▸ h)

/-- revetmentref04.Blank -/
def c34 (R : KV) (w : World) : Prop :=
  Lp [(.int .i64 0), (.string ⟨#[]⟩)] w (fun k2 vs1 w =>
    D pg (.bin .lss 3 (g vs1 0) (.int .i64 64)) (fun x4 w =>
    Cnd x4 (
     D pg (.bin .add 9 (g vs1 1) (.string ⟨#[0]⟩)) (fun x8 w =>
     D pg (.bin .add 3 (g vs1 0) (.int .i64 1)) (fun x6 w =>
     k2 [x6, x8] w) w) w) (
     R (g vs1 1) w)) w)

theorem c34_eq {R : KV} {w : World} : c34  R w = semF pg Tryz.f34 (bodyOf Tryz.f34) [] R w := by kernel_rfl
theorem l34 {R : KV} {w : World} (h : c34  R w) : Calls pg 34 #[] w (Ret R) :=
  calls_of_semF mixed Tryz.func34 (by kernel_rfl) (by kernel_rfl) (by rw [Tryz.ntmps34]; rfl) (c34_eq ▸ h)

/-- revetmentlaw16.full -/
def c10 (a0 : Value) (R : KV) (w : World) : Prop :=
  D pg (.call (.func (.func 34) #[] #[]) []) (fun x4 w =>
  D pg (.bin .add 9 a0 x4) (fun x5 w =>
  D pg (.slice 9 x5 none (some (.int .i64 64)) none) (fun x6 w =>
  R x6 w) w) w) w

theorem c10_eq {a0 : Value} {R : KV} {w : World} : c10 a0 R w = semF pg Tryz.f10 (bodyOf Tryz.f10) [a0] R w := by kernel_rfl
instance : Str pg 9 := str_of_ty (by kernel_rfl)
theorem l10 {a0 : Value} {R : KV} {w : World} (h : c10 a0 R w) : Calls pg 10 #[a0] w (Ret R) :=
  calls_of_semF mixed Tryz.func10 (by kernel_rfl) (by kernel_rfl) (by rw [Tryz.ntmps10]; rfl) (c10_eq ▸ h)

/-- row.Write -/
def c13 (a0 : Value) (a1 : Value) (a2 : Value) (a3 : Value) (a4 : Value) (R : KV) (w : World) : Prop :=
  D pg (.box 30 a0) (fun x5 w =>
  D pg (.load 30 x5) (fun x15 w =>
  D pg (.call (.func (.func 38) #[] #[]) [x15, a1, a2]) (fun x18 w =>
  D pg (.ext x18 0) (fun x19 w =>
  D pg (.ext x18 1) (fun x20 w =>
  D pg (.alloc 74) (fun x11 w =>
  D pg (.store 74 x11 x19) (fun _ w =>
  D pg (.bin .neq 38 x20 (.int .i64 0)) (fun x23 w =>
  Cnd x23 (
   R x20 w) (
   D pg (.bin .lss 3 a3 (.int .i64 0)) (fun x27 w =>
   GM x27 false a3 fun x29 =>
   GD pg x27 false (.fa 30 x5 0) (fun x30 w =>
   GD pg x27 false (.fa 25 x30 0) (fun x31 w =>
   GD pg x27 false (.load 3 x31) (fun x32 w =>
   GD pg x27 false (.bin .geq 3 x29 x32) (fun x33 w =>
   D pg (.pick x27 (.bool true) x33) (fun x34 w =>
   Cnd x34 (
    R (.int .i64 70) w) (
    Dr w fun w =>
    Fl pg (.fa 74 x11 0) w fun x35 =>
    Fl pg (.load 30 x35) w fun x36 =>
    Fl pg (.load 74 x11) w fun x37 =>
    D pg (.call (.func (.func 40) #[] #[]) [x37, a3]) (fun x39 w =>
    (StAll pg [((some (.fa 74 x11 0)), x35), ((some (.load 30 x35)), x36)] w ∧
    D pg (.call (.func (.func 39) #[] #[]) [x36, x39]) (fun x40 w =>
    D pg (.bin .eql 40 x40 (.pointer none)) (fun x42 w =>
    Cnd x42 (
     R (.int .i64 40) w) (
     D pg (.fa 30 x5 0) (fun x44 w =>
     D pg (.load 25 x44) (fun x45 w =>
     D pg (.call (.func (.func 42) #[] #[]) [x45, a1, a2]) (fun x48 w =>
     D pg (.call (.func (.func 41) #[] #[]) [x40, x48, a4]) (fun x50 w =>
     R x50 w) w) w) w) w)) w) w)) w)) w) w) w) w) w) w)) w) w) w) w) w) w) w) w

theorem c13_eq {a0 a1 a2 a3 a4 : Value} {R : KV} {w : World} : c13 a0 a1 a2 a3 a4 R w = semF pg Tryz.f13 (bodyOf Tryz.f13) [a0, a1, a2, a3, a4] R w := by kernel_rfl
instance : ZrL pg 74 [(.int .i64 0), (.int .i64 0), (.int .i64 0), (.slice none 0 0), (.slice none 0 0), (.int .i64 0), (.int .i64 0)] := zrl_of (v := (.agg #[(.int .i64 0), (.int .i64 0), (.int .i64 0), (.slice none 0 0), (.slice none 0 0), (.int .i64 0), (.int .i64 0)])) (by kernel_rfl) rfl
instance : Sz1 pg 74 7 := sz1_of (by kernel_rfl)
instance : Ag pg 74 7 := ag_of (by kernel_rfl) (by kernel_rfl)
instance : Fa pg 30 0 0 := fa_of (by kernel_rfl)
instance : Fa pg 74 0 0 := fa_of (by kernel_rfl)
instance : Fo pg 38 := fo_of (by kernel_rfl)
instance : Fo pg 40 := fo_of (by kernel_rfl)
instance : Fo pg 39 := fo_of (by kernel_rfl)
instance : Fo pg 42 := fo_of (by kernel_rfl)
instance : Fo pg 41 := fo_of (by kernel_rfl)
theorem l13 {a0 a1 a2 a3 a4 : Value} {R : KV} {w : World} (h : c13 a0 a1 a2 a3 a4 R w) : Calls pg 13 #[a0, a1, a2, a3, a4] w (Ret R) :=
  calls_of_semF mixed Tryz.func13 (by kernel_rfl) (by kernel_rfl) (by rw [Tryz.ntmps13]; rfl) (c13_eq ▸ h)

/-- row.Set).at -/
def c38 (a0 : Value) (a1 : Value) (a2 : Value) (R : KV) (w : World) : Prop :=
  D pg (.box 30 a0) (fun x3 w =>
  D pg (.alloc 74) (fun x6 w =>
  D pg (.load 30 x3) (fun x9 w =>
  D pg (.build 74 [(0, x9), (1, a1), (2, a2)]) (fun x12 w =>
  D pg (.alloc 74) (fun x8 w =>
  D pg (.store 74 x8 x12) (fun _ w =>
  D pg (.load 30 x3) (fun x14 w =>
  D pg (.call (.func (.func 21) #[] #[]) [x14]) (fun x15 w =>
  D pg (.un .not x15) (fun x16 w =>
  Cnd x16 (
   D pg (.load 74 x8) (fun x17 w =>
   D pg (.store 74 x6 x17) (fun _ w =>
   Fl pg (.load 74 x6) w fun r1 =>
   R (.tuple #[r1, (.int .i64 1)]) w) w) w) (
   D pg (.bin .lss 3 a1 (.int .i64 0)) (fun x20 w =>
   GM x20 false a1 fun x22 =>
   GD pg x20 false (.fa 30 x3 0) (fun x23 w =>
   GD pg x20 false (.fa 25 x23 2) (fun x24 w =>
   GD pg x20 false (.load 3 x24) (fun x25 w =>
   GD pg x20 false (.bin .geq 3 x22 x25) (fun x26 w =>
   D pg (.pick x20 (.bool true) x26) (fun x27 w =>
   GM x27 false a2 fun x29 =>
   GD pg x27 false (.bin .lss 3 x29 (.int .i64 0)) (fun x30 w =>
   D pg (.pick x27 (.bool true) x30) (fun x31 w =>
   GM x31 false a2 fun x33 =>
   GD pg x31 false (.fa 30 x3 0) (fun x34 w =>
   GD pg x31 false (.fa 25 x34 1) (fun x35 w =>
   GD pg x31 false (.load 3 x35) (fun x36 w =>
   GD pg x31 false (.bin .geq 3 x33 x36) (fun x37 w =>
   D pg (.pick x31 (.bool true) x37) (fun x38 w =>
   Cnd x38 (
    D pg (.load 74 x8) (fun x39 w =>
    D pg (.store 74 x6 x39) (fun _ w =>
    Fl pg (.load 74 x6) w fun r2 =>
    R (.tuple #[r2, (.int .i64 70)]) w) w) w) (
    D pg (.load 74 x8) (fun x40 w =>
    D pg (.store 74 x6 x40) (fun _ w =>
    Fl pg (.load 74 x6) w fun r3 =>
    R (.tuple #[r3, (.int .i64 0)]) w) w) w)) w) w) w) w) w) w) w) w) w) w) w) w) w)) w) w) w) w) w) w) w) w) w

theorem c38_eq {a0 a1 a2 : Value} {R : KV} {w : World} : c38 a0 a1 a2 R w = semF pg Tryz.f38 (bodyOf Tryz.f38) [a0, a1, a2] R w := by kernel_rfl
instance : Bd pg 74 [(0, 5), (5, 1), (6, 1)] [(.int .i64 0), (.int .i64 0), (.int .i64 0), (.slice none 0 0), (.slice none 0 0), (.int .i64 0), (.int .i64 0)] := bd_of (v := (.agg #[(.int .i64 0), (.int .i64 0), (.int .i64 0), (.slice none 0 0), (.slice none 0 0), (.int .i64 0), (.int .i64 0)])) 0 0 (by kernel_rfl) (by kernel_rfl) rfl
theorem l38 {a0 a1 a2 : Value} {R : KV} {w : World} (h : c38 a0 a1 a2 R w) : Calls pg 38 #[a0, a1, a2] w (Ret R) :=
  calls_of_semF mixed Tryz.func38 (by kernel_rfl) (by kernel_rfl) (by rw [Tryz.ntmps38]; rfl) (c38_eq ▸ h)

/-- row.May -/
def c21 (a0 : Value) (R : KV) (w : World) : Prop :=
  D pg (.box 30 a0) (fun x1 w =>
  D pg (.mkFn (Go.Fn.func 50) [] [x1]) (fun x4 w =>
  D pg (.fa 30 x1 0) (fun x5 w =>
  D pg (.load 25 x5) (fun x6 w =>
  D pg (.call (.func (.func 53) #[] #[]) [x6]) (fun x7 w =>
  D pg (.bin .eql 38 x7 (.int .i64 0)) (fun x8 w =>
  GD pg x8 true (.fa 30 x1 1) (fun x10 w =>
  GD pg x8 true (.load 27 x10) (fun x11 w =>
  GD pg x8 true (.bi .len #[27] 3 [x11]) (fun x12 w =>
  GD pg x8 true (.fa 30 x1 0) (fun x13 w =>
  GD pg x8 true (.fa 25 x13 0) (fun x14 w =>
  GD pg x8 true (.load 3 x14) (fun x15 w =>
  GD pg x8 true (.bin .eql 3 x12 x15) (fun x16 w =>
  D pg (.pick x8 x16 (.bool false)) (fun x17 w =>
  GD pg x17 true (.fa 30 x1 2) (fun x19 w =>
  GD pg x17 true (.load 28 x19) (fun x20 w =>
  GD pg x17 true (.bi .len #[28] 3 [x20]) (fun x21 w =>
  GD pg x17 true (.fa 30 x1 0) (fun x22 w =>
  GD pg x17 true (.fa 25 x22 0) (fun x23 w =>
  GD pg x17 true (.load 3 x23) (fun x24 w =>
  GD pg x17 true (.bin .eql 3 x21 x24) (fun x25 w =>
  D pg (.pick x17 x25 (.bool false)) (fun x26 w =>
  GD pg x26 true (.fa 30 x1 1) (fun x28 w =>
  GD pg x26 true (.load 27 x28) (fun x29 w =>
  GM x26 true x4 fun x30 =>
  GD pg x26 true (.call (.func (.func 54) #[] #[]) [x29, x30]) (fun x31 w =>
  GD pg x26 true (.un .not x31) (fun x32 w =>
  D pg (.pick x26 x32 (.bool false)) (fun x33 w =>
  R x33 w) w) w) w) w) w) w) w) w) w) w) w) w) w) w) w) w) w) w) w) w) w) w) w) w) w) w) w

theorem c21_eq {a0 : Value} {R : KV} {w : World} : c21 a0 R w = semF pg Tryz.f21 (bodyOf Tryz.f21) [a0] R w := by kernel_rfl
instance : Fo pg 50 := fo_of (by kernel_rfl)
instance : Fo pg 53 := fo_of (by kernel_rfl)
instance : Fo pg 54 := fo_of (by kernel_rfl)
theorem l21 {a0 : Value} {R : KV} {w : World} (h : c21 a0 R w) : Calls pg 21 #[a0] w (Ret R) :=
  calls_of_semF mixed Tryz.func21 (by kernel_rfl) (by kernel_rfl) (by rw [Tryz.ntmps21]; rfl) (c21_eq ▸ h)

/-- row.May$1 -/
def c50 (a0 : Value) (a1 : Value) (R : KV) (w : World) : Prop :=
  Dr w fun w =>
  Fl pg (.bin .neq 40 a0 (.pointer none)) w fun x5 =>
  GM x5 true a0 fun x7 =>
  GF pg x5 true (.fa 30 a1 0) w fun q1 x9 =>
  GF pg x5 true (.load 25 x9) w fun q2 x10 =>
  GD pg x5 true (.call (.func (.func 51) #[] #[]) [x7]) (fun x8 w =>
  AndS pg (consO (pureQ q1) q1 x9 (consO (pureQ q2) q2 x10 [])) w (
  GD pg x5 true (.call (.func (.func 52) #[] #[]) [x10]) (fun x11 w =>
  GF pg x5 true (.bin .lss 3 x8 x11) w fun q3 x12 =>
  Fl pg (.pick x5 x12 (.bool false)) w fun x13 =>
  R x13 w) w)) w

theorem c50_eq {a0 a1 : Value} {R : KV} {w : World} : c50 a0 a1 R w = semF pg Tryz.f50 (bodyOf Tryz.f50) [a0, a1] R w := by kernel_rfl
instance : Fo pg 51 := fo_of (by kernel_rfl)
instance : Fo pg 52 := fo_of (by kernel_rfl)
theorem l50 {a0 a1 : Value} {R : KV} {w : World} (h : c50 a0 a1 R w) : Calls pg 50 #[a0, a1] w (Ret R) :=
  calls_of_semF mixed Tryz.func50 (by kernel_rfl) (by kernel_rfl) (by rw [Tryz.ntmps50]; rfl) (c50_eq ▸ h)

/-- drive.Drive).Sectors -/
def c51 (a0 : Value) (R : KV) (w : World) : Prop :=
  D pg (.nilck a0) (fun x4 w =>
  D pg (.fa 84 x4 0) (fun x5 w =>
  D pg (.load 80 x5) (fun x6 w =>
  D pg (.bi .len #[80] 3 [x6]) (fun x7 w =>
  R x7 w) w) w) w) w

theorem c51_eq {a0 : Value} {R : KV} {w : World} : c51 a0 R w = semF pg Tryz.f51 (bodyOf Tryz.f51) [a0] R w := by kernel_rfl
instance : Sc pg 80 := sc_of (by kernel_rfl)
instance : Fa pg 84 0 0 := fa_of (by kernel_rfl)
theorem l51 {a0 : Value} {R : KV} {w : World} (h : c51 a0 R w) : Calls pg 51 #[a0] w (Ret R) :=
  calls_of_semF mixed Tryz.func51 (by kernel_rfl) (by kernel_rfl) (by rw [Tryz.ntmps51]; rfl) (c51_eq ▸ h)

/-- layout.Need -/
def c52 (a0 : Value) (R : KV) (w : World) : Prop :=
  D pg (.box 25 a0) (fun x1 w =>
  D pg (.load 25 x1) (fun x4 w =>
  D pg (.build 119 [(0, x4)]) (fun x5 w =>
  D pg (.alloc 119) (fun x3 w =>
  D pg (.store 119 x3 x5) (fun _ w =>
  D pg (.load 119 x3) (fun x6 w =>
  D pg (.call (.func (.func 96) #[] #[]) [x6]) (fun x7 w =>
  Cnd x7 (
   D pg (.fa 119 x3 0) (fun x8 w =>
   D pg (.fa 25 x8 2) (fun x9 w =>
   D pg (.load 3 x9) (fun x10 w =>
   D pg (.fa 119 x3 0) (fun x11 w =>
   D pg (.fa 25 x11 1) (fun x12 w =>
   D pg (.load 3 x12) (fun x13 w =>
   D pg (.bin .mul 3 x10 x13) (fun x14 w =>
   D pg (.bin .add 3 (.int .i64 4) x14) (fun x15 w =>
   R x15 w) w) w) w) w) w) w) w) w) (
   R (.int .i64 0) w)) w) w) w) w) w) w) w

theorem c52_eq {a0 : Value} {R : KV} {w : World} : c52 a0 R w = semF pg Tryz.f52 (bodyOf Tryz.f52) [a0] R w := by kernel_rfl
instance : Bd pg 119 [(0, 3)] [(.int .i64 0), (.int .i64 0), (.int .i64 0)] := bd_of (v := (.agg #[(.int .i64 0), (.int .i64 0), (.int .i64 0)])) 0 0 (by kernel_rfl) (by kernel_rfl) rfl
instance : ZrL pg 119 [(.int .i64 0), (.int .i64 0), (.int .i64 0)] := zrl_of (v := (.agg #[(.int .i64 0), (.int .i64 0), (.int .i64 0)])) (by kernel_rfl) rfl
instance : Sz1 pg 119 3 := sz1_of (by kernel_rfl)
instance : Ag pg 119 3 := ag_of (by kernel_rfl) (by kernel_rfl)
instance : Fa pg 119 0 0 := fa_of (by kernel_rfl)
instance : Fo pg 96 := fo_of (by kernel_rfl)
theorem l52 {a0 : Value} {R : KV} {w : World} (h : c52 a0 R w) : Calls pg 52 #[a0] w (Ret R) :=
  calls_of_semF mixed Tryz.func52 (by kernel_rfl) (by kernel_rfl) (by rw [Tryz.ntmps52]; rfl) (c52_eq ▸ h)

/-- layout.plan).good -/
def c96 (a0 : Value) (R : KV) (w : World) : Prop :=
  D pg (.box 119 a0) (fun x1 w =>
  D pg (.fa 119 x1 0) (fun x3 w =>
  D pg (.load 25 x3) (fun x4 w =>
  D pg (.call (.func (.func 53) #[] #[]) [x4]) (fun x5 w =>
  D pg (.bin .eql 38 x5 (.int .i64 0)) (fun x6 w =>
  R x6 w) w) w) w) w) w

theorem c96_eq {a0 : Value} {R : KV} {w : World} : c96 a0 R w = semF pg Tryz.f96 (bodyOf Tryz.f96) [a0] R w := by kernel_rfl
theorem l96 {a0 : Value} {R : KV} {w : World} (h : c96 a0 R w) : Calls pg 96 #[a0] w (Ret R) :=
  calls_of_semF mixed Tryz.func96 (by kernel_rfl) (by kernel_rfl) (by rw [Tryz.ntmps96]; rfl) (c96_eq ▸ h)

/-- layout.Check -/
def c53 (a0 : Value) (R : KV) (w : World) : Prop :=
  D pg (.box 25 a0) (fun x1 w =>
  D pg (.fa 25 x1 0) (fun x5 w =>
  D pg (.load 3 x5) (fun x6 w =>
  D pg (.build 136 [(0, (.int .i64 4)), (1, x6), (2, (.int .i64 10))]) (fun x7 w =>
  D pg (.fa 25 x1 1) (fun x8 w =>
  D pg (.load 3 x8) (fun x9 w =>
  D pg (.build 136 [(0, (.int .i64 1)), (1, x9), (2, (.int .i64 4))]) (fun x10 w =>
  D pg (.fa 25 x1 2) (fun x11 w =>
  D pg (.load 3 x11) (fun x12 w =>
  D pg (.build 136 [(0, (.int .i64 1)), (1, x12), (2, (.int .i64 256))]) (fun x13 w =>
  D pg (.build 137 [(0, x7), (1, x10), (2, x13)]) (fun x14 w =>
  Lp [(.int .i64 0), (.int .i64 0)] w (fun k2 vs1 w =>
    D pg (.bin .lss 3 (g vs1 0) (.int .i64 3)) (fun x16 w =>
    Cnd x16 (
     D pg (.idx 137 x14 (g vs1 0)) (fun x17 w =>
     D pg (.alloc 136) (fun x4 w =>
     D pg (.store 136 x4 x17) (fun _ w =>
     D pg (.ia 136 x4 (.int .i64 1)) (fun x18 w =>
     D pg (.load 3 x18) (fun x19 w =>
     D pg (.ia 136 x4 (.int .i64 0)) (fun x20 w =>
     D pg (.load 3 x20) (fun x21 w =>
     D pg (.bin .lss 3 x19 x21) (fun x22 w =>
     GD pg x22 false (.ia 136 x4 (.int .i64 1)) (fun x24 w =>
     GD pg x22 false (.load 3 x24) (fun x25 w =>
     GD pg x22 false (.ia 136 x4 (.int .i64 2)) (fun x26 w =>
     GD pg x22 false (.load 3 x26) (fun x27 w =>
     GD pg x22 false (.bin .gtr 3 x25 x27) (fun x28 w =>
     D pg (.pick x22 (.bool true) x28) (fun x29 w =>
     Cnd x29 (
      R (.int .i64 1) w) (
      D pg (.bin .add 3 (g vs1 0) (.int .i64 1)) (fun x30 w =>
      k2 [x30, (g vs1 1)] w) w)) w) w) w) w) w) w) w) w) w) w) w) w) w) w) (
     R (.int .i64 0) w)) w)) w) w) w) w) w) w) w) w) w) w) w

theorem c53_eq {a0 : Value} {R : KV} {w : World} : c53 a0 R w = semF pg Tryz.f53 (bodyOf Tryz.f53) [a0] R w := by kernel_rfl
instance : Bd pg 136 [(0, 1), (1, 1), (2, 1)] [(.int .i64 0), (.int .i64 0), (.int .i64 0)] := bd_of (v := (.agg #[(.int .i64 0), (.int .i64 0), (.int .i64 0)])) 3 3 (by kernel_rfl) (by kernel_rfl) rfl
instance : Bd pg 137 [(0, 3), (3, 3), (6, 3)] [(.int .i64 0), (.int .i64 0), (.int .i64 0), (.int .i64 0), (.int .i64 0), (.int .i64 0), (.int .i64 0), (.int .i64 0), (.int .i64 0)] := bd_of (v := (.agg #[(.int .i64 0), (.int .i64 0), (.int .i64 0), (.int .i64 0), (.int .i64 0), (.int .i64 0), (.int .i64 0), (.int .i64 0), (.int .i64 0)])) 3 136 (by kernel_rfl) (by kernel_rfl) rfl
instance : Ar pg 137 3 136 3 := ar_of (by kernel_rfl) (by kernel_rfl)
instance : Ag pg 136 3 := ag_of (by kernel_rfl) (by kernel_rfl)
instance : ZrL pg 136 [(.int .i64 0), (.int .i64 0), (.int .i64 0)] := zrl_of (v := (.agg #[(.int .i64 0), (.int .i64 0), (.int .i64 0)])) (by kernel_rfl) rfl
instance : Sz1 pg 136 3 := sz1_of (by kernel_rfl)
instance : Ar pg 136 3 3 1 := ar_of (by kernel_rfl) (by kernel_rfl)
theorem l53 {a0 : Value} {R : KV} {w : World} (h : c53 a0 R w) : Calls pg 53 #[a0] w (Ret R) :=
  calls_of_semF mixed Tryz.func53 (by kernel_rfl) (by kernel_rfl) (by rw [Tryz.ntmps53]; rfl) (c53_eq ▸ h)

/-- drive.Drive] -/
def c54 (a0 : Value) (a1 : Value) (R : KV) (w : World) : Prop :=
  D pg (.call (.func (.func 97) #[] #[]) [a0, a1]) (fun x7 w =>
  D pg (.bin .geq 3 x7 (.int .i64 0)) (fun x8 w =>
  R x8 w) w) w

theorem c54_eq {a0 a1 : Value} {R : KV} {w : World} : c54 a0 a1 R w = semF pg Tryz.f54 (bodyOf Tryz.f54) [a0, a1] R w := by kernel_rfl
instance : Fo pg 97 := fo_of (by kernel_rfl)
theorem l54 {a0 a1 : Value} {R : KV} {w : World} (h : c54 a0 a1 R w) : Calls pg 54 #[a0, a1] w (Ret R) :=
  calls_of_semF mixed Tryz.func54 (by kernel_rfl) (by kernel_rfl) (by rw [Tryz.ntmps54]; rfl) (c54_eq ▸ h)

/-- drive.Drive] -/
def c97 (a0 : Value) (a1 : Value) (R : KV) (w : World) : Prop :=
  D pg (.bi .len #[27] 3 [a0]) (fun x7 w =>
  Lp [(.int .i64 0), (.int .i64 0)] w (fun k2 vs1 w =>
    D pg (.bin .lss 3 (g vs1 0) x7) (fun x9 w =>
    Cnd x9 (
     D pg (.ia 27 a0 (g vs1 0)) (fun x14 w =>
     D pg (.load 40 x14) (fun x15 w =>
     D pg (.call a1 [x15]) (fun x16 w =>
     Cnd x16 (
      R (g vs1 0) w) (
      D pg (.bin .add 3 (g vs1 0) (.int .i64 1)) (fun x18 w =>
      k2 [x18, (g vs1 1)] w) w)) w) w) w) (
     R (.int .i64 (-1)) w)) w)) w

theorem c97_eq {a0 a1 : Value} {R : KV} {w : World} : c97 a0 a1 R w = semF pg Tryz.f97 (bodyOf Tryz.f97) [a0, a1] R w := by kernel_rfl
theorem l97 {a0 a1 : Value} {R : KV} {w : World} (h : c97 a0 a1 R w) : Calls pg 97 #[a0, a1] w (Ret R) :=
  calls_of_semF mixed Tryz.func97 (by kernel_rfl) (by kernel_rfl) (by rw [Tryz.ntmps97]; rfl) (c97_eq ▸ h)

/-- row.Set).there -/
def c39 (a0 : Value) (a1 : Value) (R : KV) (w : World) : Prop :=
  D pg (.box 30 a0) (fun x2 w =>
  D pg (.fa 30 x2 1) (fun x6 w =>
  D pg (.load 27 x6) (fun x7 w =>
  D pg (.ia 27 x7 a1) (fun x9 w =>
  D pg (.load 40 x9) (fun x10 w =>
  D pg (.bin .neq 40 x10 (.pointer none)) (fun x12 w =>
  GM x12 true x10 fun x14 =>
  GD pg x12 true (.call (.func (.func 72) #[] #[]) [x14]) (fun x15 w =>
  GD pg x12 true (.un .not x15) (fun x16 w =>
  D pg (.pick x12 x16 (.bool false)) (fun x17 w =>
  Cnd x17 (
   R x10 w) (
   R (.pointer none) w)) w) w) w) w) w) w) w) w) w

theorem c39_eq {a0 a1 : Value} {R : KV} {w : World} : c39 a0 a1 R w = semF pg Tryz.f39 (bodyOf Tryz.f39) [a0, a1] R w := by kernel_rfl
instance : Fo pg 72 := fo_of (by kernel_rfl)
theorem l39 {a0 a1 : Value} {R : KV} {w : World} (h : c39 a0 a1 R w) : Calls pg 39 #[a0, a1] w (Ret R) :=
  calls_of_semF mixed Tryz.func39 (by kernel_rfl) (by kernel_rfl) (by rw [Tryz.ntmps39]; rfl) (c39_eq ▸ h)

/-- drive.Drive).Dead -/
def c72 (a0 : Value) (R : KV) (w : World) : Prop :=
  D pg (.nilck a0) (fun x4 w =>
  D pg (.fa 84 x4 3) (fun x5 w =>
  D pg (.load 4 x5) (fun x6 w =>
  R x6 w) w) w) w

theorem c72_eq {a0 : Value} {R : KV} {w : World} : c72 a0 R w = semF pg Tryz.f72 (bodyOf Tryz.f72) [a0] R w := by kernel_rfl
instance : Sc pg 4 := sc_of (by kernel_rfl)
instance : Fa pg 84 3 3 := fa_of (by kernel_rfl)
theorem l72 {a0 : Value} {R : KV} {w : World} (h : c72 a0 R w) : Calls pg 72 #[a0] w (Ret R) :=
  calls_of_semF mixed Tryz.func72 (by kernel_rfl) (by kernel_rfl) (by rw [Tryz.ntmps72]; rfl) (c72_eq ▸ h)

/-- row.place).column -/
def c40 (a0 : Value) (a1 : Value) (R : KV) (w : World) : Prop :=
  D pg (.box 74 a0) (fun x2 w =>
  D pg (.fa 74 x2 0) (fun x8 w =>
  D pg (.fa 30 x8 0) (fun x9 w =>
  D pg (.fa 25 x9 0) (fun x10 w =>
  D pg (.load 3 x10) (fun x11 w =>
  D pg (.bin .sub 3 x11 (.int .i64 1)) (fun x12 w =>
  D pg (.bin .sub 3 x12 (.int .i64 1)) (fun x15 w =>
  D pg (.bin .lss 3 a1 x15) (fun x16 w =>
  Cnd x16 (
   D pg (.fa 74 x2 0) (fun x17 w =>
   D pg (.fa 30 x17 0) (fun x18 w =>
   D pg (.load 25 x18) (fun x19 w =>
   D pg (.fa 74 x2 1) (fun x20 w =>
   D pg (.load 3 x20) (fun x21 w =>
   D pg (.call (.func (.func 73) #[] #[]) [x19, x21, a1]) (fun x23 w =>
   R x23 w) w) w) w) w) w) w) (
   D pg (.fa 74 x2 0) (fun x25 w =>
   D pg (.fa 30 x25 0) (fun x26 w =>
   D pg (.load 25 x26) (fun x27 w =>
   D pg (.fa 74 x2 1) (fun x28 w =>
   D pg (.load 3 x28) (fun x29 w =>
   D pg (.call (.func (.func 74) #[] #[]) [x27, x29]) (fun x30 w =>
   D pg (.ext x30 0) (fun x31 w =>
   D pg (.ext x30 1) (fun x32 w =>
   D pg (.bin .lss 3 a1 x12) (fun x35 w =>
   Cnd x35 (
    R x31 w) (
    R x32 w)) w) w) w) w) w) w) w) w) w)) w) w) w) w) w) w) w) w

theorem c40_eq {a0 a1 : Value} {R : KV} {w : World} : c40 a0 a1 R w = semF pg Tryz.f40 (bodyOf Tryz.f40) [a0, a1] R w := by kernel_rfl
instance : Fa pg 74 1 5 := fa_of (by kernel_rfl)
instance : Fo pg 73 := fo_of (by kernel_rfl)
instance : Fo pg 74 := fo_of (by kernel_rfl)
theorem l40 {a0 a1 : Value} {R : KV} {w : World} (h : c40 a0 a1 R w) : Calls pg 40 #[a0, a1] w (Ret R) :=
  calls_of_semF mixed Tryz.func40 (by kernel_rfl) (by kernel_rfl) (by rw [Tryz.ntmps40]; rfl) (c40_eq ▸ h)

/-- layout.Column -/
def c73 (a0 : Value) (a1 : Value) (a2 : Value) (R : KV) (w : World) : Prop :=
  D pg (.box 25 a0) (fun x3 w =>
  D pg (.load 25 x3) (fun x8 w =>
  D pg (.build 119 [(0, x8)]) (fun x9 w =>
  D pg (.alloc 119) (fun x7 w =>
  D pg (.store 119 x7 x9) (fun _ w =>
  Dr w fun w =>
  Fl pg (.load 119 x7) w fun x10 =>
  Fl pg (.load 119 x7) w fun x13 =>
  D pg (.call (.func (.func 108) #[] #[]) [x13]) (fun x14 w =>
  (StAll pg [((some (.load 119 x7)), x10)] w ∧
  D pg (.call (.func (.func 77) #[] #[]) [x10, a1, a2, x14]) (fun x15 w =>
  Fl pg (.un .not x15) w fun x16 =>
  Cnd x16 (
   R (.int .i64 0) w) (
   Dr w fun w =>
   Fl pg (.load 119 x7) w fun x17 =>
   Fl pg (.fa 119 x7 0) w fun x23 =>
   Fl pg (.fa 25 x23 0) w fun x24 =>
   Fl pg (.load 3 x24) w fun x25 =>
   D pg (.call (.func (.func 109) #[] #[]) [x17, a1]) (fun x19 w =>
   (StAll pg [((some (.fa 119 x7 0)), x23), ((some (.fa 25 x23 0)), x24), ((some (.load 3 x24)), x25)] w ∧
   Fl pg (.bin .add 3 x19 (.int .i64 1)) w fun x20 =>
   Fl pg (.bin .add 3 x20 a2) w fun x22 =>
   Fl pg (.bin .rem 3 x22 x25) w fun x26 =>
   R x26 w)) w)) w)) w) w) w) w) w) w

theorem c73_eq {a0 a1 a2 : Value} {R : KV} {w : World} : c73 a0 a1 a2 R w = semF pg Tryz.f73 (bodyOf Tryz.f73) [a0, a1, a2] R w := by kernel_rfl
instance : Fo pg 108 := fo_of (by kernel_rfl)
instance : Fo pg 77 := fo_of (by kernel_rfl)
instance : Fo pg 109 := fo_of (by kernel_rfl)
theorem l73 {a0 a1 a2 : Value} {R : KV} {w : World} (h : c73 a0 a1 a2 R w) : Calls pg 73 #[a0, a1, a2] w (Ret R) :=
  calls_of_semF mixed Tryz.func73 (by kernel_rfl) (by kernel_rfl) (by rw [Tryz.ntmps73]; rfl) (c73_eq ▸ h)

/-- layout.plan).in -/
def c77 (a0 : Value) (a1 : Value) (a2 : Value) (a3 : Value) (R : KV) (w : World) : Prop :=
  D pg (.box 119 a0) (fun x4 w =>
  D pg (.load 119 x4) (fun x9 w =>
  D pg (.call (.func (.func 96) #[] #[]) [x9]) (fun x10 w =>
  GM x10 true a1 fun x12 =>
  GD pg x10 true (.bin .geq 3 x12 (.int .i64 0)) (fun x13 w =>
  D pg (.pick x10 x13 (.bool false)) (fun x14 w =>
  GM x14 true a1 fun x16 =>
  GD pg x14 true (.fa 119 x4 0) (fun x17 w =>
  GD pg x14 true (.fa 25 x17 2) (fun x18 w =>
  GD pg x14 true (.load 3 x18) (fun x19 w =>
  GD pg x14 true (.bin .lss 3 x16 x19) (fun x20 w =>
  D pg (.pick x14 x20 (.bool false)) (fun x21 w =>
  GM x21 true a2 fun x23 =>
  GD pg x21 true (.bin .geq 3 x23 (.int .i64 0)) (fun x24 w =>
  D pg (.pick x21 x24 (.bool false)) (fun x25 w =>
  GM x25 true a2 fun x27 =>
  GM x25 true a3 fun x28 =>
  GD pg x25 true (.bin .lss 3 x27 x28) (fun x29 w =>
  D pg (.pick x25 x29 (.bool false)) (fun x30 w =>
  R x30 w) w) w) w) w) w) w) w) w) w) w) w) w) w) w

theorem c77_eq {a0 a1 a2 a3 : Value} {R : KV} {w : World} : c77 a0 a1 a2 a3 R w = semF pg Tryz.f77 (bodyOf Tryz.f77) [a0, a1, a2, a3] R w := by kernel_rfl
theorem l77 {a0 a1 a2 a3 : Value} {R : KV} {w : World} (h : c77 a0 a1 a2 a3 R w) : Calls pg 77 #[a0, a1, a2, a3] w (Ret R) :=
  calls_of_semF mixed Tryz.func77 (by kernel_rfl) (by kernel_rfl) (by rw [Tryz.ntmps77]; rfl) (c77_eq ▸ h)

/-- layout.plan).data -/
def c108 (a0 : Value) (R : KV) (w : World) : Prop :=
  D pg (.box 119 a0) (fun x1 w =>
  D pg (.fa 119 x1 0) (fun x3 w =>
  D pg (.fa 25 x3 0) (fun x4 w =>
  D pg (.load 3 x4) (fun x5 w =>
  D pg (.bin .sub 3 x5 (.int .i64 2)) (fun x6 w =>
  R x6 w) w) w) w) w) w

theorem c108_eq {a0 : Value} {R : KV} {w : World} : c108 a0 R w = semF pg Tryz.f108 (bodyOf Tryz.f108) [a0] R w := by kernel_rfl
theorem l108 {a0 : Value} {R : KV} {w : World} (h : c108 a0 R w) : Calls pg 108 #[a0] w (Ret R) :=
  calls_of_semF mixed Tryz.func108 (by kernel_rfl) (by kernel_rfl) (by rw [Tryz.ntmps108]; rfl) (c108_eq ▸ h)

/-- layout.plan).first -/
def c109 (a0 : Value) (a1 : Value) (R : KV) (w : World) : Prop :=
  D pg (.box 119 a0) (fun x2 w =>
  Dr w fun w =>
  Fl pg (.fa 119 x2 0) w fun x5 =>
  Fl pg (.fa 25 x5 0) w fun x6 =>
  Fl pg (.load 3 x6) w fun x7 =>
  Fl pg (.bin .mul 3 (.int .i64 2) x7) w fun x8 =>
  Fl pg (.fa 119 x2 0) w fun x10 =>
  Fl pg (.fa 25 x10 0) w fun x11 =>
  Fl pg (.load 3 x11) w fun x12 =>
  Fl pg (.bin .rem 3 a1 x12) w fun x13 =>
  Fl pg (.bin .sub 3 x8 x13) w fun x14 =>
  Fl pg (.fa 119 x2 0) w fun x15 =>
  Fl pg (.fa 25 x15 0) w fun x16 =>
  Fl pg (.load 3 x16) w fun x17 =>
  Fl pg (.bin .rem 3 x14 x17) w fun x18 =>
  R x18 w) w

theorem c109_eq {a0 a1 : Value} {R : KV} {w : World} : c109 a0 a1 R w = semF pg Tryz.f109 (bodyOf Tryz.f109) [a0, a1] R w := by kernel_rfl
theorem l109 {a0 a1 : Value} {R : KV} {w : World} (h : c109 a0 a1 R w) : Calls pg 109 #[a0, a1] w (Ret R) :=
  calls_of_semF mixed Tryz.func109 (by kernel_rfl) (by kernel_rfl) (by rw [Tryz.ntmps109]; rfl) (c109_eq ▸ h)

/-- layout.Parity -/
def c74 (a0 : Value) (a1 : Value) (R : KV) (w : World) : Prop :=
  D pg (.box 25 a0) (fun x2 w =>
  D pg (.load 25 x2) (fun x8 w =>
  D pg (.build 119 [(0, x8)]) (fun x9 w =>
  D pg (.alloc 119) (fun x6 w =>
  D pg (.store 119 x6 x9) (fun _ w =>
  D pg (.load 119 x6) (fun x10 w =>
  D pg (.call (.func (.func 77) #[] #[]) [x10, a1, (.int .i64 0), (.int .i64 1)]) (fun x12 w =>
  D pg (.un .not x12) (fun x13 w =>
  Cnd x13 (
   R (.tuple #[(.int .i64 0), (.int .i64 0)]) w) (
   D pg (.load 119 x6) (fun x14 w =>
   D pg (.call (.func (.func 109) #[] #[]) [x14, a1]) (fun x16 w =>
   D pg (.fa 119 x6 0) (fun x18 w =>
   D pg (.fa 25 x18 0) (fun x19 w =>
   D pg (.load 3 x19) (fun x20 w =>
   D pg (.bin .add 3 x16 x20) (fun x21 w =>
   D pg (.bin .sub 3 x21 (.int .i64 1)) (fun x22 w =>
   D pg (.fa 119 x6 0) (fun x23 w =>
   D pg (.fa 25 x23 0) (fun x24 w =>
   D pg (.load 3 x24) (fun x25 w =>
   D pg (.bin .rem 3 x22 x25) (fun x26 w =>
   R (.tuple #[x26, x16]) w) w) w) w) w) w) w) w) w) w) w) w)) w) w) w) w) w) w) w) w

theorem c74_eq {a0 a1 : Value} {R : KV} {w : World} : c74 a0 a1 R w = semF pg Tryz.f74 (bodyOf Tryz.f74) [a0, a1] R w := by kernel_rfl
theorem l74 {a0 a1 : Value} {R : KV} {w : World} (h : c74 a0 a1 R w) : Calls pg 74 #[a0, a1] w (Ret R) :=
  calls_of_semF mixed Tryz.func74 (by kernel_rfl) (by kernel_rfl) (by rw [Tryz.ntmps74]; rfl) (c74_eq ▸ h)

/-- drive.Drive).Write -/
def c41 (a0 : Value) (a1 : Value) (a2 : Value) (R : KV) (w : World) : Prop :=
  D pg (.box 40 a0) (fun x3 w =>
  D pg (.box 3 a1) (fun x4 w =>
  D pg (.load 40 x3) (fun x7 w =>
  D pg (.load 3 x4) (fun x8 w =>
  D pg (.mkFn (Go.Fn.func 76) [] [x3, x4]) (fun x10 w =>
  D pg (.call (.func (.func 75) #[] #[]) [x7, x8, a2, x10]) (fun x11 w =>
  R x11 w) w) w) w) w) w) w

theorem c41_eq {a0 a1 a2 : Value} {R : KV} {w : World} : c41 a0 a1 a2 R w = semF pg Tryz.f41 (bodyOf Tryz.f41) [a0, a1, a2] R w := by kernel_rfl
instance : Fo pg 76 := fo_of (by kernel_rfl)
instance : Fo pg 75 := fo_of (by kernel_rfl)
theorem l41 {a0 a1 a2 : Value} {R : KV} {w : World} (h : c41 a0 a1 a2 R w) : Calls pg 41 #[a0, a1, a2] w (Ret R) :=
  calls_of_semF mixed Tryz.func41 (by kernel_rfl) (by kernel_rfl) (by rw [Tryz.ntmps41]; rfl) (c41_eq ▸ h)

/-- drive.Drive).put -/
def c75 (a0 : Value) (a1 : Value) (a2 : Value) (a3 : Value) (R : KV) (w : World) : Prop :=
  D pg (.call (.func (.func 43) #[] #[]) [a0, a1]) (fun x12 w =>
  Join (fun vs1 w =>
    Join (fun _ w =>
      R (g vs1 0) w) (fun k4 =>
      D pg (.bin .eql 38 (g vs1 0) (.int .i64 0)) (fun x21 w =>
      Cnd x21 (
       D pg (.conv 9 92 a2) (fun x24 w =>
       D pg (.s2ap 116 x24) (fun x25 w =>
       D pg (.load 116 x25) (fun x26 w =>
       D pg (.call a3 [x26]) (fun x27 w =>
       k4 [] w) w) w) w) w) (
       k4 [] w)) w)) (fun k2 =>
    D pg (.bin .eql 38 x12 (.int .i64 0)) (fun x14 w =>
    GM x14 true a2 fun x16 =>
    GD pg x14 true (.bi .len #[9] 3 [x16]) (fun x17 w =>
    GD pg x14 true (.bin .neq 3 x17 (.int .i64 64)) (fun x18 w =>
    D pg (.pick x14 x18 (.bool false)) (fun x19 w =>
    Cnd x19 (
     k2 [(.int .i64 1)] w) (
     k2 [x12] w)) w) w) w) w)) w

theorem c75_eq {a0 a1 a2 a3 : Value} {R : KV} {w : World} : c75 a0 a1 a2 a3 R w = semF pg Tryz.f75 (bodyOf Tryz.f75) [a0, a1, a2, a3] R w := by kernel_rfl
instance : Sl pg 92 5 1 1 (.int .u8 0) := sl_of (by kernel_rfl) (by kernel_rfl) (by kernel_rfl) (by kernel_rfl) (by kernel_rfl)
instance : By pg 92 5 := by_of (by kernel_rfl) (by kernel_rfl)
instance : Ar pg 116 64 5 1 := ar_of (by kernel_rfl) (by kernel_rfl)
instance : Sc pg 5 := sc_of (by kernel_rfl)
instance : Ag pg 116 64 := ag_of (by kernel_rfl) (by kernel_rfl)
instance : Fo pg 43 := fo_of (by kernel_rfl)
theorem l75 {a0 a1 a2 a3 : Value} {R : KV} {w : World} (h : c75 a0 a1 a2 a3 R w) : Calls pg 75 #[a0, a1, a2, a3] w (Ret R) :=
  calls_of_semF mixed Tryz.func75 (by kernel_rfl) (by kernel_rfl) (by rw [Tryz.ntmps75]; rfl) (c75_eq ▸ h)

/-- drive.Drive).may -/
def c43 (a0 : Value) (a1 : Value) (R : KV) (w : World) : Prop :=
  D pg (.nilck a0) (fun x7 w =>
  D pg (.fa 84 x7 3) (fun x8 w =>
  D pg (.load 4 x8) (fun x9 w =>
  Cnd x9 (
   R (.int .i64 40) w) (
   D pg (.call (.func (.func 78) #[] #[]) [a0]) (fun x12 w =>
   Cnd x12 (
    R (.int .i64 42) w) (
    D pg (.bin .lss 3 a1 (.int .i64 0)) (fun x15 w =>
    GM x15 false a1 fun x17 =>
    GM x15 false a0 fun x18 =>
    GD pg x15 false (.nilck x18) (fun x19 w =>
    GD pg x15 false (.fa 84 x19 0) (fun x20 w =>
    GD pg x15 false (.load 80 x20) (fun x21 w =>
    GD pg x15 false (.bi .len #[80] 3 [x21]) (fun x22 w =>
    GD pg x15 false (.bin .geq 3 x17 x22) (fun x23 w =>
    D pg (.pick x15 (.bool true) x23) (fun x24 w =>
    Cnd x24 (
     R (.int .i64 70) w) (
     R (.int .i64 0) w)) w) w) w) w) w) w) w)) w)) w) w) w

theorem c43_eq {a0 a1 : Value} {R : KV} {w : World} : c43 a0 a1 R w = semF pg Tryz.f43 (bodyOf Tryz.f43) [a0, a1] R w := by kernel_rfl
instance : Fo pg 78 := fo_of (by kernel_rfl)
theorem l43 {a0 a1 : Value} {R : KV} {w : World} (h : c43 a0 a1 R w) : Calls pg 43 #[a0, a1] w (Ret R) :=
  calls_of_semF mixed Tryz.func43 (by kernel_rfl) (by kernel_rfl) (by rw [Tryz.ntmps43]; rfl) (c43_eq ▸ h)

/-- drive.Drive).off -/
def c78 (a0 : Value) (R : KV) (w : World) : Prop :=
  D pg (.nilck a0) (fun x4 w =>
  D pg (.fa 84 x4 5) (fun x5 w =>
  D pg (.load 4 x5) (fun x6 w =>
  GM x6 true a0 fun x8 =>
  GD pg x6 true (.nilck x8) (fun x9 w =>
  GD pg x6 true (.fa 84 x9 4) (fun x10 w =>
  GD pg x6 true (.load 3 x10) (fun x11 w =>
  GD pg x6 true (.bin .eql 3 x11 (.int .i64 0)) (fun x12 w =>
  D pg (.pick x6 x12 (.bool false)) (fun x13 w =>
  R x13 w) w) w) w) w) w) w) w) w

theorem c78_eq {a0 : Value} {R : KV} {w : World} : c78 a0 R w = semF pg Tryz.f78 (bodyOf Tryz.f78) [a0] R w := by kernel_rfl
instance : Fa pg 84 5 5 := fa_of (by kernel_rfl)
instance : Fa pg 84 4 4 := fa_of (by kernel_rfl)
theorem l78 {a0 : Value} {R : KV} {w : World} (h : c78 a0 R w) : Calls pg 78 #[a0] w (Ret R) :=
  calls_of_semF mixed Tryz.func78 (by kernel_rfl) (by kernel_rfl) (by rw [Tryz.ntmps78]; rfl) (c78_eq ▸ h)

/-- drive.Drive).Write$1 -/
def c76 (a0 : Value) (a1 : Value) (a2 : Value) (R : KV) (w : World) : Prop :=
  D pg (.box 116 a0) (fun x3 w =>
  Dr w fun w =>
  Fl pg (.load 40 a1) w fun x4 =>
  Fl pg (.nilck x4) w fun x5 =>
  Fl pg (.fa 84 x5 1) w fun x6 =>
  Fl pg (.load 81 x6) w fun x7 =>
  Fl pg (.load 3 a2) w fun x8 =>
  Fl pg (.load 40 a1) w fun x9 =>
  Fl pg (.nilck x9) w fun x10 =>
  Fl pg (.fa 84 x10 1) w fun x11 =>
  Fl pg (.load 81 x11) w fun x12 =>
  Fl pg (.load 3 a2) w fun x13 =>
  Fl pg (.look 81 x12 x13 false) w fun x14 =>
  Fl pg (.load 116 x3) w fun x15 =>
  D pg (.mkSl 80 1 [(0, x15)]) (fun x16 w =>
  (StAll pg [((some (.load 40 a1)), x4), ((some (.fa 84 x5 1)), x6), ((some (.load 81 x6)), x7), ((some (.load 3 a2)), x8), ((some (.load 40 a1)), x9), ((some (.fa 84 x10 1)), x11), ((some (.load 81 x11)), x12), ((some (.load 3 a2)), x13), ((some (.look 81 x12 x13 false)), x14)] w ∧
  D pg (.bi .append #[80, 80] 80 [x14, x16]) (fun x17 w =>
  (StAll pg [((some (.load 40 a1)), x4), ((some (.fa 84 x5 1)), x6), ((some (.load 81 x6)), x7), ((some (.load 3 a2)), x8)] w ∧
  D pg (.mapup 81 x7 x8 x17) (fun _ w =>
  Dr w fun w =>
  Fl pg (.load 40 a1) w fun x18 =>
  Fl pg (.nilck x18) w fun x19 =>
  Fl pg (.fa 84 x19 2) w fun x20 =>
  Fl pg (.load 82 x20) w fun x21 =>
  Fl pg (.load 3 a2) w fun x22 =>
  D pg (.bi .delete #[82, 3] 0 [x21, x22]) (fun _ w =>
  D pg (.load 40 a1) (fun x23 w =>
  D pg (.nilck x23) (fun x24 w =>
  D pg (.fa 84 x24 4) (fun x25 w =>
  D pg (.load 3 x25) (fun x26 w =>
  D pg (.bin .sub 3 x26 (.int .i64 1)) (fun x27 w =>
  D pg (.nilck x23) (fun x28 w =>
  D pg (.fa 84 x28 4) (fun x29 w =>
  D pg (.store 3 x29 x27) (fun _ w =>
  R (.tuple #[]) w) w) w) w) w) w) w) w) w) w) w)) w)) w) w

theorem c76_eq {a0 a1 a2 : Value} {R : KV} {w : World} : c76 a0 a1 a2 R w = semF pg Tryz.f76 (bodyOf Tryz.f76) [a0, a1, a2] R w := by kernel_rfl
instance : Sc pg 81 := sc_of (by kernel_rfl)
instance : Mp pg 81 3 80 (.slice none 0 0) := mp_of (by kernel_rfl) (by kernel_rfl) (by kernel_rfl)
instance : Sc pg 82 := sc_of (by kernel_rfl)
instance : Sz1 pg 3 1 := sz1_of (by kernel_rfl)
instance : Fa pg 84 1 1 := fa_of (by kernel_rfl)
instance : Fa pg 84 2 2 := fa_of (by kernel_rfl)
instance : Mp pg 82 3 4 (.bool false) := mp_of (by kernel_rfl) (by kernel_rfl) (by kernel_rfl)
theorem l76 {a0 a1 a2 : Value} {R : KV} {w : World} (h : c76 a0 a1 a2 R w) : Calls pg 76 #[a0, a1, a2] w (Ret R) :=
  calls_of_semF mixed Tryz.func76 (by kernel_rfl) (by kernel_rfl) (by rw [Tryz.ntmps76]; rfl) (c76_eq ▸ h)

/-- layout.Sector -/
def c42 (a0 : Value) (a1 : Value) (a2 : Value) (R : KV) (w : World) : Prop :=
  D pg (.box 25 a0) (fun x3 w =>
  D pg (.load 25 x3) (fun x8 w =>
  D pg (.build 119 [(0, x8)]) (fun x9 w =>
  D pg (.alloc 119) (fun x7 w =>
  D pg (.store 119 x7 x9) (fun _ w =>
  D pg (.fa 119 x7 0) (fun x10 w =>
  D pg (.load 25 x10) (fun x11 w =>
  D pg (.build 25 []) (fun x12 w =>
  D pg (.bin .eql 25 x11 x12) (fun x13 w =>
  GD pg x13 false (.load 119 x7) (fun x15 w =>
  GM x13 false a1 fun x16 =>
  GM x13 false a2 fun x17 =>
  GD pg x13 false (.fa 119 x7 0) (fun x18 w =>
  GD pg x13 false (.fa 25 x18 1) (fun x19 w =>
  GD pg x13 false (.load 3 x19) (fun x20 w =>
  GD pg x13 false (.call (.func (.func 77) #[] #[]) [x15, x16, x17, x20]) (fun x21 w =>
  GD pg x13 false (.un .not x21) (fun x22 w =>
  D pg (.pick x13 (.bool true) x22) (fun x23 w =>
  Cnd x23 (
   R (.int .i64 0) w) (
   D pg (.fa 119 x7 0) (fun x24 w =>
   D pg (.fa 25 x24 1) (fun x25 w =>
   D pg (.load 3 x25) (fun x26 w =>
   D pg (.bin .mul 3 x26 a1) (fun x28 w =>
   D pg (.bin .add 3 (.int .i64 4) x28) (fun x29 w =>
   D pg (.bin .add 3 x29 a2) (fun x31 w =>
   R x31 w) w) w) w) w) w) w)) w) w) w) w) w) w) w) w) w) w) w) w) w) w) w) w

theorem c42_eq {a0 a1 a2 : Value} {R : KV} {w : World} : c42 a0 a1 a2 R w = semF pg Tryz.f42 (bodyOf Tryz.f42) [a0, a1, a2] R w := by kernel_rfl
instance : E3 pg 25 := e3_of (by kernel_rfl)
theorem l42 {a0 a1 a2 : Value} {R : KV} {w : World} (h : c42 a0 a1 a2 R w) : Calls pg 42 #[a0, a1, a2] w (Ret R) :=
  calls_of_semF mixed Tryz.func42 (by kernel_rfl) (by kernel_rfl) (by rw [Tryz.ntmps42]; rfl) (c42_eq ▸ h)

/-- row.Sector -/
def c16 (a0 : Value) (a1 : Value) (a2 : Value) (a3 : Value) (R : KV) (w : World) : Prop :=
  D pg (.box 30 a0) (fun x4 w =>
  D pg (.load 30 x4) (fun x17 w =>
  D pg (.call (.func (.func 38) #[] #[]) [x17, a1, a2]) (fun x20 w =>
  D pg (.ext x20 0) (fun x21 w =>
  D pg (.ext x20 1) (fun x22 w =>
  D pg (.alloc 74) (fun x10 w =>
  D pg (.store 74 x10 x21) (fun _ w =>
  D pg (.bin .neq 38 x22 (.int .i64 0)) (fun x25 w =>
  Cnd x25 (
   R (.tuple #[(.string ⟨#[]⟩), x22]) w) (
   D pg (.bin .lss 3 a3 (.int .i64 0)) (fun x29 w =>
   GM x29 false a3 fun x31 =>
   GD pg x29 false (.fa 30 x4 0) (fun x32 w =>
   GD pg x29 false (.fa 25 x32 0) (fun x33 w =>
   GD pg x29 false (.load 3 x33) (fun x34 w =>
   GD pg x29 false (.bin .sub 3 x34 (.int .i64 2)) (fun x35 w =>
   GD pg x29 false (.bin .geq 3 x31 x35) (fun x36 w =>
   D pg (.pick x29 (.bool true) x36) (fun x37 w =>
   Cnd x37 (
    R (.tuple #[(.string ⟨#[]⟩), (.int .i64 70)]) w) (
    D pg (.load 74 x10) (fun x39 w =>
    D pg (.call (.func (.func 44) #[] #[]) [x39, a3]) (fun x41 w =>
    D pg (.ext x41 0) (fun x42 w =>
    D pg (.ext x41 1) (fun x43 w =>
    D pg (.bin .neq 38 x43 (.int .i64 41)) (fun x45 w =>
    Cnd x45 (
     R (.tuple #[x42, x43]) w) (
     D pg (.load 30 x4) (fun x49 w =>
     D pg (.call (.func (.func 18) #[] #[]) [x49, a1, a2]) (fun x52 w =>
     D pg (.ext x52 0) (fun x53 w =>
     D pg (.ext x52 1) (fun x54 w =>
     D pg (.ext x52 2) (fun x55 w =>
     D pg (.bin .neq 38 x55 (.int .i64 0)) (fun x57 w =>
     Cnd x57 (
      R (.tuple #[(.string ⟨#[]⟩), x55]) w) (
      D pg (.ia 22 x53 a3) (fun x61 w =>
      D pg (.load 9 x61) (fun x62 w =>
      R (.tuple #[x62, (.int .i64 0)]) w) w) w)) w) w) w) w) w) w)) w) w) w) w) w)) w) w) w) w) w) w) w)) w) w) w) w) w) w) w) w

theorem c16_eq {a0 a1 a2 a3 : Value} {R : KV} {w : World} : c16 a0 a1 a2 a3 R w = semF pg Tryz.f16 (bodyOf Tryz.f16) [a0, a1, a2, a3] R w := by kernel_rfl
instance : Sc pg 9 := sc_of (by kernel_rfl)
instance : Fo pg 44 := fo_of (by kernel_rfl)
instance : Fo pg 18 := fo_of (by kernel_rfl)
theorem l16 {a0 a1 a2 a3 : Value} {R : KV} {w : World} (h : c16 a0 a1 a2 a3 R w) : Calls pg 16 #[a0, a1, a2, a3] w (Ret R) :=
  calls_of_semF mixed Tryz.func16 (by kernel_rfl) (by kernel_rfl) (by rw [Tryz.ntmps16]; rfl) (c16_eq ▸ h)

/-- row.Filled -/
def c18 (a0 : Value) (a1 : Value) (a2 : Value) (R : KV) (w : World) : Prop :=
  D pg (.box 30 a0) (fun x3 w =>
  D pg (.load 30 x3) (fun x13 w =>
  D pg (.call (.func (.func 17) #[] #[]) [x13, a1, a2]) (fun x16 w =>
  D pg (.ext x16 0) (fun x17 w =>
  D pg (.ext x16 1) (fun x18 w =>
  D pg (.ext x16 2) (fun x19 w =>
  D pg (.bin .neq 38 x19 (.int .i64 0)) (fun x21 w =>
  Cnd x21 (
   R (.tuple #[(.slice none 0 0), (.slice none 0 0), x19]) w) (
   D pg (.call (.func (.func 46) #[] #[]) [x17, x18]) (fun x26 w =>
   D pg (.ext x26 0) (fun x27 w =>
   D pg (.ext x26 1) (fun x28 w =>
   D pg (.bin .neq 38 x28 (.int .i64 0)) (fun x30 w =>
   Cnd x30 (
    R (.tuple #[(.slice none 0 0), (.slice none 0 0), x28]) w) (
    R (.tuple #[x27, x18, (.int .i64 0)]) w)) w) w) w) w)) w) w) w) w) w) w) w

theorem c18_eq {a0 a1 a2 : Value} {R : KV} {w : World} : c18 a0 a1 a2 R w = semF pg Tryz.f18 (bodyOf Tryz.f18) [a0, a1, a2] R w := by kernel_rfl
instance : Fo pg 46 := fo_of (by kernel_rfl)
theorem l18 {a0 a1 a2 : Value} {R : KV} {w : World} (h : c18 a0 a1 a2 R w) : Calls pg 18 #[a0, a1, a2] w (Ret R) :=
  calls_of_semF mixed Tryz.func18 (by kernel_rfl) (by kernel_rfl) (by rw [Tryz.ntmps18]; rfl) (c18_eq ▸ h)

/-- row.Read -/
def c17 (a0 : Value) (a1 : Value) (a2 : Value) (R : KV) (w : World) : Prop :=
  D pg (.box 30 a0) (fun x3 w =>
  D pg (.alloc 22) (fun x6 w =>
  D pg (.alloc 28) (fun x7 w =>
  D pg (.alloc 38) (fun x8 w =>
  D pg (.load 30 x3) (fun x16 w =>
  D pg (.call (.func (.func 38) #[] #[]) [x16, a1, a2]) (fun x19 w =>
  D pg (.ext x19 0) (fun x20 w =>
  D pg (.ext x19 1) (fun x21 w =>
  D pg (.alloc 74) (fun x9 w =>
  D pg (.store 74 x9 x20) (fun _ w =>
  D pg (.bin .neq 38 x21 (.int .i64 0)) (fun x23 w =>
  Cnd x23 (
   D pg (.store 22 x6 (.slice none 0 0)) (fun _ w =>
   D pg (.store 28 x7 (.slice none 0 0)) (fun _ w =>
   D pg (.store 38 x8 x21) (fun _ w =>
   Fl pg (.load 22 x6) w fun r1 =>
   Fl pg (.load 28 x7) w fun r2 =>
   Fl pg (.load 38 x8) w fun r3 =>
   R (.tuple #[r1, r2, r3]) w) w) w) w) (
   D pg (.alloc 22) (fun x11 w =>
   D pg (.alloc 28) (fun x12 w =>
   D pg (.load 74 x9) (fun x25 w =>
   D pg (.call (.func (.func 45) #[] #[]) [x25]) (fun x26 w =>
   RF pg x26 2 w (fun xs4 mid5 K6 w =>
     mid5 w (fun w =>
       Join (fun _ w =>
         D pg (.load 22 x11) (fun x40 w =>
         D pg (.mkSl 22 1 [(0, (g xs4 0))]) (fun x42 w =>
         D pg (.bi .append #[22, 22] 22 [x40, x42]) (fun x43 w =>
         D pg (.store 22 x11 x43) (fun _ w =>
         K6 none w) w) w) w) w) (fun k11 =>
         D pg (.bin .eql 38 (g xs4 1) (.int .i64 42)) (fun x36 w =>
         Cnd x36 (
          D pg (.store 22 x6 (.slice none 0 0)) (fun _ w =>
          D pg (.store 28 x7 (.slice none 0 0)) (fun _ w =>
          D pg (.store 38 x8 (g xs4 1)) (fun _ w =>
          K6 (some .ret) w) w) w) w) (
          D pg (.bin .eql 38 (g xs4 1) (.int .i64 0)) (fun x39 w =>
          Cnd x39 (
           k11 [] w) (
           D pg (.load 28 x12) (fun x30 w =>
           D pg (.load 22 x11) (fun x31 w =>
           D pg (.bi .len #[22] 3 [x31]) (fun x32 w =>
           D pg (.mkSl 28 1 [(0, x32)]) (fun x33 w =>
           D pg (.bi .append #[28, 28] 28 [x30, x33]) (fun x34 w =>
           D pg (.store 28 x12 x34) (fun _ w =>
           k11 [] w) w) w) w) w) w) w)) w)) w))) (fun j7 d8 w => JK j7 (
     Dr w fun w =>
     Fl pg (.load 22 x11) w fun x44_1 =>
     Fl pg (.load 28 x12) w fun x45_1 =>
     D pg (.store 22 x6 x44_1) (fun _ w =>
     (StAll pg [((some (.load 28 x12)), x45_1)] w ∧
     D pg (.store 28 x7 x45_1) (fun _ w =>
     D pg (.store 38 x8 (.int .i64 0)) (fun _ w =>
     Mk d8 w (fun w =>
     Fl pg (.load 22 x6) w fun r15 =>
     Fl pg (.load 28 x7) w fun r16 =>
     Fl pg (.load 38 x8) w fun r17 =>
     R (.tuple #[r15, r16, r17]) w)) w) w)) w) (
     Mk d8 w (fun w =>
     Fl pg (.load 22 x6) w fun r18 =>
     Fl pg (.load 28 x7) w fun r19 =>
     Fl pg (.load 38 x8) w fun r20 =>
     R (.tuple #[r18, r19, r20]) w)) (fun id9 =>
      cond (Nat.beq id9 0) (
       Dr w fun w =>
       Fl pg (.load 22 x11) w fun x44 =>
       Fl pg (.load 28 x12) w fun x45 =>
       D pg (.store 22 x6 x44) (fun _ w =>
       (StAll pg [((some (.load 28 x12)), x45)] w ∧
       D pg (.store 28 x7 x45) (fun _ w =>
       D pg (.store 38 x8 (.int .i64 0)) (fun _ w =>
       Mk d8 w (fun w =>
       Fl pg (.load 22 x6) w fun r12 =>
       Fl pg (.load 28 x7) w fun r13 =>
       Fl pg (.load 38 x8) w fun r14 =>
       R (.tuple #[r12, r13, r14]) w)) w) w)) w) (
      False)))) w) w) w) w)) w) w) w) w) w) w) w) w) w) w) w

theorem c17_eq {a0 a1 a2 : Value} {R : KV} {w : World} : c17 a0 a1 a2 R w = semFR pg Tryz.f17 (bodyOf Tryz.f17) [a0, a1, a2] R w := by kernel_rfl
instance : ZrL pg 22 [(.slice none 0 0)] := zrl_of (v := (.slice none 0 0)) (by kernel_rfl) rfl
instance : ZrL pg 28 [(.slice none 0 0)] := zrl_of (v := (.slice none 0 0)) (by kernel_rfl) rfl
instance : ZrL pg 38 [(.int .i64 0)] := zrl_of (v := (.int .i64 0)) (by kernel_rfl) rfl
instance : Sz1 pg 38 1 := sz1_of (by kernel_rfl)
instance : Sc pg 38 := sc_of (by kernel_rfl)
instance : Fo pg 45 := fo_of (by kernel_rfl)
theorem l17 {a0 a1 a2 : Value} {R : KV} {w : World} (h : c17 a0 a1 a2 R w) : Calls pg 17 #[a0, a1, a2] w (Ret R) :=
  calls_of_semFR mixed Tryz.func17 (by kernel_rfl) (by kernel_rfl) (by rw [Tryz.ntmps17]; rfl) (c17_eq ▸ h)

/-- row.place).sectors -/
def c45 (a0 : Value) (R : KV) (w : World) : Prop :=
  D pg (.box 74 a0) (fun x1 w =>
  D pg (.mkFn (Go.Fn.func 80) [] [x1]) (fun x3 w =>
  R x3 w) w) w

theorem c45_eq {a0 : Value} {R : KV} {w : World} : c45 a0 R w = semF pg Tryz.f45 (bodyOf Tryz.f45) [a0] R w := by kernel_rfl
instance : Fo pg 80 := fo_of (by kernel_rfl)
theorem l45 {a0 : Value} {R : KV} {w : World} (h : c45 a0 R w) : Calls pg 45 #[a0] w (Ret R) :=
  calls_of_semF mixed Tryz.func45 (by kernel_rfl) (by kernel_rfl) (by rw [Tryz.ntmps45]; rfl) (c45_eq ▸ h)

/-- row.place).sectors$1 -/
def c80 (a0 : Value) (a1 : Value) (R : KV) (w : World) : Prop :=
  D pg (.fa 74 a1 0) (fun x4 w =>
  D pg (.fa 30 x4 0) (fun x5 w =>
  D pg (.fa 25 x5 0) (fun x6 w =>
  D pg (.load 3 x6) (fun x7 w =>
  Lp [(.int .i64 0)] w (fun k2 vs1 w =>
    D pg (.bin .lss 3 (g vs1 0) x7) (fun x9 w =>
    Cnd x9 (
     D pg (.load 74 a1) (fun x12 w =>
     D pg (.call (.func (.func 44) #[] #[]) [x12, (g vs1 0)]) (fun x14 w =>
     D pg (.ext x14 0) (fun x15 w =>
     D pg (.ext x14 1) (fun x16 w =>
     D pg (.call a0 [x15, x16]) (fun x17 w =>
     D pg (.un .not x17) (fun x18 w =>
     Cnd x18 (
      R (.tuple #[]) w) (
      D pg (.bin .add 3 (g vs1 0) (.int .i64 1)) (fun x19 w =>
      k2 [x19] w) w)) w) w) w) w) w) w) (
     R (.tuple #[]) w)) w)) w) w) w) w

theorem c80_eq {a0 a1 : Value} {R : KV} {w : World} : c80 a0 a1 R w = semF pg Tryz.f80 (bodyOf Tryz.f80) [a0, a1] R w := by kernel_rfl
theorem l80 {a0 a1 : Value} {R : KV} {w : World} (h : c80 a0 a1 R w) : Calls pg 80 #[a0, a1] w (Ret R) :=
  calls_of_semF mixed Tryz.func80 (by kernel_rfl) (by kernel_rfl) (by rw [Tryz.ntmps80]; rfl) (c80_eq ▸ h)

/-- row.place).sector -/
def c44 (a0 : Value) (a1 : Value) (R : KV) (w : World) : Prop :=
  D pg (.box 74 a0) (fun x2 w =>
  D pg (.load 74 x2) (fun x7 w =>
  D pg (.call (.func (.func 55) #[] #[]) [x7, a1]) (fun x9 w =>
  D pg (.bin .eql 40 x9 (.pointer none)) (fun x11 w =>
  Cnd x11 (
   R (.tuple #[(.string ⟨#[]⟩), (.int .i64 41)]) w) (
   D pg (.fa 74 x2 0) (fun x13 w =>
   D pg (.fa 30 x13 0) (fun x14 w =>
   D pg (.load 25 x14) (fun x15 w =>
   D pg (.fa 74 x2 1) (fun x16 w =>
   D pg (.load 3 x16) (fun x17 w =>
   D pg (.fa 74 x2 2) (fun x18 w =>
   D pg (.load 3 x18) (fun x19 w =>
   D pg (.call (.func (.func 42) #[] #[]) [x15, x17, x19]) (fun x20 w =>
   D pg (.call (.func (.func 79) #[] #[]) [x9, x20]) (fun x21 w =>
   D pg (.ext x21 0) (fun x22 w =>
   D pg (.ext x21 1) (fun x23 w =>
   R (.tuple #[x22, x23]) w) w) w) w) w) w) w) w) w) w) w) w)) w) w) w) w

theorem c44_eq {a0 a1 : Value} {R : KV} {w : World} : c44 a0 a1 R w = semF pg Tryz.f44 (bodyOf Tryz.f44) [a0, a1] R w := by kernel_rfl
instance : Fa pg 74 2 6 := fa_of (by kernel_rfl)
instance : Fo pg 55 := fo_of (by kernel_rfl)
instance : Fo pg 79 := fo_of (by kernel_rfl)
theorem l44 {a0 a1 : Value} {R : KV} {w : World} (h : c44 a0 a1 R w) : Calls pg 44 #[a0, a1] w (Ret R) :=
  calls_of_semF mixed Tryz.func44 (by kernel_rfl) (by kernel_rfl) (by rw [Tryz.ntmps44]; rfl) (c44_eq ▸ h)

/-- row.place).built -/
def c55 (a0 : Value) (a1 : Value) (R : KV) (w : World) : Prop :=
  D pg (.box 74 a0) (fun x2 w =>
  D pg (.load 74 x2) (fun x6 w =>
  D pg (.call (.func (.func 40) #[] #[]) [x6, a1]) (fun x8 w =>
  Dr w fun w =>
  Fl pg (.fa 74 x2 0) w fun x9 =>
  Fl pg (.fa 30 x9 2) w fun x10 =>
  Fl pg (.load 28 x10) w fun x11 =>
  Fl pg (.ia 28 x11 x8) w fun x13 =>
  Fl pg (.load 3 x13) w fun x14 =>
  Fl pg (.fa 74 x2 1) w fun x15 =>
  Fl pg (.load 3 x15) w fun x16 =>
  Fl pg (.bin .leq 3 x14 x16) w fun x17 =>
  Cnd x17 (
   R (.pointer none) w) (
   D pg (.fa 74 x2 0) (fun x18 w =>
   D pg (.load 30 x18) (fun x19 w =>
   D pg (.call (.func (.func 39) #[] #[]) [x19, x8]) (fun x21 w =>
   R x21 w) w) w) w)) w) w) w

theorem c55_eq {a0 a1 : Value} {R : KV} {w : World} : c55 a0 a1 R w = semF pg Tryz.f55 (bodyOf Tryz.f55) [a0, a1] R w := by kernel_rfl
theorem l55 {a0 a1 : Value} {R : KV} {w : World} (h : c55 a0 a1 R w) : Calls pg 55 #[a0, a1] w (Ret R) :=
  calls_of_semF mixed Tryz.func55 (by kernel_rfl) (by kernel_rfl) (by rw [Tryz.ntmps55]; rfl) (c55_eq ▸ h)

/-- drive.Drive).Read -/
def c79 (a0 : Value) (a1 : Value) (R : KV) (w : World) : Prop :=
  D pg (.call (.func (.func 43) #[] #[]) [a0, a1]) (fun x10 w =>
  D pg (.nilck a0) (fun x12 w =>
  D pg (.fa 84 x12 1) (fun x13 w =>
  D pg (.load 81 x13) (fun x14 w =>
  D pg (.look 81 x14 a1 false) (fun x16 w =>
  D pg (.bin .neq 38 x10 (.int .i64 0)) (fun x19 w =>
  Cnd x19 (
   R (.tuple #[(.string ⟨#[]⟩), x10]) w) (
   D pg (.nilck a0) (fun x23 w =>
   D pg (.fa 84 x23 2) (fun x24 w =>
   D pg (.load 82 x24) (fun x25 w =>
   D pg (.look 82 x25 a1 false) (fun x27 w =>
   Cnd x27 (
    R (.tuple #[(.string ⟨#[]⟩), (.int .i64 41)]) w) (
    D pg (.bi .len #[80] 3 [x16]) (fun x30 w =>
    D pg (.bin .gtr 3 x30 (.int .i64 0)) (fun x31 w =>
    Cnd x31 (
     D pg (.bi .len #[80] 3 [x16]) (fun x34 w =>
     D pg (.bin .sub 3 x34 (.int .i64 1)) (fun x35 w =>
     D pg (.ia 80 x16 x35) (fun x36 w =>
     D pg (.slice 116 x36 none none none) (fun x37 w =>
     D pg (.conv 92 9 x37) (fun x38 w =>
     R (.tuple #[x38, (.int .i64 0)]) w) w) w) w) w) w) (
     D pg (.nilck a0) (fun x40 w =>
     D pg (.fa 84 x40 0) (fun x41 w =>
     D pg (.load 80 x41) (fun x42 w =>
     D pg (.ia 80 x42 a1) (fun x44 w =>
     D pg (.slice 116 x44 none none none) (fun x45 w =>
     D pg (.conv 92 9 x45) (fun x46 w =>
     R (.tuple #[x46, (.int .i64 0)]) w) w) w) w) w) w) w)) w) w)) w) w) w) w)) w) w) w) w) w) w

theorem c79_eq {a0 a1 : Value} {R : KV} {w : World} : c79 a0 a1 R w = semF pg Tryz.f79 (bodyOf Tryz.f79) [a0, a1] R w := by kernel_rfl
theorem l79 {a0 a1 : Value} {R : KV} {w : World} (h : c79 a0 a1 R w) : Calls pg 79 #[a0, a1] w (Ret R) :=
  calls_of_semF mixed Tryz.func79 (by kernel_rfl) (by kernel_rfl) (by rw [Tryz.ntmps79]; rfl) (c79_eq ▸ h)

/-- row.Lost -/
def c22 (a0 : Value) (a1 : Value) (R : KV) (w : World) : Prop :=
  D pg (.box 30 a0) (fun x2 w =>
  D pg (.load 30 x2) (fun x11 w =>
  D pg (.call (.func (.func 38) #[] #[]) [x11, a1, (.int .i64 0)]) (fun x13 w =>
  D pg (.ext x13 0) (fun x14 w =>
  D pg (.ext x13 1) (fun x15 w =>
  D pg (.alloc 74) (fun x6 w =>
  D pg (.store 74 x6 x14) (fun _ w =>
  D pg (.bin .neq 38 x15 (.int .i64 0)) (fun x17 w =>
  Cnd x17 (
   R (.tuple #[(.slice none 0 0), x15]) w) (
   D pg (.fa 30 x2 0) (fun x19 w =>
   D pg (.fa 25 x19 0) (fun x20 w =>
   D pg (.load 3 x20) (fun x21 w =>
   Lp [(.int .i64 0), (.slice none 0 0)] w (fun k2 vs1 w =>
     D pg (.bin .lss 3 (g vs1 0) x21) (fun x23 w =>
     Cnd x23 (
      Join (fun vs3 w =>
        D pg (.bin .add 3 (g vs1 0) (.int .i64 1)) (fun x33 w =>
        k2 [x33, (g vs3 0)] w) w) (fun k4 =>
        D pg (.load 74 x6) (fun x25 w =>
        D pg (.call (.func (.func 55) #[] #[]) [x25, (g vs1 0)]) (fun x27 w =>
        D pg (.bin .eql 40 x27 (.pointer none)) (fun x28 w =>
        Cnd x28 (
         D pg (.mkSl 28 1 [(0, (g vs1 0))]) (fun x31 w =>
         D pg (.bi .append #[28, 28] 28 [(g vs1 1), x31]) (fun x32 w =>
         k4 [x32] w) w) w) (
         k4 [(g vs1 1)] w)) w) w) w)) (
      R (.tuple #[(g vs1 1), (.int .i64 0)]) w)) w)) w) w) w)) w) w) w) w) w) w) w) w

theorem c22_eq {a0 a1 : Value} {R : KV} {w : World} : c22 a0 a1 R w = semF pg Tryz.f22 (bodyOf Tryz.f22) [a0, a1] R w := by kernel_rfl
theorem l22 {a0 a1 : Value} {R : KV} {w : World} (h : c22 a0 a1 R w) : Calls pg 22 #[a0, a1] w (Ret R) :=
  calls_of_semF mixed Tryz.func22 (by kernel_rfl) (by kernel_rfl) (by rw [Tryz.ntmps22]; rfl) (c22_eq ▸ h)

/-- row.Flush -/
def c19 (a0 : Value) (R : KV) (w : World) : Prop :=
  D pg (.box 30 a0) (fun x1 w =>
  D pg (.load 30 x1) (fun x6 w =>
  D pg (.call (.func (.func 21) #[] #[]) [x6]) (fun x7 w =>
  D pg (.un .not x7) (fun x8 w =>
  Cnd x8 (
   R (.int .i64 1) w) (
   D pg (.fa 30 x1 1) (fun x9 w =>
   D pg (.load 27 x9) (fun x10 w =>
   D pg (.bi .len #[27] 3 [x10]) (fun x11 w =>
   Lp [(.int .i64 0), (.bool false)] w (fun k2 vs1 w =>
     D pg (.bin .lss 3 (g vs1 0) x11) (fun x13 w =>
     Cnd x13 (
      Join (fun vs3 w =>
        D pg (.bin .add 3 (g vs1 0) (.int .i64 1)) (fun x25 w =>
        k2 [x25, (g vs3 0)] w) w) (fun k4 =>
        D pg (.load 30 x1) (fun x15 w =>
        D pg (.call (.func (.func 39) #[] #[]) [x15, (g vs1 0)]) (fun x17 w =>
        D pg (.bin .neq 40 x17 (.pointer none)) (fun x19 w =>
        GM x19 true x17 fun x21 =>
        GD pg x19 true (.call (.func (.func 47) #[] #[]) [x21]) (fun x22 w =>
        GD pg x19 true (.bin .eql 38 x22 (.int .i64 42)) (fun x23 w =>
        D pg (.pick x19 x23 (.bool false)) (fun x24 w =>
        Cnd x24 (
         k4 [(.bool true)] w) (
         k4 [(g vs1 1)] w)) w) w) w) w) w) w)) (
      Cnd (g vs1 1) (
       R (.int .i64 42) w) (
       R (.int .i64 0) w))) w)) w) w) w)) w) w) w) w

theorem c19_eq {a0 : Value} {R : KV} {w : World} : c19 a0 R w = semF pg Tryz.f19 (bodyOf Tryz.f19) [a0] R w := by kernel_rfl
instance : Fo pg 47 := fo_of (by kernel_rfl)
theorem l19 {a0 : Value} {R : KV} {w : World} (h : c19 a0 R w) : Calls pg 19 #[a0] w (Ret R) :=
  calls_of_semF mixed Tryz.func19 (by kernel_rfl) (by kernel_rfl) (by rw [Tryz.ntmps19]; rfl) (c19_eq ▸ h)
end Go.Proofs.YteemoolcphhkbaaGreat
