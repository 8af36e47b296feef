/- PRINTED by gen_settle.py. daybookkeep: Intact and Settle, given what each step over one type's pages does. -/
import Derived.Test.YtdgpnpagbhikoaaGreatDoorBookS
import Derived.Lib.Hide
namespace Go.Proofs.YtdgpnpagbhikoaaGreatDoor.Kit
open Go Go.RowKit

/-- One step over a type's pages turns R into R'. -/
def StepB (f g : Nat) (R R' : World → Prop) : Prop := ∀ w, R w → Calls Tryz.prog f #[.pointer (some ⟨g, 0, none⟩)] w fun e w' => e = .returned (.tuple #[]) ∧ R' w'
def LookB (f g : Nat) (R : World → Prop) : Prop := ∀ w, R w → Calls Tryz.prog f #[.pointer (some ⟨g, 0, none⟩)] w fun e w' => e = .returned (.bool true) ∧ R w'
def LooksB (g : Nat) (R : World → Prop) : Prop := LookB 129 g R ∧ LookB 130 g R ∧ LookB 131 g R ∧ LookB 132 g R ∧ LookB 133 g R ∧ LookB 134 g R ∧ LookB 135 g R ∧ LookB 136 g R ∧ LookB 137 g R ∧ LookB 138 g R ∧ LookB 139 g R ∧ LookB 140 g R ∧ LookB 141 g R ∧ LookB 142 g R ∧ LookB 143 g R ∧ LookB 144 g R ∧ LookB 145 g R ∧ LookB 146 g R ∧ LookB 147 g R ∧ LookB 148 g R

set_option maxHeartbeats 2000000 in
theorem Intact_calls (g : Nat) (R : World → Prop) (hR : LooksB g R) : LookB 38 g R := by
  intro w h
  have HR := Lib.hid hR
  have H0 := Lib.hid h
  clear hR h
  go_enter Tryz.func38, Tryz.ntmps38
  go_wp2_with fail
  refine (HR.out.1 w H0.out).mono ?_
  rintro e w1 ⟨rfl, h⟩
  have H1 := Lib.hid h
  clear h H0
  go_wp2_with fail
  refine (HR.out.2.1 w1 H1.out).mono ?_
  rintro e w2 ⟨rfl, h⟩
  have H2 := Lib.hid h
  clear h H1
  go_wp2_with fail
  refine (HR.out.2.2.1 w2 H2.out).mono ?_
  rintro e w3 ⟨rfl, h⟩
  have H3 := Lib.hid h
  clear h H2
  go_wp2_with fail
  refine (HR.out.2.2.2.1 w3 H3.out).mono ?_
  rintro e w4 ⟨rfl, h⟩
  have H4 := Lib.hid h
  clear h H3
  go_wp2_with fail
  refine (HR.out.2.2.2.2.1 w4 H4.out).mono ?_
  rintro e w5 ⟨rfl, h⟩
  have H5 := Lib.hid h
  clear h H4
  go_wp2_with fail
  refine (HR.out.2.2.2.2.2.1 w5 H5.out).mono ?_
  rintro e w6 ⟨rfl, h⟩
  have H6 := Lib.hid h
  clear h H5
  go_wp2_with fail
  refine (HR.out.2.2.2.2.2.2.1 w6 H6.out).mono ?_
  rintro e w7 ⟨rfl, h⟩
  have H7 := Lib.hid h
  clear h H6
  go_wp2_with fail
  refine (HR.out.2.2.2.2.2.2.2.1 w7 H7.out).mono ?_
  rintro e w8 ⟨rfl, h⟩
  have H8 := Lib.hid h
  clear h H7
  go_wp2_with fail
  refine (HR.out.2.2.2.2.2.2.2.2.1 w8 H8.out).mono ?_
  rintro e w9 ⟨rfl, h⟩
  have H9 := Lib.hid h
  clear h H8
  go_wp2_with fail
  refine (HR.out.2.2.2.2.2.2.2.2.2.1 w9 H9.out).mono ?_
  rintro e w10 ⟨rfl, h⟩
  have H10 := Lib.hid h
  clear h H9
  go_wp2_with fail
  refine (HR.out.2.2.2.2.2.2.2.2.2.2.1 w10 H10.out).mono ?_
  rintro e w11 ⟨rfl, h⟩
  have H11 := Lib.hid h
  clear h H10
  go_wp2_with fail
  refine (HR.out.2.2.2.2.2.2.2.2.2.2.2.1 w11 H11.out).mono ?_
  rintro e w12 ⟨rfl, h⟩
  have H12 := Lib.hid h
  clear h H11
  go_wp2_with fail
  refine (HR.out.2.2.2.2.2.2.2.2.2.2.2.2.1 w12 H12.out).mono ?_
  rintro e w13 ⟨rfl, h⟩
  have H13 := Lib.hid h
  clear h H12
  go_wp2_with fail
  refine (HR.out.2.2.2.2.2.2.2.2.2.2.2.2.2.1 w13 H13.out).mono ?_
  rintro e w14 ⟨rfl, h⟩
  have H14 := Lib.hid h
  clear h H13
  go_wp2_with fail
  refine (HR.out.2.2.2.2.2.2.2.2.2.2.2.2.2.2.1 w14 H14.out).mono ?_
  rintro e w15 ⟨rfl, h⟩
  have H15 := Lib.hid h
  clear h H14
  go_wp2_with fail
  refine (HR.out.2.2.2.2.2.2.2.2.2.2.2.2.2.2.2.1 w15 H15.out).mono ?_
  rintro e w16 ⟨rfl, h⟩
  have H16 := Lib.hid h
  clear h H15
  go_wp2_with fail
  refine (HR.out.2.2.2.2.2.2.2.2.2.2.2.2.2.2.2.2.1 w16 H16.out).mono ?_
  rintro e w17 ⟨rfl, h⟩
  have H17 := Lib.hid h
  clear h H16
  go_wp2_with fail
  refine (HR.out.2.2.2.2.2.2.2.2.2.2.2.2.2.2.2.2.2.1 w17 H17.out).mono ?_
  rintro e w18 ⟨rfl, h⟩
  have H18 := Lib.hid h
  clear h H17
  go_wp2_with fail
  refine (HR.out.2.2.2.2.2.2.2.2.2.2.2.2.2.2.2.2.2.2.1 w18 H18.out).mono ?_
  rintro e w19 ⟨rfl, h⟩
  have H19 := Lib.hid h
  clear h H18
  go_wp2_with fail
  refine (HR.out.2.2.2.2.2.2.2.2.2.2.2.2.2.2.2.2.2.2.2 w19 H19.out).mono ?_
  rintro e w20 ⟨rfl, h⟩
  have H20 := Lib.hid h
  clear h H19
  go_wp2_with fail
  go_ret
  exact ⟨rfl, H20.out⟩

def FillsB (g : Nat) (R : Nat → World → Prop) : Prop := StepB 39 g (R 0) (R 1) ∧ StepB 40 g (R 1) (R 2) ∧ StepB 41 g (R 2) (R 3) ∧ StepB 42 g (R 3) (R 4) ∧ StepB 43 g (R 4) (R 5) ∧ StepB 44 g (R 5) (R 6) ∧ StepB 45 g (R 6) (R 7) ∧ StepB 46 g (R 7) (R 8) ∧ StepB 47 g (R 8) (R 9) ∧ StepB 48 g (R 9) (R 10) ∧ StepB 49 g (R 10) (R 11) ∧ StepB 50 g (R 11) (R 12) ∧ StepB 51 g (R 12) (R 13) ∧ StepB 52 g (R 13) (R 14) ∧ StepB 53 g (R 14) (R 15) ∧ StepB 54 g (R 15) (R 16) ∧ StepB 55 g (R 16) (R 17) ∧ StepB 56 g (R 17) (R 18) ∧ StepB 57 g (R 18) (R 19) ∧ StepB 58 g (R 19) (R 20)
def GrowsB (g : Nat) (R : Nat → World → Prop) : Prop := StepB 59 g (R 20) (R 21) ∧ StepB 60 g (R 21) (R 22) ∧ StepB 61 g (R 22) (R 23) ∧ StepB 62 g (R 23) (R 24) ∧ StepB 63 g (R 24) (R 25) ∧ StepB 64 g (R 25) (R 26) ∧ StepB 65 g (R 26) (R 27) ∧ StepB 66 g (R 27) (R 28) ∧ StepB 67 g (R 28) (R 29) ∧ StepB 68 g (R 29) (R 30) ∧ StepB 69 g (R 30) (R 31) ∧ StepB 70 g (R 31) (R 32) ∧ StepB 71 g (R 32) (R 33) ∧ StepB 72 g (R 33) (R 34) ∧ StepB 73 g (R 34) (R 35) ∧ StepB 74 g (R 35) (R 36) ∧ StepB 75 g (R 36) (R 37) ∧ StepB 76 g (R 37) (R 38) ∧ StepB 77 g (R 38) (R 39) ∧ StepB 78 g (R 39) (R 40)
set_option maxHeartbeats 4000000 in
theorem Settle_calls (g : Nat) (R : Nat → World → Prop) (h1 : LooksB g (R 0)) (h2 : FillsB g R) (h3 : GrowsB g R) (h4 : LooksB g (R 40)) (w : World) (h : R 0 w) :
    Calls Tryz.prog 13 #[.pointer (some ⟨g, 0, none⟩)] w fun e w' => e = .returned (.bool true) ∧ R 40 w' := by
  have HR := Lib.hid (And.intro h1 (And.intro h2 (And.intro h3 h4)))
  have H := Lib.hid h
  clear h1 h2 h3 h4 h
  go_enter Tryz.func13, Tryz.ntmps13
  go_wp2_with fail
  refine (Intact_calls g (R 0) HR.out.1 w H.out).mono ?_
  rintro e w0 ⟨rfl, h⟩
  have H0 := Lib.hid h
  clear h H
  go_wp2_with fail
  refine (HR.out.2.1.1 w0 H0.out).mono ?_
  rintro e w1 ⟨rfl, h⟩
  have H1 := Lib.hid h
  clear h H0
  go_wp2_with fail
  refine (HR.out.2.1.2.1 w1 H1.out).mono ?_
  rintro e w2 ⟨rfl, h⟩
  have H2 := Lib.hid h
  clear h H1
  go_wp2_with fail
  refine (HR.out.2.1.2.2.1 w2 H2.out).mono ?_
  rintro e w3 ⟨rfl, h⟩
  have H3 := Lib.hid h
  clear h H2
  go_wp2_with fail
  refine (HR.out.2.1.2.2.2.1 w3 H3.out).mono ?_
  rintro e w4 ⟨rfl, h⟩
  have H4 := Lib.hid h
  clear h H3
  go_wp2_with fail
  refine (HR.out.2.1.2.2.2.2.1 w4 H4.out).mono ?_
  rintro e w5 ⟨rfl, h⟩
  have H5 := Lib.hid h
  clear h H4
  go_wp2_with fail
  refine (HR.out.2.1.2.2.2.2.2.1 w5 H5.out).mono ?_
  rintro e w6 ⟨rfl, h⟩
  have H6 := Lib.hid h
  clear h H5
  go_wp2_with fail
  refine (HR.out.2.1.2.2.2.2.2.2.1 w6 H6.out).mono ?_
  rintro e w7 ⟨rfl, h⟩
  have H7 := Lib.hid h
  clear h H6
  go_wp2_with fail
  refine (HR.out.2.1.2.2.2.2.2.2.2.1 w7 H7.out).mono ?_
  rintro e w8 ⟨rfl, h⟩
  have H8 := Lib.hid h
  clear h H7
  go_wp2_with fail
  refine (HR.out.2.1.2.2.2.2.2.2.2.2.1 w8 H8.out).mono ?_
  rintro e w9 ⟨rfl, h⟩
  have H9 := Lib.hid h
  clear h H8
  go_wp2_with fail
  refine (HR.out.2.1.2.2.2.2.2.2.2.2.2.1 w9 H9.out).mono ?_
  rintro e w10 ⟨rfl, h⟩
  have H10 := Lib.hid h
  clear h H9
  go_wp2_with fail
  refine (HR.out.2.1.2.2.2.2.2.2.2.2.2.2.1 w10 H10.out).mono ?_
  rintro e w11 ⟨rfl, h⟩
  have H11 := Lib.hid h
  clear h H10
  go_wp2_with fail
  refine (HR.out.2.1.2.2.2.2.2.2.2.2.2.2.2.1 w11 H11.out).mono ?_
  rintro e w12 ⟨rfl, h⟩
  have H12 := Lib.hid h
  clear h H11
  go_wp2_with fail
  refine (HR.out.2.1.2.2.2.2.2.2.2.2.2.2.2.2.1 w12 H12.out).mono ?_
  rintro e w13 ⟨rfl, h⟩
  have H13 := Lib.hid h
  clear h H12
  go_wp2_with fail
  refine (HR.out.2.1.2.2.2.2.2.2.2.2.2.2.2.2.2.1 w13 H13.out).mono ?_
  rintro e w14 ⟨rfl, h⟩
  have H14 := Lib.hid h
  clear h H13
  go_wp2_with fail
  refine (HR.out.2.1.2.2.2.2.2.2.2.2.2.2.2.2.2.2.1 w14 H14.out).mono ?_
  rintro e w15 ⟨rfl, h⟩
  have H15 := Lib.hid h
  clear h H14
  go_wp2_with fail
  refine (HR.out.2.1.2.2.2.2.2.2.2.2.2.2.2.2.2.2.2.1 w15 H15.out).mono ?_
  rintro e w16 ⟨rfl, h⟩
  have H16 := Lib.hid h
  clear h H15
  go_wp2_with fail
  refine (HR.out.2.1.2.2.2.2.2.2.2.2.2.2.2.2.2.2.2.2.1 w16 H16.out).mono ?_
  rintro e w17 ⟨rfl, h⟩
  have H17 := Lib.hid h
  clear h H16
  go_wp2_with fail
  refine (HR.out.2.1.2.2.2.2.2.2.2.2.2.2.2.2.2.2.2.2.2.1 w17 H17.out).mono ?_
  rintro e w18 ⟨rfl, h⟩
  have H18 := Lib.hid h
  clear h H17
  go_wp2_with fail
  refine (HR.out.2.1.2.2.2.2.2.2.2.2.2.2.2.2.2.2.2.2.2.2.1 w18 H18.out).mono ?_
  rintro e w19 ⟨rfl, h⟩
  have H19 := Lib.hid h
  clear h H18
  go_wp2_with fail
  refine (HR.out.2.1.2.2.2.2.2.2.2.2.2.2.2.2.2.2.2.2.2.2.2 w19 H19.out).mono ?_
  rintro e w20 ⟨rfl, h⟩
  have H20 := Lib.hid h
  clear h H19
  go_wp2_with fail
  refine (HR.out.2.2.1.1 w20 H20.out).mono ?_
  rintro e w21 ⟨rfl, h⟩
  have H21 := Lib.hid h
  clear h H20
  go_wp2_with fail
  refine (HR.out.2.2.1.2.1 w21 H21.out).mono ?_
  rintro e w22 ⟨rfl, h⟩
  have H22 := Lib.hid h
  clear h H21
  go_wp2_with fail
  refine (HR.out.2.2.1.2.2.1 w22 H22.out).mono ?_
  rintro e w23 ⟨rfl, h⟩
  have H23 := Lib.hid h
  clear h H22
  go_wp2_with fail
  refine (HR.out.2.2.1.2.2.2.1 w23 H23.out).mono ?_
  rintro e w24 ⟨rfl, h⟩
  have H24 := Lib.hid h
  clear h H23
  go_wp2_with fail
  refine (HR.out.2.2.1.2.2.2.2.1 w24 H24.out).mono ?_
  rintro e w25 ⟨rfl, h⟩
  have H25 := Lib.hid h
  clear h H24
  go_wp2_with fail
  refine (HR.out.2.2.1.2.2.2.2.2.1 w25 H25.out).mono ?_
  rintro e w26 ⟨rfl, h⟩
  have H26 := Lib.hid h
  clear h H25
  go_wp2_with fail
  refine (HR.out.2.2.1.2.2.2.2.2.2.1 w26 H26.out).mono ?_
  rintro e w27 ⟨rfl, h⟩
  have H27 := Lib.hid h
  clear h H26
  go_wp2_with fail
  refine (HR.out.2.2.1.2.2.2.2.2.2.2.1 w27 H27.out).mono ?_
  rintro e w28 ⟨rfl, h⟩
  have H28 := Lib.hid h
  clear h H27
  go_wp2_with fail
  refine (HR.out.2.2.1.2.2.2.2.2.2.2.2.1 w28 H28.out).mono ?_
  rintro e w29 ⟨rfl, h⟩
  have H29 := Lib.hid h
  clear h H28
  go_wp2_with fail
  refine (HR.out.2.2.1.2.2.2.2.2.2.2.2.2.1 w29 H29.out).mono ?_
  rintro e w30 ⟨rfl, h⟩
  have H30 := Lib.hid h
  clear h H29
  go_wp2_with fail
  refine (HR.out.2.2.1.2.2.2.2.2.2.2.2.2.2.1 w30 H30.out).mono ?_
  rintro e w31 ⟨rfl, h⟩
  have H31 := Lib.hid h
  clear h H30
  go_wp2_with fail
  refine (HR.out.2.2.1.2.2.2.2.2.2.2.2.2.2.2.1 w31 H31.out).mono ?_
  rintro e w32 ⟨rfl, h⟩
  have H32 := Lib.hid h
  clear h H31
  go_wp2_with fail
  refine (HR.out.2.2.1.2.2.2.2.2.2.2.2.2.2.2.2.1 w32 H32.out).mono ?_
  rintro e w33 ⟨rfl, h⟩
  have H33 := Lib.hid h
  clear h H32
  go_wp2_with fail
  refine (HR.out.2.2.1.2.2.2.2.2.2.2.2.2.2.2.2.2.1 w33 H33.out).mono ?_
  rintro e w34 ⟨rfl, h⟩
  have H34 := Lib.hid h
  clear h H33
  go_wp2_with fail
  refine (HR.out.2.2.1.2.2.2.2.2.2.2.2.2.2.2.2.2.2.1 w34 H34.out).mono ?_
  rintro e w35 ⟨rfl, h⟩
  have H35 := Lib.hid h
  clear h H34
  go_wp2_with fail
  refine (HR.out.2.2.1.2.2.2.2.2.2.2.2.2.2.2.2.2.2.2.1 w35 H35.out).mono ?_
  rintro e w36 ⟨rfl, h⟩
  have H36 := Lib.hid h
  clear h H35
  go_wp2_with fail
  refine (HR.out.2.2.1.2.2.2.2.2.2.2.2.2.2.2.2.2.2.2.2.1 w36 H36.out).mono ?_
  rintro e w37 ⟨rfl, h⟩
  have H37 := Lib.hid h
  clear h H36
  go_wp2_with fail
  refine (HR.out.2.2.1.2.2.2.2.2.2.2.2.2.2.2.2.2.2.2.2.2.1 w37 H37.out).mono ?_
  rintro e w38 ⟨rfl, h⟩
  have H38 := Lib.hid h
  clear h H37
  go_wp2_with fail
  refine (HR.out.2.2.1.2.2.2.2.2.2.2.2.2.2.2.2.2.2.2.2.2.2.1 w38 H38.out).mono ?_
  rintro e w39 ⟨rfl, h⟩
  have H39 := Lib.hid h
  clear h H38
  go_wp2_with fail
  refine (HR.out.2.2.1.2.2.2.2.2.2.2.2.2.2.2.2.2.2.2.2.2.2.2 w39 H39.out).mono ?_
  rintro e w40 ⟨rfl, h⟩
  have H40 := Lib.hid h
  clear h H39
  go_wp2_with fail
  refine (Intact_calls g (R 40) HR.out.2.2.2 w40 H40.out).mono ?_
  rintro e w41 ⟨rfl, h⟩
  have H41 := Lib.hid h
  clear h H40
  go_wp2_with fail
  go_ret
  exact ⟨rfl, H41.out⟩
end Go.Proofs.YtdgpnpagbhikoaaGreatDoor.Kit
