/-
  Texts of the proof, part 29: the machine, contracts of functions, plain laws. (Own work.)
-/
import Derived.Test.YteefbiehcfmoeaaGreatDoorG23DalangParses

namespace Go.Vm
open Go.Proofs
theorem kr34 : topB kD 12 ([(.lit (.string ⟨#[110, 105, 103, 104, 116]⟩))]) (.tup [(.agg [n' 0, nilS]), n' 4]) = true := by kernel_rfl
theorem kr35 : topB kD 87 ([(.lit (.string ⟨#[110, 105, 103, 104, 116]⟩))]) (.agg [n' 1, nilS]) = true := by kernel_rfl
theorem kr36 : topB kD 12 ([(.lit (.string ⟨#[112, 114, 111, 103, 114, 97, 109, 109, 101]⟩))]) (.tup [(.agg [n' 0, nilS]), n' 4]) = true := by kernel_rfl
theorem kr37 : topB kD 87 ([(.lit (.string ⟨#[112, 114, 111, 103, 114, 97, 109, 109, 101]⟩))]) (.agg [n' 2, nilS]) = true := by kernel_rfl
theorem kr38 : topB kD 12 ([(.lit (.string ⟨#[98, 101, 103, 105, 110, 32, 51, 48]⟩))]) (.tup [(.agg [n' 2, (lu [30])]), n' 0]) = true := by kernel_rfl
theorem kr39 : topB kD 12 ([(.lit (.string ⟨#[101, 110, 100, 115]⟩))]) (.tup [(.agg [n' 0, nilS]), n' 4]) = true := by kernel_rfl
theorem kr40 : topB kD 87 ([(.lit (.string ⟨#[101, 110, 100, 115]⟩))]) (.agg [n' 3, nilS]) = true := by kernel_rfl
theorem kr41 : topB kD 12 ([(.lit (.string ⟨#[98, 101, 103, 105, 110, 32, 51, 49]⟩))]) (.tup [(.agg [n' 2, (lu [31])]), n' 0]) = true := by kernel_rfl
theorem kr42 : topB kD 12 ([(.lit (.string ⟨#[117, 110, 100, 111]⟩))]) (.tup [(.agg [n' 11, nilS]), n' 0]) = true := by kernel_rfl
theorem kr43 : topB kD 12 ([(.lit (.string ⟨#[114, 101, 109, 97, 105, 110, 115]⟩))]) (.tup [(.agg [n' 0, nilS]), n' 4]) = true := by kernel_rfl
theorem kr44 : topB kD 87 ([(.lit (.string ⟨#[114, 101, 109, 97, 105, 110, 115]⟩))]) (.agg [n' 4, nilS]) = true := by kernel_rfl
theorem kr45 : topB kD 12 ([(.lit (.string ⟨#[97, 115, 107]⟩))]) (.tup [(.agg [n' 0, nilS]), n' 4]) = true := by kernel_rfl
theorem kr46 : topB kD 87 ([(.lit (.string ⟨#[97, 115, 107]⟩))]) (.agg [n' 5, nilS]) = true := by kernel_rfl
theorem kr47 : topB kD 12 ([(.lit (.string ⟨#[99, 117, 101, 32, 48, 32, 48]⟩))]) (.tup [(.agg [n' 3, (lu [0, 0])]), n' 0]) = true := by kernel_rfl
theorem kr48 : topB kD 12 ([(.lit (.string ⟨#[110, 101, 118, 101, 114, 32, 50]⟩))]) (.tup [(.agg [n' 0, nilS]), n' 4]) = true := by kernel_rfl
theorem kr49 : topB kD 87 ([(.lit (.string ⟨#[110, 101, 118, 101, 114, 32, 50]⟩))]) (.agg [n' 6, (lu [2])]) = true := by kernel_rfl
theorem kr50 : topB kD 12 ([(.lit (.string ⟨#[99, 117, 101, 32, 48, 32, 49]⟩))]) (.tup [(.agg [n' 3, (lu [0, 1])]), n' 0]) = true := by kernel_rfl
theorem kr51 : topB kD 12 ([(.lit (.string ⟨#[107, 110, 111, 99, 107, 32, 49]⟩))]) (.tup [(.agg [n' 4, (lu [1])]), n' 0]) = true := by kernel_rfl
theorem kr52 : topB kD 12 ([(.lit (.string ⟨#[99, 117, 101, 32, 48, 32, 50]⟩))]) (.tup [(.agg [n' 3, (lu [0, 2])]), n' 0]) = true := by kernel_rfl
theorem kr53 : topB kD 12 ([(.lit (.string ⟨#[98, 101, 115, 116]⟩))]) (.tup [(.agg [n' 0, nilS]), n' 4]) = true := by kernel_rfl
theorem kr54 : topB kD 87 ([(.lit (.string ⟨#[98, 101, 115, 116]⟩))]) (.agg [n' 12, nilS]) = true := by kernel_rfl
theorem kr55 : topB kD 12 ([(.lit (.string ⟨#[114, 101, 115, 116]⟩))]) (.tup [(.agg [n' 5, nilS]), n' 0]) = true := by kernel_rfl
theorem kr56 : topB kD 12 ([(.lit (.string ⟨#[112, 108, 97, 121, 32, 48]⟩))]) (.tup [(.agg [n' 6, (lu [0])]), n' 0]) = true := by kernel_rfl
theorem kr57 : topB kD 12 ([(.lit (.string ⟨#[108, 101, 110, 100, 32, 50]⟩))]) (.tup [(.agg [n' 7, (lu [2])]), n' 0]) = true := by kernel_rfl
theorem kr58 : topB kD 12 ([(.lit (.string ⟨#[104, 111, 109, 101]⟩))]) (.tup [(.agg [n' 0, nilS]), n' 4]) = true := by kernel_rfl
theorem kr59 : topB kD 87 ([(.lit (.string ⟨#[104, 111, 109, 101]⟩))]) (.agg [n' 7, nilS]) = true := by kernel_rfl
theorem kr60 : topB kD 12 ([(.lit (.string ⟨#[112, 108, 97, 121, 32, 49]⟩))]) (.tup [(.agg [n' 6, (lu [1])]), n' 0]) = true := by kernel_rfl
theorem kr61 : topB kD 12 ([(.lit (.string ⟨#[99, 97, 110, 32, 49]⟩))]) (.tup [(.agg [n' 0, nilS]), n' 4]) = true := by kernel_rfl
theorem kr62 : topB kD 87 ([(.lit (.string ⟨#[99, 97, 110, 32, 49]⟩))]) (.agg [n' 9, (lu [1])]) = true := by kernel_rfl
theorem kr63 : topB kD 12 ([(.lit (.string ⟨#[102, 105, 114, 115, 116, 32, 49]⟩))]) (.tup [(.agg [n' 0, nilS]), n' 4]) = true := by kernel_rfl
theorem kr64 : topB kD 87 ([(.lit (.string ⟨#[102, 105, 114, 115, 116, 32, 49]⟩))]) (.agg [n' 10, (lu [1])]) = true := by kernel_rfl
theorem kr65 : topB kD 12 ([(.lit (.string ⟨#[98, 97, 99, 107, 32, 50, 32, 49, 51, 48, 32, 49, 48, 48]⟩))]) (.tup [(.agg [n' 8, (lu [2, 130, 100])]), n' 0]) = true := by kernel_rfl
theorem kr66 : topB kD 12 ([(.lit (.string ⟨#[98, 97, 99, 107, 32, 50, 32, 49, 51, 57, 32, 49, 48, 48]⟩))]) (.tup [(.agg [n' 8, (lu [2, 139, 100])]), n' 0]) = true := by kernel_rfl
theorem kr67 : topB kD 12 ([(.lit (.string ⟨#[112, 97, 99, 107, 32, 48, 32, 48, 32, 49, 32, 49, 32, 50]⟩))]) (.tup [(.agg [n' 9, (lu [0, 0, 1, 1, 2])]), n' 0]) = true := by kernel_rfl
theorem kr68 : topB kD 12 ([(.lit (.string ⟨#[112, 97, 99, 107, 32, 48, 32, 48, 32, 49, 32, 48, 32, 50]⟩))]) (.tup [(.agg [n' 9, (lu [0, 0, 1, 0, 2])]), n' 0]) = true := by kernel_rfl
theorem kr69 : topB kD 12 ([(.lit (.string ⟨#[111, 117, 116, 32, 50]⟩))]) (.tup [(.agg [n' 0, nilS]), n' 4]) = true := by kernel_rfl
theorem kr70 : topB kD 87 ([(.lit (.string ⟨#[111, 117, 116, 32, 50]⟩))]) (.agg [n' 11, (lu [2])]) = true := by kernel_rfl
theorem kr71 : topB kD 12 ([(.lit (.string ⟨#[117, 110, 112, 97, 99, 107]⟩))]) (.tup [(.agg [n' 10, nilS]), n' 0]) = true := by kernel_rfl
theorem kr72 : topB kD 12 ([(.lit (.string ⟨#[119, 97, 105, 116, 32, 49, 48, 48]⟩))]) (.tup [(.agg [n' 1, (lu [100])]), n' 0]) = true := by kernel_rfl
theorem kr73 : topB kD 12 ([(.lit (.string ⟨#[119, 97, 105, 116, 32, 49]⟩))]) (.tup [(.agg [n' 1, (lu [1])]), n' 0]) = true := by kernel_rfl
theorem kr74 : topB kD 12 ([(.lit (.string ⟨#[112, 108, 97, 121, 101, 100]⟩))]) (.tup [(.agg [n' 0, nilS]), n' 4]) = true := by kernel_rfl
theorem kr75 : topB kD 87 ([(.lit (.string ⟨#[112, 108, 97, 121, 101, 100]⟩))]) (.agg [n' 8, nilS]) = true := by kernel_rfl
theorem kr76 : topB kD 12 ([(.lit (.string ⟨#[115, 116, 97, 110, 100, 115]⟩))]) (.tup [(.agg [n' 0, nilS]), n' 4]) = true := by kernel_rfl
theorem kr77 : topB kD 87 ([(.lit (.string ⟨#[115, 116, 97, 110, 100, 115]⟩))]) (.agg [n' 13, nilS]) = true := by kernel_rfl
end Go.Vm
