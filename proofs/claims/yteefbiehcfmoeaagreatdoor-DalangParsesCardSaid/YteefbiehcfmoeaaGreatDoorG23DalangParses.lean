/-
  Texts of the proof, part 23: the machine, contracts of functions, plain laws. (Own work.)
-/
import Derived.Test.YteefbiehcfmoeaaGreatDoorG22DalangParses
import Derived.Test.YteefbiehcfmoeaaGreatDoorG13DalangParses
import Derived.Test.YteefbiehcfmoeaaGreatDoorG14DalangParses

namespace Go.Vm
open Go.Proofs
def kv0 : AV := (.sl 4 [(.sl 2 [(.sl 2 [n' 1, n' 0, n' 0, n' 1] .unk), (.sl 2 [n' 0, n' 2, n' 1, n' 1] .unk)] .unk), (.sl 2 [(.sl 2 [n' 1, n' 0, n' 0, n' 1] .unk), (.sl 2 [n' 0, n' 2, n' 0, n' 1] .unk)] .unk), (.sl 1 [(.sl 2 [n' 0, n' 0, n' 0, n' 1] .unk)] .unk), (.sl 2 [(.sl 2 [n' 0, n' 1, n' 1, n' 1] .unk), (.sl 2 [n' 1, n' 0, n' 1, n' 1] .unk)] .unk)] .unk)
def kv2 : AV := (.agg [n' 0, n' 60, n' 70, n' 120, n' 130, n' 180, n' 200, (.sl 5 [n' 0, n' 40, n' 50, (.lit (.bool false)), n' (-1), n' 0, n' 20, n' 30, (.lit (.bool true)), n' (-1), n' 1, n' 50, n' 60, (.lit (.bool false)), n' (-1), n' 1, n' 30, n' 40, (.lit (.bool true)), n' 1, n' 2, n' 55, n' 70, (.lit (.bool false)), n' (-1)] .full), n' 2, n' 3, (.sl 4 [(.sl 2 [(.sl 2 [n' 1, n' 0, n' 0, n' 1] .unk), (.sl 2 [n' 0, n' 2, n' 1, n' 1] .unk)] .full), (.sl 2 [(.sl 2 [n' 1, n' 0, n' 0, n' 1] .unk), (.sl 2 [n' 0, n' 2, n' 0, n' 1] .unk)] .full), (.sl 1 [(.sl 2 [n' 0, n' 0, n' 0, n' 1] .unk)] .full), (.sl 2 [(.sl 2 [n' 0, n' 1, n' 1, n' 1] .unk), (.sl 2 [n' 1, n' 0, n' 1, n' 1] .unk)] .full)] .full), n' 2, (.sl 4 [n' 5, n' 2, n' 1, n' 4] .full), (.sl 5 [n' 1, n' 5, n' 1, n' 1, n' 3, n' 1, n' 2, n' 4, n' 1, n' 3, n' 6, n' 2, n' 3, n' 2, n' 1] .full), (.sl 4 [(.sl 1 [n' 2] .full), (.sl 2 [n' 0, n' 1] .full), n' 1, nilS, (.sl 1 [n' 0] .full), (.sl 3 [n' 1, n' 2, n' 4] .full), n' 2, nilS, (.sl 1 [n' 3] .full), (.sl 4 [n' 0, n' 1, n' 2, n' 4] .full), n' 1, nilS, nilS, (.sl 1 [n' 2] .full), n' 0, (.sl 1 [n' 3] .full)] .full), (.sl 2 [n' 1, n' 2] .full), (.sl 5 [(.sl 2 [n' 100, n' 100] .full), (.sl 2 [n' 120, n' 100] .full), (.sl 2 [n' 140, n' 100] .full), (.sl 2 [n' 160, n' 100] .full), (.sl 2 [n' 180, n' 100] .full)] .full), n' 990, n' 1010, n' 990, n' 1010, n' 1, n' 0, n' 10, n' 3, (.sl 5 [n' 4, n' 3, n' 0, n' 3, n' 2, n' 0, n' 5, n' 2, n' 1, n' 2, n' 3, n' 1, n' 6, n' 1, n' 2] .full)])
def kv3 : AV := (.sl 5 [n' 0, n' 40, n' 50, (.lit (.bool false)), n' (-1), n' 0, n' 20, n' 30, (.lit (.bool true)), n' (-1), n' 1, n' 50, n' 60, (.lit (.bool false)), n' (-1), n' 1, n' 30, n' 40, (.lit (.bool true)), n' 1, n' 2, n' 55, n' 70, (.lit (.bool false)), n' (-1)] .unk)
def kv1 : AV := (.agg [n' 0, n' 60, n' 70, n' 120, n' 130, n' 180, n' 200, kv3, n' 2, n' 3, kv0, n' 2, (lu [5, 2, 1, 4]), (.sl 5 [n' 1, n' 5, n' 1, n' 1, n' 3, n' 1, n' 2, n' 4, n' 1, n' 3, n' 6, n' 2, n' 3, n' 2, n' 1] .unk), (.sl 4 [(lu [2]), (lu [0, 1]), n' 1, nilS, (lu [0]), (lu [1, 2, 4]), n' 2, nilS, (lu [3]), (lu [0, 1, 2, 4]), n' 1, nilS, nilS, (lu [2]), n' 0, (lu [3])] .unk), (lu [1, 2]), (.sl 5 [(lu [100, 100]), (lu [120, 100]), (lu [140, 100]), (lu [160, 100]), (lu [180, 100])] .unk), n' 990, n' 1010, n' 990, n' 1010, n' 1, n' 0, n' 10, n' 3, (.sl 5 [n' 4, n' 3, n' 0, n' 3, n' 2, n' 0, n' 5, n' 2, n' 1, n' 2, n' 3, n' 1, n' 6, n' 1, n' 2] .unk)])
def kv4 : AV := (.agg [n' 2, (lu [5, 2, 1, 4]), (.sl 5 [n' 1, n' 5, n' 1, n' 1, n' 3, n' 1, n' 2, n' 4, n' 1, n' 3, n' 6, n' 2, n' 3, n' 2, n' 1] .unk), (.sl 4 [(lu [2]), (lu [0, 1]), n' 1, nilS, (lu [0]), (lu [1, 2, 4]), n' 2, nilS, (lu [3]), (lu [0, 1, 2, 4]), n' 1, nilS, nilS, (lu [2]), n' 0, (lu [3])] .unk)])
def kv5 : AV := (.agg [n' 10, n' 3, (.sl 5 [n' 4, n' 3, n' 0, n' 3, n' 2, n' 0, n' 5, n' 2, n' 1, n' 2, n' 3, n' 1, n' 6, n' 1, n' 2] .unk)])
def mutsD : List Nat := [123, 236, 237, 230, 231, 110, 99, 100, 102, 105, 108, 165, 166, 167, 168]
noncomputable def kD : Know := ⟨fun f => mutsD.any (Nat.beq f), fun f => Nat.beq f 124 || Nat.beq f 226, kTold0⟩
theorem kD_right : kD.Right Tryz.prog := fun _ _ h _ hc args t n => kTold0_right h hc args t n
theorem RowsRight.nil : RowsRight [] := fun r h => by cases h
theorem RowsRight.cons {K : Know} (hK : K.Right Tryz.prog) {f : FuncId} {args : List AV} {v : AV} {l : List TopRow} (h : topB K f args v = true) (hl : RowsRight l) : RowsRight (⟨f, args, v⟩ :: l) := fun r hr => by
 rcases List.mem_cons.1 hr with rfl | hr
 ·exact top_right mixed hK h
 ·exact hl r hr
noncomputable def toldK (l : List TopRow) : Know := ⟨kD.muts, kD.alone, fun f => bif l.any (fun r => Nat.beq r.f f) then some fun _ => toldRows l else kTold0 f⟩
theorem toldK_right {l : List TopRow} (hl : RowsRight l) : (toldK l).Right Tryz.prog := by
 intro f T h call hc args t n
 have h' : (bif l.any (fun r => Nat.beq r.f f) then some fun _ => toldRows l else kTold0 f) = some T := h
 cases hb : l.any (fun r => Nat.beq r.f f) with
 | true =>
  rw [hb, cond_true] at h'
  cases h'
  exact toldRows_right hl f args t n
 | false =>
  rw [hb, cond_false] at h'
  exact kTold0_right h' hc args t n
theorem kr1 : topB kD 102 ([(.sl 2 [(.sl 2 [n' 1, n' 0, n' 0, n' 1] .unk), (.sl 2 [n' 0, n' 2, n' 1, n' 1] .unk)] .full), (.lit (.func (.func 103) #[] #[]))]) (.sl 2 [(.sl 2 [n' 1, n' 0, n' 0, n' 1] .unk), (.sl 2 [n' 0, n' 2, n' 1, n' 1] .unk)] .unk) = true := by kernel_rfl
theorem kr2 : topB kD 102 ([(.sl 2 [(.sl 2 [n' 1, n' 0, n' 0, n' 1] .unk), (.sl 2 [n' 0, n' 2, n' 0, n' 1] .unk)] .full), (.lit (.func (.func 103) #[] #[]))]) (.sl 2 [(.sl 2 [n' 1, n' 0, n' 0, n' 1] .unk), (.sl 2 [n' 0, n' 2, n' 0, n' 1] .unk)] .unk) = true := by kernel_rfl
theorem kr3 : topB kD 102 ([(.sl 1 [(.sl 2 [n' 0, n' 0, n' 0, n' 1] .unk)] .full), (.lit (.func (.func 103) #[] #[]))]) (.sl 1 [(.sl 2 [n' 0, n' 0, n' 0, n' 1] .unk)] .unk) = true := by kernel_rfl
theorem kr4 : topB kD 102 ([(.sl 2 [(.sl 2 [n' 0, n' 1, n' 1, n' 1] .unk), (.sl 2 [n' 1, n' 0, n' 1, n' 1] .unk)] .full), (.lit (.func (.func 103) #[] #[]))]) (.sl 2 [(.sl 2 [n' 0, n' 1, n' 1, n' 1] .unk), (.sl 2 [n' 1, n' 0, n' 1, n' 1] .unk)] .unk) = true := by kernel_rfl
theorem kr6 : topB kD 102 ([(.sl 2 [(.sl 2 [n' 1, n' 0, n' 0, n' 1] .unk), (.sl 2 [n' 0, n' 2, n' 1, n' 1] .unk)] .unk), (.lit (.func (.func 103) #[] #[]))]) (.sl 2 [(.sl 2 [n' 1, n' 0, n' 0, n' 1] .unk), (.sl 2 [n' 0, n' 2, n' 1, n' 1] .unk)] .unk) = true := by kernel_rfl
theorem kr7 : topB kD 102 ([(.sl 2 [(.sl 2 [n' 1, n' 0, n' 0, n' 1] .unk), (.sl 2 [n' 0, n' 2, n' 0, n' 1] .unk)] .unk), (.lit (.func (.func 103) #[] #[]))]) (.sl 2 [(.sl 2 [n' 1, n' 0, n' 0, n' 1] .unk), (.sl 2 [n' 0, n' 2, n' 0, n' 1] .unk)] .unk) = true := by kernel_rfl
theorem kr8 : topB kD 102 ([(.sl 1 [(.sl 2 [n' 0, n' 0, n' 0, n' 1] .unk)] .unk), (.lit (.func (.func 103) #[] #[]))]) (.sl 1 [(.sl 2 [n' 0, n' 0, n' 0, n' 1] .unk)] .unk) = true := by kernel_rfl
theorem kr9 : topB kD 102 ([(.sl 2 [(.sl 2 [n' 0, n' 1, n' 1, n' 1] .unk), (.sl 2 [n' 1, n' 0, n' 1, n' 1] .unk)] .unk), (.lit (.func (.func 103) #[] #[]))]) (.sl 2 [(.sl 2 [n' 0, n' 1, n' 1, n' 1] .unk), (.sl 2 [n' 1, n' 0, n' 1, n' 1] .unk)] .unk) = true := by kernel_rfl
def rowsA : List TopRow := [
 ⟨102, [(.sl 2 [(.sl 2 [n' 1, n' 0, n' 0, n' 1] .unk), (.sl 2 [n' 0, n' 2, n' 1, n' 1] .unk)] .full), (.lit (.func (.func 103) #[] #[]))], (.sl 2 [(.sl 2 [n' 1, n' 0, n' 0, n' 1] .unk), (.sl 2 [n' 0, n' 2, n' 1, n' 1] .unk)] .unk)⟩,
 ⟨102, [(.sl 2 [(.sl 2 [n' 1, n' 0, n' 0, n' 1] .unk), (.sl 2 [n' 0, n' 2, n' 0, n' 1] .unk)] .full), (.lit (.func (.func 103) #[] #[]))], (.sl 2 [(.sl 2 [n' 1, n' 0, n' 0, n' 1] .unk), (.sl 2 [n' 0, n' 2, n' 0, n' 1] .unk)] .unk)⟩,
 ⟨102, [(.sl 1 [(.sl 2 [n' 0, n' 0, n' 0, n' 1] .unk)] .full), (.lit (.func (.func 103) #[] #[]))], (.sl 1 [(.sl 2 [n' 0, n' 0, n' 0, n' 1] .unk)] .unk)⟩,
 ⟨102, [(.sl 2 [(.sl 2 [n' 0, n' 1, n' 1, n' 1] .unk), (.sl 2 [n' 1, n' 0, n' 1, n' 1] .unk)] .full), (.lit (.func (.func 103) #[] #[]))], (.sl 2 [(.sl 2 [n' 0, n' 1, n' 1, n' 1] .unk), (.sl 2 [n' 1, n' 0, n' 1, n' 1] .unk)] .unk)⟩,
 ⟨102, [(.sl 2 [(.sl 2 [n' 1, n' 0, n' 0, n' 1] .unk), (.sl 2 [n' 0, n' 2, n' 1, n' 1] .unk)] .unk), (.lit (.func (.func 103) #[] #[]))], (.sl 2 [(.sl 2 [n' 1, n' 0, n' 0, n' 1] .unk), (.sl 2 [n' 0, n' 2, n' 1, n' 1] .unk)] .unk)⟩,
 ⟨102, [(.sl 2 [(.sl 2 [n' 1, n' 0, n' 0, n' 1] .unk), (.sl 2 [n' 0, n' 2, n' 0, n' 1] .unk)] .unk), (.lit (.func (.func 103) #[] #[]))], (.sl 2 [(.sl 2 [n' 1, n' 0, n' 0, n' 1] .unk), (.sl 2 [n' 0, n' 2, n' 0, n' 1] .unk)] .unk)⟩,
 ⟨102, [(.sl 1 [(.sl 2 [n' 0, n' 0, n' 0, n' 1] .unk)] .unk), (.lit (.func (.func 103) #[] #[]))], (.sl 1 [(.sl 2 [n' 0, n' 0, n' 0, n' 1] .unk)] .unk)⟩,
 ⟨102, [(.sl 2 [(.sl 2 [n' 0, n' 1, n' 1, n' 1] .unk), (.sl 2 [n' 1, n' 0, n' 1, n' 1] .unk)] .unk), (.lit (.func (.func 103) #[] #[]))], (.sl 2 [(.sl 2 [n' 0, n' 1, n' 1, n' 1] .unk), (.sl 2 [n' 1, n' 0, n' 1, n' 1] .unk)] .unk)⟩]
theorem rowsA_right : RowsRight rowsA :=
 .cons kD_right kr1 (.cons kD_right kr2 (.cons kD_right kr3 (.cons kD_right kr4 (.cons kD_right kr6 (.cons kD_right kr7 (.cons kD_right kr8 (.cons kD_right kr9 .nil)))))))
end Go.Vm
