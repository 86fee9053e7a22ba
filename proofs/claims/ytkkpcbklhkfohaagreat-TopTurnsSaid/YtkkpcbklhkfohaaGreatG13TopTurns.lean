/-
  Texts of the proof, part 13: the machine, contracts of functions, plain laws. (Own work.)
-/
import Derived.Test.YtkkpcbklhkfohaaGreatG12TopTurns

namespace Go.Vm
open Go.Proofs
def figC : List AV := [n' 4, n' 3, n' 0, n' 3, n' 2, n' 0, n' 5, n' 2, n' 1, n' 2, n' 3, n' 1, n' 6, n' 1, n' 2]
def cV : AV := .agg [n' 10, n' 3, .sl 5 figC .full]
def pk (k : Nat) (l : List Int) : AV := .agg [n' 10, n' 3, .sl k (figC.take (3 * k)) (bif Nat.beq k 5 then .full else .unk), .sl k (l.map n') .unk]
theorem RowsRight.nil : RowsRight [] := fun r h => by cases h
theorem RowsRight.cons {K : Know} (hK : K.Right Tryz.prog) {f : FuncId} {args : List AV} {v : AV} {l : List TopRow} (h : topB K f args v = true) (hl : RowsRight l) : RowsRight (⟨f, args, v⟩ :: l) := fun r hr => by
 rcases List.mem_cons.1 hr with rfl | hr
 ·exact top_right mixed hK h
 ·exact hl r hr
theorem te0 : topB kK 149 ([pk 1 [0]]) (.tup [.agg [n' 0, n' 0, n' 0], .lit (.bool false)]) = true := by kernel_rfl
theorem te1 : topB kK 149 ([pk 2 [0, 0]]) (.tup [.agg [n' 0, n' 0, n' 0], .lit (.bool false)]) = true := by kernel_rfl
theorem te2 : topB kK 149 ([pk 3 [0, 0, 0]]) (.tup [.agg [n' 0, n' 0, n' 0], .lit (.bool false)]) = true := by kernel_rfl
theorem te3 : topB kK 149 ([pk 4 [0, 0, 0, 0]]) (.tup [.agg [n' 0, n' 0, n' 0], .lit (.bool false)]) = true := by kernel_rfl
theorem te4 : topB kK 149 ([pk 5 [0, 0, 0, 0, 0]]) (.tup [.agg [n' 0, n' 0, n' 0], .lit (.bool false)]) = true := by kernel_rfl
theorem te5 : topB kK 148 ([pk 5 [0, 0, 0, 0, 0]]) (.lit (.bool false)) = true := by kernel_rfl
theorem te6 : topB kK 149 ([pk 5 [0, 0, 0, 0, 1]]) (.tup [.agg [n' 0, n' 0, n' 0], .lit (.bool false)]) = true := by kernel_rfl
theorem te7 : topB kK 148 ([pk 5 [0, 0, 0, 0, 1]]) (.lit (.bool false)) = true := by kernel_rfl
theorem te8 : topB kK 149 ([pk 5 [0, 0, 0, 0, 2]]) (.tup [.agg [n' 0, n' 0, n' 0], .lit (.bool false)]) = true := by kernel_rfl
theorem te9 : topB kK 148 ([pk 5 [0, 0, 0, 0, 2]]) (.lit (.bool false)) = true := by kernel_rfl
theorem te10 : topB kK 149 ([pk 4 [0, 0, 0, 1]]) (.tup [.agg [n' 3, n' 1, n' 3], .lit (.bool true)]) = true := by kernel_rfl
theorem te11 : topB kK 149 ([pk 4 [0, 0, 0, 2]]) (.tup [.agg [n' 3, n' 1, n' 3], .lit (.bool true)]) = true := by kernel_rfl
theorem te12 : topB kK 149 ([pk 3 [0, 0, 1]]) (.tup [.agg [n' 0, n' 0, n' 0], .lit (.bool false)]) = true := by kernel_rfl
theorem te13 : topB kK 149 ([pk 4 [0, 0, 1, 0]]) (.tup [.agg [n' 0, n' 0, n' 0], .lit (.bool false)]) = true := by kernel_rfl
theorem te14 : topB kK 149 ([pk 5 [0, 0, 1, 0, 0]]) (.tup [.agg [n' 3, n' 4, n' 2], .lit (.bool true)]) = true := by kernel_rfl
theorem te15 : topB kK 149 ([pk 5 [0, 0, 1, 0, 1]]) (.tup [.agg [n' 0, n' 0, n' 0], .lit (.bool false)]) = true := by kernel_rfl
theorem te16 : topB kK 148 ([pk 5 [0, 0, 1, 0, 1]]) (.lit (.bool false)) = true := by kernel_rfl
theorem te17 : topB kK 149 ([pk 5 [0, 0, 1, 0, 2]]) (.tup [.agg [n' 0, n' 0, n' 0], .lit (.bool false)]) = true := by kernel_rfl
theorem te18 : topB kK 148 ([pk 5 [0, 0, 1, 0, 2]]) (.lit (.bool true)) = true := by kernel_rfl
theorem te19 : topB kK 149 ([pk 4 [0, 0, 1, 1]]) (.tup [.agg [n' 3, n' 1, n' 3], .lit (.bool true)]) = true := by kernel_rfl
theorem te20 : topB kK 149 ([pk 4 [0, 0, 1, 2]]) (.tup [.agg [n' 3, n' 1, n' 3], .lit (.bool true)]) = true := by kernel_rfl
theorem te21 : topB kK 149 ([pk 3 [0, 0, 2]]) (.tup [.agg [n' 0, n' 0, n' 0], .lit (.bool false)]) = true := by kernel_rfl
theorem te22 : topB kK 149 ([pk 4 [0, 0, 2, 0]]) (.tup [.agg [n' 0, n' 0, n' 0], .lit (.bool false)]) = true := by kernel_rfl
theorem te23 : topB kK 149 ([pk 5 [0, 0, 2, 0, 0]]) (.tup [.agg [n' 3, n' 4, n' 2], .lit (.bool true)]) = true := by kernel_rfl
theorem te24 : topB kK 149 ([pk 5 [0, 0, 2, 0, 1]]) (.tup [.agg [n' 3, n' 4, n' 2], .lit (.bool true)]) = true := by kernel_rfl
theorem te25 : topB kK 149 ([pk 5 [0, 0, 2, 0, 2]]) (.tup [.agg [n' 0, n' 0, n' 0], .lit (.bool false)]) = true := by kernel_rfl
theorem te26 : topB kK 148 ([pk 5 [0, 0, 2, 0, 2]]) (.lit (.bool false)) = true := by kernel_rfl
theorem te27 : topB kK 149 ([pk 4 [0, 0, 2, 1]]) (.tup [.agg [n' 3, n' 1, n' 3], .lit (.bool true)]) = true := by kernel_rfl
theorem te28 : topB kK 149 ([pk 4 [0, 0, 2, 2]]) (.tup [.agg [n' 3, n' 1, n' 3], .lit (.bool true)]) = true := by kernel_rfl
theorem te29 : topB kK 149 ([pk 2 [0, 1]]) (.tup [.agg [n' 0, n' 0, n' 0], .lit (.bool false)]) = true := by kernel_rfl
theorem te30 : topB kK 149 ([pk 3 [0, 1, 0]]) (.tup [.agg [n' 4, n' 2, n' 1], .lit (.bool true)]) = true := by kernel_rfl
theorem te31 : topB kK 149 ([pk 3 [0, 1, 1]]) (.tup [.agg [n' 0, n' 0, n' 0], .lit (.bool false)]) = true := by kernel_rfl
theorem te32 : topB kK 149 ([pk 4 [0, 1, 1, 0]]) (.tup [.agg [n' 4, n' 3, n' 1], .lit (.bool true)]) = true := by kernel_rfl
theorem te33 : topB kK 149 ([pk 4 [0, 1, 1, 1]]) (.tup [.agg [n' 0, n' 0, n' 0], .lit (.bool false)]) = true := by kernel_rfl
theorem te34 : topB kK 149 ([pk 5 [0, 1, 1, 1, 0]]) (.tup [.agg [n' 3, n' 4, n' 1], .lit (.bool true)]) = true := by kernel_rfl
theorem te35 : topB kK 149 ([pk 5 [0, 1, 1, 1, 1]]) (.tup [.agg [n' 0, n' 0, n' 0], .lit (.bool false)]) = true := by kernel_rfl
theorem te36 : topB kK 148 ([pk 5 [0, 1, 1, 1, 1]]) (.lit (.bool false)) = true := by kernel_rfl
theorem te37 : topB kK 149 ([pk 5 [0, 1, 1, 1, 2]]) (.tup [.agg [n' 0, n' 0, n' 0], .lit (.bool false)]) = true := by kernel_rfl
theorem te38 : topB kK 148 ([pk 5 [0, 1, 1, 1, 2]]) (.lit (.bool true)) = true := by kernel_rfl
theorem te39 : topB kK 149 ([pk 4 [0, 1, 1, 2]]) (.tup [.agg [n' 3, n' 1, n' 3], .lit (.bool true)]) = true := by kernel_rfl
theorem te40 : topB kK 149 ([pk 3 [0, 1, 2]]) (.tup [.agg [n' 0, n' 0, n' 0], .lit (.bool false)]) = true := by kernel_rfl
theorem te41 : topB kK 149 ([pk 4 [0, 1, 2, 0]]) (.tup [.agg [n' 4, n' 3, n' 1], .lit (.bool true)]) = true := by kernel_rfl
theorem te42 : topB kK 149 ([pk 4 [0, 1, 2, 1]]) (.tup [.agg [n' 0, n' 0, n' 0], .lit (.bool false)]) = true := by kernel_rfl
theorem te43 : topB kK 149 ([pk 5 [0, 1, 2, 1, 0]]) (.tup [.agg [n' 3, n' 4, n' 1], .lit (.bool true)]) = true := by kernel_rfl
theorem te44 : topB kK 149 ([pk 5 [0, 1, 2, 1, 1]]) (.tup [.agg [n' 3, n' 4, n' 2], .lit (.bool true)]) = true := by kernel_rfl
theorem te45 : topB kK 149 ([pk 5 [0, 1, 2, 1, 2]]) (.tup [.agg [n' 0, n' 0, n' 0], .lit (.bool false)]) = true := by kernel_rfl
theorem te46 : topB kK 148 ([pk 5 [0, 1, 2, 1, 2]]) (.lit (.bool false)) = true := by kernel_rfl
theorem te47 : topB kK 149 ([pk 4 [0, 1, 2, 2]]) (.tup [.agg [n' 3, n' 1, n' 3], .lit (.bool true)]) = true := by kernel_rfl
theorem te48 : topB kK 149 ([pk 2 [0, 2]]) (.tup [.agg [n' 0, n' 0, n' 0], .lit (.bool false)]) = true := by kernel_rfl
theorem te49 : topB kK 149 ([pk 3 [0, 2, 0]]) (.tup [.agg [n' 4, n' 2, n' 1], .lit (.bool true)]) = true := by kernel_rfl
theorem te50 : topB kK 149 ([pk 3 [0, 2, 1]]) (.tup [.agg [n' 4, n' 2, n' 1], .lit (.bool true)]) = true := by kernel_rfl
theorem te51 : topB kK 149 ([pk 3 [0, 2, 2]]) (.tup [.agg [n' 0, n' 0, n' 0], .lit (.bool false)]) = true := by kernel_rfl
theorem te52 : topB kK 149 ([pk 4 [0, 2, 2, 0]]) (.tup [.agg [n' 4, n' 3, n' 1], .lit (.bool true)]) = true := by kernel_rfl
theorem te53 : topB kK 149 ([pk 4 [0, 2, 2, 1]]) (.tup [.agg [n' 4, n' 3, n' 1], .lit (.bool true)]) = true := by kernel_rfl
theorem te54 : topB kK 149 ([pk 4 [0, 2, 2, 2]]) (.tup [.agg [n' 0, n' 0, n' 0], .lit (.bool false)]) = true := by kernel_rfl
theorem te55 : topB kK 149 ([pk 5 [0, 2, 2, 2, 0]]) (.tup [.agg [n' 3, n' 4, n' 1], .lit (.bool true)]) = true := by kernel_rfl
theorem te56 : topB kK 149 ([pk 5 [0, 2, 2, 2, 1]]) (.tup [.agg [n' 3, n' 4, n' 1], .lit (.bool true)]) = true := by kernel_rfl
theorem te57 : topB kK 149 ([pk 5 [0, 2, 2, 2, 2]]) (.tup [.agg [n' 0, n' 0, n' 0], .lit (.bool false)]) = true := by kernel_rfl
theorem te58 : topB kK 148 ([pk 5 [0, 2, 2, 2, 2]]) (.lit (.bool false)) = true := by kernel_rfl
theorem te59 : topB kK 149 ([pk 1 [1]]) (.tup [.agg [n' 0, n' 0, n' 0], .lit (.bool false)]) = true := by kernel_rfl
theorem te60 : topB kK 149 ([pk 2 [1, 0]]) (.tup [.agg [n' 3, n' 1, n' 0], .lit (.bool true)]) = true := by kernel_rfl
theorem te61 : topB kK 149 ([pk 2 [1, 1]]) (.tup [.agg [n' 0, n' 0, n' 0], .lit (.bool false)]) = true := by kernel_rfl
theorem te62 : topB kK 149 ([pk 3 [1, 1, 0]]) (.tup [.agg [n' 3, n' 2, n' 0], .lit (.bool true)]) = true := by kernel_rfl
theorem te63 : topB kK 149 ([pk 3 [1, 1, 1]]) (.tup [.agg [n' 0, n' 0, n' 0], .lit (.bool false)]) = true := by kernel_rfl
theorem te64 : topB kK 149 ([pk 4 [1, 1, 1, 0]]) (.tup [.agg [n' 4, n' 3, n' 0], .lit (.bool true)]) = true := by kernel_rfl
theorem te65 : topB kK 149 ([pk 4 [1, 1, 1, 1]]) (.tup [.agg [n' 0, n' 0, n' 0], .lit (.bool false)]) = true := by kernel_rfl
theorem te66 : topB kK 149 ([pk 5 [1, 1, 1, 1, 0]]) (.tup [.agg [n' 3, n' 4, n' 0], .lit (.bool true)]) = true := by kernel_rfl
theorem te67 : topB kK 149 ([pk 5 [1, 1, 1, 1, 1]]) (.tup [.agg [n' 0, n' 0, n' 0], .lit (.bool false)]) = true := by kernel_rfl
theorem te68 : topB kK 148 ([pk 5 [1, 1, 1, 1, 1]]) (.lit (.bool false)) = true := by kernel_rfl
theorem te69 : topB kK 149 ([pk 5 [1, 1, 1, 1, 2]]) (.tup [.agg [n' 0, n' 0, n' 0], .lit (.bool false)]) = true := by kernel_rfl
theorem te70 : topB kK 148 ([pk 5 [1, 1, 1, 1, 2]]) (.lit (.bool false)) = true := by kernel_rfl
theorem te71 : topB kK 149 ([pk 4 [1, 1, 1, 2]]) (.tup [.agg [n' 3, n' 1, n' 3], .lit (.bool true)]) = true := by kernel_rfl
theorem te72 : topB kK 149 ([pk 3 [1, 1, 2]]) (.tup [.agg [n' 0, n' 0, n' 0], .lit (.bool false)]) = true := by kernel_rfl
theorem te73 : topB kK 149 ([pk 4 [1, 1, 2, 0]]) (.tup [.agg [n' 4, n' 3, n' 0], .lit (.bool true)]) = true := by kernel_rfl
theorem te74 : topB kK 149 ([pk 4 [1, 1, 2, 1]]) (.tup [.agg [n' 0, n' 0, n' 0], .lit (.bool false)]) = true := by kernel_rfl
theorem te75 : topB kK 149 ([pk 5 [1, 1, 2, 1, 0]]) (.tup [.agg [n' 3, n' 4, n' 0], .lit (.bool true)]) = true := by kernel_rfl
theorem te76 : topB kK 149 ([pk 5 [1, 1, 2, 1, 1]]) (.tup [.agg [n' 3, n' 4, n' 2], .lit (.bool true)]) = true := by kernel_rfl
theorem te77 : topB kK 149 ([pk 5 [1, 1, 2, 1, 2]]) (.tup [.agg [n' 0, n' 0, n' 0], .lit (.bool false)]) = true := by kernel_rfl
theorem te78 : topB kK 148 ([pk 5 [1, 1, 2, 1, 2]]) (.lit (.bool false)) = true := by kernel_rfl
theorem te79 : topB kK 149 ([pk 4 [1, 1, 2, 2]]) (.tup [.agg [n' 3, n' 1, n' 3], .lit (.bool true)]) = true := by kernel_rfl
theorem te80 : topB kK 149 ([pk 2 [1, 2]]) (.tup [.agg [n' 0, n' 0, n' 0], .lit (.bool false)]) = true := by kernel_rfl
theorem te81 : topB kK 149 ([pk 3 [1, 2, 0]]) (.tup [.agg [n' 3, n' 2, n' 0], .lit (.bool true)]) = true := by kernel_rfl
theorem te82 : topB kK 149 ([pk 3 [1, 2, 1]]) (.tup [.agg [n' 4, n' 2, n' 1], .lit (.bool true)]) = true := by kernel_rfl
theorem te83 : topB kK 149 ([pk 3 [1, 2, 2]]) (.tup [.agg [n' 0, n' 0, n' 0], .lit (.bool false)]) = true := by kernel_rfl
theorem te84 : topB kK 149 ([pk 4 [1, 2, 2, 0]]) (.tup [.agg [n' 4, n' 3, n' 0], .lit (.bool true)]) = true := by kernel_rfl
theorem te85 : topB kK 149 ([pk 4 [1, 2, 2, 1]]) (.tup [.agg [n' 4, n' 3, n' 1], .lit (.bool true)]) = true := by kernel_rfl
theorem te86 : topB kK 149 ([pk 4 [1, 2, 2, 2]]) (.tup [.agg [n' 0, n' 0, n' 0], .lit (.bool false)]) = true := by kernel_rfl
theorem te87 : topB kK 149 ([pk 5 [1, 2, 2, 2, 0]]) (.tup [.agg [n' 3, n' 4, n' 0], .lit (.bool true)]) = true := by kernel_rfl
theorem te88 : topB kK 149 ([pk 5 [1, 2, 2, 2, 1]]) (.tup [.agg [n' 3, n' 4, n' 1], .lit (.bool true)]) = true := by kernel_rfl
theorem te89 : topB kK 149 ([pk 5 [1, 2, 2, 2, 2]]) (.tup [.agg [n' 0, n' 0, n' 0], .lit (.bool false)]) = true := by kernel_rfl
theorem te90 : topB kK 148 ([pk 5 [1, 2, 2, 2, 2]]) (.lit (.bool false)) = true := by kernel_rfl
theorem te91 : topB kK 149 ([pk 1 [2]]) (.tup [.agg [n' 0, n' 0, n' 0], .lit (.bool false)]) = true := by kernel_rfl
theorem te92 : topB kK 149 ([pk 2 [2, 0]]) (.tup [.agg [n' 3, n' 1, n' 0], .lit (.bool true)]) = true := by kernel_rfl
theorem te93 : topB kK 149 ([pk 2 [2, 1]]) (.tup [.agg [n' 3, n' 1, n' 0], .lit (.bool true)]) = true := by kernel_rfl
theorem te94 : topB kK 149 ([pk 2 [2, 2]]) (.tup [.agg [n' 0, n' 0, n' 0], .lit (.bool false)]) = true := by kernel_rfl
theorem te95 : topB kK 149 ([pk 3 [2, 2, 0]]) (.tup [.agg [n' 3, n' 2, n' 0], .lit (.bool true)]) = true := by kernel_rfl
theorem te96 : topB kK 149 ([pk 3 [2, 2, 1]]) (.tup [.agg [n' 3, n' 2, n' 0], .lit (.bool true)]) = true := by kernel_rfl
theorem te97 : topB kK 149 ([pk 3 [2, 2, 2]]) (.tup [.agg [n' 0, n' 0, n' 0], .lit (.bool false)]) = true := by kernel_rfl
theorem te98 : topB kK 149 ([pk 4 [2, 2, 2, 0]]) (.tup [.agg [n' 4, n' 3, n' 0], .lit (.bool true)]) = true := by kernel_rfl
theorem te99 : topB kK 149 ([pk 4 [2, 2, 2, 1]]) (.tup [.agg [n' 4, n' 3, n' 0], .lit (.bool true)]) = true := by kernel_rfl
theorem te100 : topB kK 149 ([pk 4 [2, 2, 2, 2]]) (.tup [.agg [n' 0, n' 0, n' 0], .lit (.bool false)]) = true := by kernel_rfl
theorem te101 : topB kK 149 ([pk 5 [2, 2, 2, 2, 0]]) (.tup [.agg [n' 3, n' 4, n' 0], .lit (.bool true)]) = true := by kernel_rfl
theorem te102 : topB kK 149 ([pk 5 [2, 2, 2, 2, 1]]) (.tup [.agg [n' 3, n' 4, n' 0], .lit (.bool true)]) = true := by kernel_rfl
theorem te103 : topB kK 149 ([pk 5 [2, 2, 2, 2, 2]]) (.tup [.agg [n' 0, n' 0, n' 0], .lit (.bool false)]) = true := by kernel_rfl
theorem te104 : topB kK 148 ([pk 5 [2, 2, 2, 2, 2]]) (.lit (.bool false)) = true := by kernel_rfl
theorem te105 : topB kK 92 ([pk 5 [0, 0, 1, 0, 2]]) (.lit (.int .i64 6)) = true := by kernel_rfl
theorem te106 : topB kK 92 ([pk 5 [0, 1, 1, 1, 2]]) (.lit (.int .i64 5)) = true := by kernel_rfl
def easeRows : List TopRow := [
 ⟨149, [pk 1 [0]], .tup [.agg [n' 0, n' 0, n' 0], .lit (.bool false)]⟩,
 ⟨149, [pk 2 [0, 0]], .tup [.agg [n' 0, n' 0, n' 0], .lit (.bool false)]⟩,
 ⟨149, [pk 3 [0, 0, 0]], .tup [.agg [n' 0, n' 0, n' 0], .lit (.bool false)]⟩,
 ⟨149, [pk 4 [0, 0, 0, 0]], .tup [.agg [n' 0, n' 0, n' 0], .lit (.bool false)]⟩,
 ⟨149, [pk 5 [0, 0, 0, 0, 0]], .tup [.agg [n' 0, n' 0, n' 0], .lit (.bool false)]⟩,
 ⟨148, [pk 5 [0, 0, 0, 0, 0]], .lit (.bool false)⟩,
 ⟨149, [pk 5 [0, 0, 0, 0, 1]], .tup [.agg [n' 0, n' 0, n' 0], .lit (.bool false)]⟩,
 ⟨148, [pk 5 [0, 0, 0, 0, 1]], .lit (.bool false)⟩,
 ⟨149, [pk 5 [0, 0, 0, 0, 2]], .tup [.agg [n' 0, n' 0, n' 0], .lit (.bool false)]⟩,
 ⟨148, [pk 5 [0, 0, 0, 0, 2]], .lit (.bool false)⟩,
 ⟨149, [pk 4 [0, 0, 0, 1]], .tup [.agg [n' 3, n' 1, n' 3], .lit (.bool true)]⟩,
 ⟨149, [pk 4 [0, 0, 0, 2]], .tup [.agg [n' 3, n' 1, n' 3], .lit (.bool true)]⟩,
 ⟨149, [pk 3 [0, 0, 1]], .tup [.agg [n' 0, n' 0, n' 0], .lit (.bool false)]⟩,
 ⟨149, [pk 4 [0, 0, 1, 0]], .tup [.agg [n' 0, n' 0, n' 0], .lit (.bool false)]⟩,
 ⟨149, [pk 5 [0, 0, 1, 0, 0]], .tup [.agg [n' 3, n' 4, n' 2], .lit (.bool true)]⟩,
 ⟨149, [pk 5 [0, 0, 1, 0, 1]], .tup [.agg [n' 0, n' 0, n' 0], .lit (.bool false)]⟩,
 ⟨148, [pk 5 [0, 0, 1, 0, 1]], .lit (.bool false)⟩,
 ⟨149, [pk 5 [0, 0, 1, 0, 2]], .tup [.agg [n' 0, n' 0, n' 0], .lit (.bool false)]⟩,
 ⟨148, [pk 5 [0, 0, 1, 0, 2]], .lit (.bool true)⟩,
 ⟨149, [pk 4 [0, 0, 1, 1]], .tup [.agg [n' 3, n' 1, n' 3], .lit (.bool true)]⟩,
 ⟨149, [pk 4 [0, 0, 1, 2]], .tup [.agg [n' 3, n' 1, n' 3], .lit (.bool true)]⟩,
 ⟨149, [pk 3 [0, 0, 2]], .tup [.agg [n' 0, n' 0, n' 0], .lit (.bool false)]⟩,
 ⟨149, [pk 4 [0, 0, 2, 0]], .tup [.agg [n' 0, n' 0, n' 0], .lit (.bool false)]⟩,
 ⟨149, [pk 5 [0, 0, 2, 0, 0]], .tup [.agg [n' 3, n' 4, n' 2], .lit (.bool true)]⟩,
 ⟨149, [pk 5 [0, 0, 2, 0, 1]], .tup [.agg [n' 3, n' 4, n' 2], .lit (.bool true)]⟩,
 ⟨149, [pk 5 [0, 0, 2, 0, 2]], .tup [.agg [n' 0, n' 0, n' 0], .lit (.bool false)]⟩,
 ⟨148, [pk 5 [0, 0, 2, 0, 2]], .lit (.bool false)⟩,
 ⟨149, [pk 4 [0, 0, 2, 1]], .tup [.agg [n' 3, n' 1, n' 3], .lit (.bool true)]⟩,
 ⟨149, [pk 4 [0, 0, 2, 2]], .tup [.agg [n' 3, n' 1, n' 3], .lit (.bool true)]⟩,
 ⟨149, [pk 2 [0, 1]], .tup [.agg [n' 0, n' 0, n' 0], .lit (.bool false)]⟩,
 ⟨149, [pk 3 [0, 1, 0]], .tup [.agg [n' 4, n' 2, n' 1], .lit (.bool true)]⟩,
 ⟨149, [pk 3 [0, 1, 1]], .tup [.agg [n' 0, n' 0, n' 0], .lit (.bool false)]⟩,
 ⟨149, [pk 4 [0, 1, 1, 0]], .tup [.agg [n' 4, n' 3, n' 1], .lit (.bool true)]⟩,
 ⟨149, [pk 4 [0, 1, 1, 1]], .tup [.agg [n' 0, n' 0, n' 0], .lit (.bool false)]⟩,
 ⟨149, [pk 5 [0, 1, 1, 1, 0]], .tup [.agg [n' 3, n' 4, n' 1], .lit (.bool true)]⟩,
 ⟨149, [pk 5 [0, 1, 1, 1, 1]], .tup [.agg [n' 0, n' 0, n' 0], .lit (.bool false)]⟩,
 ⟨148, [pk 5 [0, 1, 1, 1, 1]], .lit (.bool false)⟩,
 ⟨149, [pk 5 [0, 1, 1, 1, 2]], .tup [.agg [n' 0, n' 0, n' 0], .lit (.bool false)]⟩,
 ⟨148, [pk 5 [0, 1, 1, 1, 2]], .lit (.bool true)⟩,
 ⟨149, [pk 4 [0, 1, 1, 2]], .tup [.agg [n' 3, n' 1, n' 3], .lit (.bool true)]⟩,
 ⟨149, [pk 3 [0, 1, 2]], .tup [.agg [n' 0, n' 0, n' 0], .lit (.bool false)]⟩,
 ⟨149, [pk 4 [0, 1, 2, 0]], .tup [.agg [n' 4, n' 3, n' 1], .lit (.bool true)]⟩,
 ⟨149, [pk 4 [0, 1, 2, 1]], .tup [.agg [n' 0, n' 0, n' 0], .lit (.bool false)]⟩,
 ⟨149, [pk 5 [0, 1, 2, 1, 0]], .tup [.agg [n' 3, n' 4, n' 1], .lit (.bool true)]⟩,
 ⟨149, [pk 5 [0, 1, 2, 1, 1]], .tup [.agg [n' 3, n' 4, n' 2], .lit (.bool true)]⟩,
 ⟨149, [pk 5 [0, 1, 2, 1, 2]], .tup [.agg [n' 0, n' 0, n' 0], .lit (.bool false)]⟩,
 ⟨148, [pk 5 [0, 1, 2, 1, 2]], .lit (.bool false)⟩,
 ⟨149, [pk 4 [0, 1, 2, 2]], .tup [.agg [n' 3, n' 1, n' 3], .lit (.bool true)]⟩,
 ⟨149, [pk 2 [0, 2]], .tup [.agg [n' 0, n' 0, n' 0], .lit (.bool false)]⟩,
 ⟨149, [pk 3 [0, 2, 0]], .tup [.agg [n' 4, n' 2, n' 1], .lit (.bool true)]⟩,
 ⟨149, [pk 3 [0, 2, 1]], .tup [.agg [n' 4, n' 2, n' 1], .lit (.bool true)]⟩,
 ⟨149, [pk 3 [0, 2, 2]], .tup [.agg [n' 0, n' 0, n' 0], .lit (.bool false)]⟩,
 ⟨149, [pk 4 [0, 2, 2, 0]], .tup [.agg [n' 4, n' 3, n' 1], .lit (.bool true)]⟩,
 ⟨149, [pk 4 [0, 2, 2, 1]], .tup [.agg [n' 4, n' 3, n' 1], .lit (.bool true)]⟩,
 ⟨149, [pk 4 [0, 2, 2, 2]], .tup [.agg [n' 0, n' 0, n' 0], .lit (.bool false)]⟩,
 ⟨149, [pk 5 [0, 2, 2, 2, 0]], .tup [.agg [n' 3, n' 4, n' 1], .lit (.bool true)]⟩,
 ⟨149, [pk 5 [0, 2, 2, 2, 1]], .tup [.agg [n' 3, n' 4, n' 1], .lit (.bool true)]⟩,
 ⟨149, [pk 5 [0, 2, 2, 2, 2]], .tup [.agg [n' 0, n' 0, n' 0], .lit (.bool false)]⟩,
 ⟨148, [pk 5 [0, 2, 2, 2, 2]], .lit (.bool false)⟩,
 ⟨149, [pk 1 [1]], .tup [.agg [n' 0, n' 0, n' 0], .lit (.bool false)]⟩,
 ⟨149, [pk 2 [1, 0]], .tup [.agg [n' 3, n' 1, n' 0], .lit (.bool true)]⟩,
 ⟨149, [pk 2 [1, 1]], .tup [.agg [n' 0, n' 0, n' 0], .lit (.bool false)]⟩,
 ⟨149, [pk 3 [1, 1, 0]], .tup [.agg [n' 3, n' 2, n' 0], .lit (.bool true)]⟩,
 ⟨149, [pk 3 [1, 1, 1]], .tup [.agg [n' 0, n' 0, n' 0], .lit (.bool false)]⟩,
 ⟨149, [pk 4 [1, 1, 1, 0]], .tup [.agg [n' 4, n' 3, n' 0], .lit (.bool true)]⟩,
 ⟨149, [pk 4 [1, 1, 1, 1]], .tup [.agg [n' 0, n' 0, n' 0], .lit (.bool false)]⟩,
 ⟨149, [pk 5 [1, 1, 1, 1, 0]], .tup [.agg [n' 3, n' 4, n' 0], .lit (.bool true)]⟩,
 ⟨149, [pk 5 [1, 1, 1, 1, 1]], .tup [.agg [n' 0, n' 0, n' 0], .lit (.bool false)]⟩,
 ⟨148, [pk 5 [1, 1, 1, 1, 1]], .lit (.bool false)⟩,
 ⟨149, [pk 5 [1, 1, 1, 1, 2]], .tup [.agg [n' 0, n' 0, n' 0], .lit (.bool false)]⟩,
 ⟨148, [pk 5 [1, 1, 1, 1, 2]], .lit (.bool false)⟩,
 ⟨149, [pk 4 [1, 1, 1, 2]], .tup [.agg [n' 3, n' 1, n' 3], .lit (.bool true)]⟩,
 ⟨149, [pk 3 [1, 1, 2]], .tup [.agg [n' 0, n' 0, n' 0], .lit (.bool false)]⟩,
 ⟨149, [pk 4 [1, 1, 2, 0]], .tup [.agg [n' 4, n' 3, n' 0], .lit (.bool true)]⟩,
 ⟨149, [pk 4 [1, 1, 2, 1]], .tup [.agg [n' 0, n' 0, n' 0], .lit (.bool false)]⟩,
 ⟨149, [pk 5 [1, 1, 2, 1, 0]], .tup [.agg [n' 3, n' 4, n' 0], .lit (.bool true)]⟩,
 ⟨149, [pk 5 [1, 1, 2, 1, 1]], .tup [.agg [n' 3, n' 4, n' 2], .lit (.bool true)]⟩,
 ⟨149, [pk 5 [1, 1, 2, 1, 2]], .tup [.agg [n' 0, n' 0, n' 0], .lit (.bool false)]⟩,
 ⟨148, [pk 5 [1, 1, 2, 1, 2]], .lit (.bool false)⟩,
 ⟨149, [pk 4 [1, 1, 2, 2]], .tup [.agg [n' 3, n' 1, n' 3], .lit (.bool true)]⟩,
 ⟨149, [pk 2 [1, 2]], .tup [.agg [n' 0, n' 0, n' 0], .lit (.bool false)]⟩,
 ⟨149, [pk 3 [1, 2, 0]], .tup [.agg [n' 3, n' 2, n' 0], .lit (.bool true)]⟩,
 ⟨149, [pk 3 [1, 2, 1]], .tup [.agg [n' 4, n' 2, n' 1], .lit (.bool true)]⟩,
 ⟨149, [pk 3 [1, 2, 2]], .tup [.agg [n' 0, n' 0, n' 0], .lit (.bool false)]⟩,
 ⟨149, [pk 4 [1, 2, 2, 0]], .tup [.agg [n' 4, n' 3, n' 0], .lit (.bool true)]⟩,
 ⟨149, [pk 4 [1, 2, 2, 1]], .tup [.agg [n' 4, n' 3, n' 1], .lit (.bool true)]⟩,
 ⟨149, [pk 4 [1, 2, 2, 2]], .tup [.agg [n' 0, n' 0, n' 0], .lit (.bool false)]⟩,
 ⟨149, [pk 5 [1, 2, 2, 2, 0]], .tup [.agg [n' 3, n' 4, n' 0], .lit (.bool true)]⟩,
 ⟨149, [pk 5 [1, 2, 2, 2, 1]], .tup [.agg [n' 3, n' 4, n' 1], .lit (.bool true)]⟩,
 ⟨149, [pk 5 [1, 2, 2, 2, 2]], .tup [.agg [n' 0, n' 0, n' 0], .lit (.bool false)]⟩,
 ⟨148, [pk 5 [1, 2, 2, 2, 2]], .lit (.bool false)⟩,
 ⟨149, [pk 1 [2]], .tup [.agg [n' 0, n' 0, n' 0], .lit (.bool false)]⟩,
 ⟨149, [pk 2 [2, 0]], .tup [.agg [n' 3, n' 1, n' 0], .lit (.bool true)]⟩,
 ⟨149, [pk 2 [2, 1]], .tup [.agg [n' 3, n' 1, n' 0], .lit (.bool true)]⟩,
 ⟨149, [pk 2 [2, 2]], .tup [.agg [n' 0, n' 0, n' 0], .lit (.bool false)]⟩,
 ⟨149, [pk 3 [2, 2, 0]], .tup [.agg [n' 3, n' 2, n' 0], .lit (.bool true)]⟩,
 ⟨149, [pk 3 [2, 2, 1]], .tup [.agg [n' 3, n' 2, n' 0], .lit (.bool true)]⟩,
 ⟨149, [pk 3 [2, 2, 2]], .tup [.agg [n' 0, n' 0, n' 0], .lit (.bool false)]⟩,
 ⟨149, [pk 4 [2, 2, 2, 0]], .tup [.agg [n' 4, n' 3, n' 0], .lit (.bool true)]⟩,
 ⟨149, [pk 4 [2, 2, 2, 1]], .tup [.agg [n' 4, n' 3, n' 0], .lit (.bool true)]⟩,
 ⟨149, [pk 4 [2, 2, 2, 2]], .tup [.agg [n' 0, n' 0, n' 0], .lit (.bool false)]⟩,
 ⟨149, [pk 5 [2, 2, 2, 2, 0]], .tup [.agg [n' 3, n' 4, n' 0], .lit (.bool true)]⟩,
 ⟨149, [pk 5 [2, 2, 2, 2, 1]], .tup [.agg [n' 3, n' 4, n' 0], .lit (.bool true)]⟩,
 ⟨149, [pk 5 [2, 2, 2, 2, 2]], .tup [.agg [n' 0, n' 0, n' 0], .lit (.bool false)]⟩,
 ⟨148, [pk 5 [2, 2, 2, 2, 2]], .lit (.bool false)⟩,
 ⟨92, [pk 5 [0, 0, 1, 0, 2]], .lit (.int .i64 6)⟩,
 ⟨92, [pk 5 [0, 1, 1, 1, 2]], .lit (.int .i64 5)⟩]
theorem easeRows_right : RowsRight easeRows :=
 .cons kK_right te0 (.cons kK_right te1 (.cons kK_right te2 (.cons kK_right te3 (.cons kK_right te4 (.cons kK_right te5 (.cons kK_right te6 (.cons kK_right te7 (.cons kK_right te8 (.cons kK_right te9 (.cons kK_right te10 (.cons kK_right te11 (.cons kK_right te12 (.cons kK_right te13 (.cons kK_right te14 (.cons kK_right te15 (.cons kK_right te16 (.cons kK_right te17 (.cons kK_right te18 (.cons kK_right te19 (.cons kK_right te20 (.cons kK_right te21 (.cons kK_right te22 (.cons kK_right te23 (.cons kK_right te24 (.cons kK_right te25 (.cons kK_right te26 (.cons kK_right te27 (.cons kK_right te28 (.cons kK_right te29 (.cons kK_right te30 (.cons kK_right te31 (.cons kK_right te32 (.cons kK_right te33 (.cons kK_right te34 (.cons kK_right te35 (.cons kK_right te36 (.cons kK_right te37 (.cons kK_right te38 (.cons kK_right te39 (.cons kK_right te40 (.cons kK_right te41 (.cons kK_right te42 (.cons kK_right te43 (.cons kK_right te44 (.cons kK_right te45 (.cons kK_right te46 (.cons kK_right te47 (.cons kK_right te48 (.cons kK_right te49 (.cons kK_right te50 (.cons kK_right te51 (.cons kK_right te52 (.cons kK_right te53 (.cons kK_right te54 (.cons kK_right te55 (.cons kK_right te56 (.cons kK_right te57 (.cons kK_right te58 (.cons kK_right te59 (.cons kK_right te60 (.cons kK_right te61 (.cons kK_right te62 (.cons kK_right te63 (.cons kK_right te64 (.cons kK_right te65 (.cons kK_right te66 (.cons kK_right te67 (.cons kK_right te68 (.cons kK_right te69 (.cons kK_right te70 (.cons kK_right te71 (.cons kK_right te72 (.cons kK_right te73 (.cons kK_right te74 (.cons kK_right te75 (.cons kK_right te76 (.cons kK_right te77 (.cons kK_right te78 (.cons kK_right te79 (.cons kK_right te80 (.cons kK_right te81 (.cons kK_right te82 (.cons kK_right te83 (.cons kK_right te84 (.cons kK_right te85 (.cons kK_right te86 (.cons kK_right te87 (.cons kK_right te88 (.cons kK_right te89 (.cons kK_right te90 (.cons kK_right te91 (.cons kK_right te92 (.cons kK_right te93 (.cons kK_right te94 (.cons kK_right te95 (.cons kK_right te96 (.cons kK_right te97 (.cons kK_right te98 (.cons kK_right te99 (.cons kK_right te100 (.cons kK_right te101 (.cons kK_right te102 (.cons kK_right te103 (.cons kK_right te104 (.cons kK_right te105 (.cons kK_right te106 .nil))))))))))))))))))))))))))))))))))))))))))))))))))))))))))))))))))))))))))))))))))))))))))))))))))))))))))
noncomputable def kTold1 (f : FuncId) : Option (CallT → CallT) :=
 bif Nat.beq f 149 || Nat.beq f 148 || Nat.beq f 92 then some fun _ => toldRows easeRows else kTold f
noncomputable def kEase : Know := ⟨kK.muts, kK.alone, kTold1⟩
theorem kEase_right : kEase.Right Tryz.prog := by
 intro f T h call hc args t n
 have h' : kTold1 f = some T := h
 unfold kTold1 at h'
 cases hb : (Nat.beq f 149 || Nat.beq f 148 || Nat.beq f 92) with
 | true =>
  rw [hb, cond_true] at h'
  cases h'
  exact toldRows_right easeRows_right f args t n
 | false =>
  rw [hb, cond_false] at h'
  exact kTold_right h' hc args t n
end Go.Vm
