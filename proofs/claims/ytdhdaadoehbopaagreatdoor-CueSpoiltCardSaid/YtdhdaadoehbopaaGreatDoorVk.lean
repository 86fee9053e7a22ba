/-
  The function known of package kelirlaw04 returns true in every heap. Conditions: none.
-/
import Derived.Test.YtdhdaadoehbopaaGreatDoorVc
import Derived.KernelRfl

namespace Go.Vm
open Go.Proofs
def ev0 : AV := .agg [nilS, nilS]
def bV : AV := (.agg [n' 2, n' 3, (.sl 4 [(.sl 2 [(.sl 2 [n' 1, n' 0, n' 0, n' 1] .unk), (.sl 2 [n' 0, n' 2, n' 1, n' 1] .unk)] .full), (.sl 2 [(.sl 2 [n' 1, n' 0, n' 0, n' 1] .unk), (.sl 2 [n' 0, n' 2, n' 0, n' 1] .unk)] .full), (.sl 1 [(.sl 2 [n' 0, n' 0, n' 0, n' 1] .unk)] .full), (.sl 2 [(.sl 2 [n' 0, n' 1, n' 1, n' 1] .unk), (.sl 2 [n' 1, n' 0, n' 1, n' 1] .unk)] .full)] .full)])
def eV : AV := (.agg [(.sl 2 [n' 0, n' 0] .full), (.sl 2 [n' 0, n' 2] .full)])
def gV : AV := (.agg [(.sl 3 [n' 1, n' 0, n' 0] .full), (.sl 3 [n' 1, n' 0, n' 0] .full)])
def eS : AV := .sl 1 eV.cellsOf .full
def gS : AV := .sl 1 gV.cellsOf .full
theorem top33 : topB kK 33 ([bV, n' 0, li [0, 1, 0]]) (.tup [lu [0, 1, 2], n' 0]) = true := by kernel_rfl
theorem top37 : topB kK 37 ([bV, gS]) (.tup [lu [2, 3], n' 0]) = true := by kernel_rfl
theorem top38 : topB kK 38 ([bV, eS, li [0, 1, 0]]) (.tup [lu [0, 1, -1], n' 0]) = true := by kernel_rfl
theorem top46 : topB kK 46 ([bV, n' 2, li [1, -1]]) (.tup [n' 2, lu [1, 0], n' 0]) = true := by kernel_rfl
theorem top50 : topB kK 50 ([bV, n' 0, n' 1]) (.tup [lu [0, 1, 0], n' 0]) = true := by kernel_rfl
theorem top72 : topB kK 72 ([bV, n' 0, n' 2]) (.tup [lu [0, 0], n' 0]) = true := by kernel_rfl
theorem top73 : topB kK 73 ([bV, n' 0, n' 2]) (.tup [lu [0], n' 0]) = true := by kernel_rfl
theorem top69 : topB kK 69 ([bV, n' 2, li [1, 1, 0], li [1, 0, 0]]) (.tup [lu [1, 0, 0], n' 1, n' 0]) = true := by kernel_rfl
theorem top65 : topB kK 65 ([bV, n' 0]) (.tup [.agg [.sl 2 [.sl 2 [n' 1, n' 0, n' 0, n' 1] .unk, .sl 2 [n' 0, n' 2, n' 1, n' 1] .unk] .unk], n' 0]) = true := by kernel_rfl
theorem top62 : topB kK 62 ([bV, gS]) (.tup [lu [1], n' 0]) = true := by kernel_rfl
theorem top53 : topB kK 53 ([bV, nilS]) (.tup [lu [0, 1, 0, 0], n' 0]) = true := by kernel_rfl
theorem top57 : topB kK 57 ([bV, nilS, ev0]) (.tup [n' 0, n' 4, n' 0]) = true := by kernel_rfl
theorem top74 : topB kK 74 ([bV, eS, .agg [li [0], li [0]], n' 2]) (.tup [lu [0], n' 0]) = true := by kernel_rfl
theorem top90 : topB kK 90 ([]) (bV) = true := by kernel_rfl
theorem top88 : topB kK 88 ([]) (eV) = true := by kernel_rfl
theorem top89 : topB kK 89 ([]) (gV) = true := by kernel_rfl
def knownRows : List TopRow := [
 ⟨33, [bV, n' 0, li [0, 1, 0]], .tup [lu [0, 1, 2], n' 0]⟩,
 ⟨37, [bV, gS], .tup [lu [2, 3], n' 0]⟩,
 ⟨38, [bV, eS, li [0, 1, 0]], .tup [lu [0, 1, -1], n' 0]⟩,
 ⟨46, [bV, n' 2, li [1, -1]], .tup [n' 2, lu [1, 0], n' 0]⟩,
 ⟨50, [bV, n' 0, n' 1], .tup [lu [0, 1, 0], n' 0]⟩,
 ⟨72, [bV, n' 0, n' 2], .tup [lu [0, 0], n' 0]⟩,
 ⟨73, [bV, n' 0, n' 2], .tup [lu [0], n' 0]⟩,
 ⟨69, [bV, n' 2, li [1, 1, 0], li [1, 0, 0]], .tup [lu [1, 0, 0], n' 1, n' 0]⟩,
 ⟨65, [bV, n' 0], .tup [.agg [.sl 2 [.sl 2 [n' 1, n' 0, n' 0, n' 1] .unk, .sl 2 [n' 0, n' 2, n' 1, n' 1] .unk] .unk], n' 0]⟩,
 ⟨62, [bV, gS], .tup [lu [1], n' 0]⟩,
 ⟨53, [bV, nilS], .tup [lu [0, 1, 0, 0], n' 0]⟩,
 ⟨57, [bV, nilS, ev0], .tup [n' 0, n' 4, n' 0]⟩,
 ⟨74, [bV, eS, .agg [li [0], li [0]], n' 2], .tup [lu [0], n' 0]⟩,
 ⟨90, [], bV⟩,
 ⟨88, [], eV⟩,
 ⟨89, [], gV⟩]
theorem knownRows_right : RowsRight knownRows := by
 intro r hr
 simp only [knownRows, List.mem_cons, List.not_mem_nil, or_false] at hr
 rcases hr with rfl | rfl | rfl | rfl | rfl | rfl | rfl | rfl | rfl | rfl | rfl | rfl | rfl | rfl | rfl | rfl
 ·exact top_right mixed kK_right top33
 ·exact top_right mixed kK_right top37
 ·exact top_right mixed kK_right top38
 ·exact top_right mixed kK_right top46
 ·exact top_right mixed kK_right top50
 ·exact top_right mixed kK_right top72
 ·exact top_right mixed kK_right top73
 ·exact top_right mixed kK_right top69
 ·exact top_right mixed kK_right top65
 ·exact top_right mixed kK_right top62
 ·exact top_right mixed kK_right top53
 ·exact top_right mixed kK_right top57
 ·exact top_right mixed kK_right top74
 ·exact top_right mixed kK_right top90
 ·exact top_right mixed kK_right top88
 ·exact top_right mixed kK_right top89
noncomputable def kTold2 (f : FuncId) : Option (CallT → CallT) :=
 bif knownRows.any (fun r => Nat.beq r.f f) then some fun _ => toldRows knownRows else kTold f
noncomputable def kKnown : Know := ⟨kK.muts, kK.alone, kTold2⟩
theorem kKnown_right : kKnown.Right Tryz.prog := by
 intro f T h call hc args t n
 have h' : kTold2 f = some T := h
 unfold kTold2 at h'
 cases hb : knownRows.any (fun r => Nat.beq r.f f) with
 | true =>
  rw [hb, cond_true] at h'
  cases h'
  exact toldRows_right knownRows_right f args t n
 | false =>
  rw [hb, cond_false] at h'
  exact kTold_right h' hc args t n
end Go.Vm

namespace Go.Vm
open Go.Proofs
theorem topKnown : topB kKnown 30 [] (.lit (.bool true)) = true := by kernel_rfl
theorem known_call (H : List Blk) : ACall Tryz.prog 30 [] H (.ret (.lit (.bool true))) H := top_right mixed kKnown_right topKnown H
end Go.Vm
