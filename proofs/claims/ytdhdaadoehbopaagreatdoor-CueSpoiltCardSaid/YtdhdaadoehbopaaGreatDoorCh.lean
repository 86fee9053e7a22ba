/-
  Contracts of functions of packages kelirlaw04, kelirref04, kelirref02, cue and slices, for books, evenings and lists as told at each, in every heap. Conditions: at each theorem. (What surely is played; lists of lists.)
-/
import Derived.Test.YtdhdaadoehbopaaGreatDoorCb

namespace Go.Vm
open Go.Proofs
theorem appT_mrow {P : Program} {m : Bool} {g : Nat → Option Blk} {n sT xT e size bytes len k id gen : Nat} {z : Value} {cells new : List AV} {x : AV} (h1 : tslice P sT = some e) (h2 : tsz P e = some size) (h3 : tz P e = some z) (h4 : tbytes P e = some bytes)
  (h5 : (tsrc P xT && (decide (bytes ≤ 2097152) && decide (z.cells.size = size))) = true) (h6 : srcT g size x = some (k, new)) (h7 : 0 < k) (h8 : cells.length = len * size) (h9 : len + k ≤ 2097152) (h10 : g id = some (.mrow gen cells)) (h11 : new.all AV.one = true) :
  appT P m g n sT xT (.msl id gen len size) x = some (.msl id (gen + 1) (len + k) size, .set id (.mrow (gen + 1) (cells ++ new))) := by
 unfold appT
 simp only [h1, h2, h3, h4, h5, h6, h10, if_true]
 rw [if_neg (by omega), if_pos ⟨trivial, trivial, h8, h9, h11⟩]
theorem aop_store {P : Program} {m : Bool} {g : Nat → Option Blk} {n : Nat} {ρ : Operand → Option AV} {o : Oper} {t : TypeId} {x y : Operand} {a u : AV} {d : Dl} (ho : o.op = .store t x y) (hx : ρ x = some a) (hy : ρ y = some u) (h : storeT P g t a u = some d) :
  aopF P m g n ρ o = some (.val (.lit undef) d) := by
 rw [aopF_fun]
 obtain ⟨dst, op, ty, pos, after, guard⟩ := o
 simp only at ho
 subst ho
 simp only [aopT, hx, hy, h]
 rfl
end Go.Vm
