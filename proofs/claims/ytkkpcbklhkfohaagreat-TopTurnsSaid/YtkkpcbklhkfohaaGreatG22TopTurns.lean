/-
  Texts of the proof, part 22: the machine, contracts of functions, plain laws. (Own work.)
-/
import Derived.Test.YtkkpcbklhkfohaaGreatG21TopTurns
import Derived.Test.YtkkpcbklhkfohaaGreatG15TopTurns

namespace Go.Vm
open Go.Proofs Go.ChangeShapes Go.WideShapes Go.RowKit
theorem RdC.structI {P : Program} {w : World} {t : TypeId} {fs : Array Field} (ht : P.underlying t = some (.struct fs)) (hf : ∀ (i : Nat) (f : Field), fs[i]? = some f → f.type = 3 ∧ f.offset = i) (hc : P.cellsOf t = fs.size) (h3 : P.cellsOf 3 = 1)
  (h : RdC P w 3 (fun n => [n' n]) IntOk) : RdC P w t (fun l : List Int => l.map n') (fun l => l.length = fs.size ∧ ∀ n ∈ l, IntOk n) := by
 intro H enc base spare held fuel cs x hx
 obtain ⟨xs, m, _, _, hl, hsz, hall⟩ := DataW.trod_struct ht hx
 have key : ∀ j, j ≤ fs.size → ∃ l : List Int, @VRels (allOut w) (sit0 w) (l.map n') (cs.drop (fs.size - j)) ∧ l.length = j ∧ ∀ n ∈ l, IntOk n := by
  intro j
  induction j with
  | zero => intro _; exact ⟨[], by rw [Nat.sub_zero, List.drop_of_length_le (by omega)]; trivial, rfl, fun _ h => by cases h⟩
  | succ j ih =>
   intro hj
   obtain ⟨l, k1, k2, k3⟩ := ih (by omega)
   have hlt : fs.size - (j + 1) < fs.size := by omega
   obtain ⟨f, hfe⟩ : ∃ f, fs[fs.size - (j + 1)]? = some f := ⟨_, Array.getElem?_eq_getElem hlt⟩
   obtain ⟨e1, e2⟩ := hf _ f hfe
   have e0 := hall _ f hfe
   rw [List.getElem?_eq_getElem (by omega), e1, e2, h3] at e0
   obtain ⟨a, k4, k5⟩ := h H enc _ _ _ _ _ _ e0
   refine ⟨a :: l, ?_, by rw [List.length_cons, k2], fun n hn => ?_⟩
   ·have t1 := @VRels.append (allOut w) _ _ _ _ _ k4 k1
    rw [show fs.size - j = fs.size - (j + 1) + 1 by omega, ← List.drop_drop, List.take_append_drop] at t1
    exact t1
   ·rcases List.mem_cons.1 hn with rfl | hn
    ·exact k5
    ·exact k3 n hn
 obtain ⟨l, k1, k2, k3⟩ := key fs.size (Nat.le_refl _)
 rw [Nat.sub_self, List.drop_zero] at k1
 exact ⟨l, k1, k2, k3⟩
def LimbRd (x : LimbD) : Prop := IntOk x.par ∧ IntOk x.len ∧ IntOk x.low ∧ IntOk x.high ∧ IntOk x.wear
def FieldRd (x : FieldD) : Prop := IntOk x.xl ∧ IntOk x.xh ∧ IntOk x.yl ∧ IntOk x.yh
def limbC (x : LimbD) : List AV := [n' x.par, n' x.len, n' x.low, n' x.high, n' x.wear]
def eFigL (st : Int) (l : List LimbD) : AV := .agg [n' st, .sl l.length (l.flatMap limbC) .unk]
theorem under_limbs (n : Nat) : ∀ l : List LimbD, AV.unders n (l.flatMap limbC)
 | [] => trivial
 | _ :: l => ⟨trivial, trivial, trivial, trivial, trivial, under_limbs n l⟩
theorem under_eFigL (n : Nat) (st : Int) (l : List LimbD) : (eFigL st l).under n := ⟨trivial, ⟨under_limbs n l, trivial⟩, trivial⟩
section
variable {w : World}
theorem rd_limb : RdC Tryz.prog w 96 limbC LimbRd :=
 (RdC.structI (fs := _) Tryz.underlying96 (fun i f h => by
  match i with
  | 0 => cases h; exact ⟨rfl, rfl⟩
  | 1 => cases h; exact ⟨rfl, rfl⟩
  | 2 => cases h; exact ⟨rfl, rfl⟩
  | 3 => cases h; exact ⟨rfl, rfl⟩
  | 4 => cases h; exact ⟨rfl, rfl⟩
  | i + 5 => cases h) (by kernel_rfl) (by kernel_rfl) rd_int).as (fun l => ⟨l.getD 0 0, l.getD 1 0, l.getD 2 0, l.getD 3 0, l.getD 4 0⟩)
  (fun l h => by
   match l, h.1 with
   | [_, _, _, _, _], _ => rfl)
  (fun l h => by
   match l, h.1, h.2 with
   | [_, _, _, _, _], _, h => exact ⟨h _ (by simp), h _ (by simp), h _ (by simp), h _ (by simp), h _ (by simp)⟩)
theorem rd_span : RdC Tryz.prog w 26 (fun p : Int × Int => [n' p.1, n' p.2]) (fun p => IntOk p.1 ∧ IntOk p.2) :=
 (RdC.struct2 (n0 := 1) (n1 := 1) (f := fun n => [n' n]) (g := fun n => [n' n]) Tryz.underlying26 rfl rfl (by kernel_rfl) (by kernel_rfl) (by kernel_rfl) rd_int rd_int).as id (fun _ _ => rfl) (fun _ h => h)
theorem rd_field : RdC Tryz.prog w 28 fieldC FieldRd :=
 (RdC.struct2 (n0 := 2) (n1 := 2) (f := fun p : Int × Int => [n' p.1, n' p.2]) (g := fun p : Int × Int => [n' p.1, n' p.2]) Tryz.underlying28 rfl rfl (by kernel_rfl) (by kernel_rfl) (by kernel_rfl) rd_span rd_span).as (fun p => ⟨p.1.1, p.1.2, p.2.1, p.2.2⟩) (fun _ _ => rfl) (fun _ h => ⟨h.1.1, h.1.2, h.2.1, h.2.2⟩)
def LimbsRd (l : List LimbD) : Prop := (∀ x ∈ l, LimbRd x) ∧ l.length ≤ maxLen
theorem rd_limbs : RdC Tryz.prog w 22 (fun l : List LimbD => [.sl l.length (l.flatMap limbC) .unk]) LimbsRd :=
 RdC.slice (e := 96) (n := 5) Tryz.underlying22 (by kernel_rfl) (by omega) (fun _ => rfl) rd_limb
def FieldsRd (l : List FieldD) : Prop := (∀ x ∈ l, FieldRd x) ∧ l.length ≤ maxLen
theorem rd_fields : RdC Tryz.prog w 29 (fun l : List FieldD => [.sl l.length (l.flatMap fieldC) .unk]) FieldsRd :=
 RdC.slice (e := 28) (n := 4) Tryz.underlying29 (by kernel_rfl) (by omega) (fun _ => rfl) rd_field
theorem rd_figure : RdC Tryz.prog w 24 (fun p : Int × List LimbD => [n' p.1, .sl p.2.length (p.2.flatMap limbC) .unk]) (fun p => IntOk p.1 ∧ LimbsRd p.2) :=
 (RdC.struct2 (n0 := 1) (n1 := 1) (f := fun n => [n' n]) (g := fun l : List LimbD => [.sl l.length (l.flatMap limbC) .unk]) Tryz.underlying24 rfl rfl (by kernel_rfl) (by kernel_rfl) (by kernel_rfl) rd_int rd_limbs).as id (fun _ _ => rfl) (fun _ h => h)
theorem rd_stage : RdC Tryz.prog w 32 (fun p : FieldD × List FieldD × List Int => fieldC p.1 ++ [.sl p.2.1.length (p.2.1.flatMap fieldC) .unk, eInts p.2.2]) (fun p => FieldRd p.1 ∧ FieldsRd p.2.1 ∧ IntsOk p.2.2) :=
 (RdC.struct3 (n0 := 4) (n1 := 1) (n2 := 1) (f := fieldC) (g := fun l : List FieldD => [.sl l.length (l.flatMap fieldC) .unk]) (k := fun l => [eInts l]) Tryz.underlying32 rfl rfl rfl (by kernel_rfl) (by kernel_rfl) (by kernel_rfl) (by kernel_rfl) rd_field rd_fields rd_ints).as id (fun _ _ => rfl) (fun _ h => h)
end
section
variable {H : Type} {enc : TypeId × Value → H} {w : World} {r : Reach} {b0 base : Nat} {sp : Nat → Bool} {held : Bool} {v : Value} {d : DataW H} {ps : List MemPlace}
set_option maxRecDepth 100000 in
theorem arg_figure (hok : Value.okWide Tryz.prog w r b0 24 v) (hd : DataW.Trod enc Tryz.prog w base sp held 24 v d ps) : ∃ a : Int × List LimbD, @VRel (allOut w) (sit0 w) (eFigL a.1 a.2) v ∧ (IntOk a.1 ∧ LimbsRd a.2) := rd_figure.agg (okWide_agg Tryz.underlying24 hok) hd
set_option maxRecDepth 100000 in
theorem arg_stage (hok : Value.okWide Tryz.prog w r b0 32 v) (hd : DataW.Trod enc Tryz.prog w base sp held 32 v d ps) : ∃ a : FieldD × List FieldD × List Int, @VRel (allOut w) (sit0 w) (eStageL a.1 a.2.1 a.2.2) v ∧ (FieldRd a.1 ∧ FieldsRd a.2.1 ∧ IntsOk a.2.2) := rd_stage.agg (okWide_agg Tryz.underlying32 hok) hd
end
end Go.Vm
