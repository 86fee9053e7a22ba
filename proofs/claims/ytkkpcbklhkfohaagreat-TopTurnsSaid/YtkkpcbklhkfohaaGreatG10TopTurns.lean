/-
  Texts of the proof, part 10: the machine, contracts of functions, plain laws. (Own work.)
-/
import Derived.Test.YtkkpcbklhkfohaaGreatG09TopTurns
import Derived.Test.YtkkpcbklhkfohaaGreatG07TopTurns

namespace Go.Vm
open Go.Proofs Go.RowKit
theorem ACall.try_fine {fv v : AV} {g : FuncId} {first captured : List AV} {H H' : List Blk} {cell : AV} (hf : fnOf fv = some (g, first, captured)) (hc : callable Tryz.prog g = true)
  (h : ACall Tryz.prog g (first ++ captured) (H ++ [.box [.lit (.int .i64 0)] 40]) (.ret v) H') (hb : H'[H.length]? = some (.box [cell] 40)) :
  ACall Tryz.prog 124 [fv] H (.ret (.lit (.int .i64 0))) (H'.set H.length (.box [.lit (.int .i64 0)] 40)) := by
 intro O ι w cs hR hargs
 obtain ⟨l⟩ := cs
 match l, hargs with
 | [], hargs => simp [VRels] at hargs
 | _ :: _ :: _, hargs => simp [VRels] at hargs
 | [c], hargs =>
  simp only [VRels] at hargs
  obtain ⟨F, C, rfl, h1, h2⟩ := fnOf_sound hf hargs.1
  have hev1 := Ev.alloc hR (w' := w.alloc (.cells #[.int .i64 0] 40)) (.box [.lit (.int .i64 0)] 40) 0 rfl
  have hR1 := Rel.alloc hR (w' := w.alloc (.cells #[.int .i64 0] 40)) (.box [.lit (.int .i64 0)] 40) 0 rfl ⟨#[.int .i64 0], World.alloc_heap_new _ _, by simp [VRels, VRel]⟩
  have hcall := h O _ _ (F ++ C) hR1 (by
   have := (h1.ev hev1).append (h2.ev hev1)
   simpa using this)
  refine callsIn_wide.2 (Go.Proofs.try_fine g F C w _ (fun w => run_callFunc hc _ w) ((callsIn_wide.1 hcall).mono ?_))
  rintro e w' ⟨ι', hend, hR', hev, hnon⟩
  cases e with
  | panicked chain => exact hend.elim
  | outgrown => exact hend.elim
  | returned r =>
   have hn : notRow (H ++ [Blk.box [.lit (.int .i64 0)] 40]) H.length := ⟨.box [.lit (.int .i64 0)] 40, by simp, rfl⟩
   obtain ⟨_, e2⟩ := hev.ptr H.length hn
   obtain ⟨wm, hi⟩ := e2 w.heap.size 0 (upd_same ..)
   have hi' : ι' H.length = some (w.heap.size, wm) := hi
   obtain ⟨B, hB, hrel⟩ := hR'.blk H.length _ _ hi'
   have hB' : H'[H.length]? = some B := hB
   rw [hb] at hB'; cases hB'
   have hlt := hrel.block
   obtain ⟨D, hD, hcells⟩ := hrel
   have hD' : w'.heap[w.heap.size]? = some (.cells D 40 (0, 0)) := hD
   have hDl := hcells.length
   have hDs : D.size = 1 := by simpa using hDl.symm
   have hcell : w'.cell? ⟨w.heap.size, 0, none⟩ = some D[0] := by rw [cell_eq, hD']; simp [hDs]
   have hfr : w'.frozen? ⟨w.heap.size, 0, none⟩ = false := by simp [World.frozen?, hD']
   refine ⟨r, _, rfl, hcell, hfr, hlt, ι', by simp [EndRel, VRel], ?_⟩
   have hw : ∀ b', b' ≠ w.heap.size → (w'.setCell ⟨w.heap.size, 0, none⟩ (.int .i64 0)).heap[b']? = w'.heap[b']? := fun b' hne => Below.heap_setCell _ _ _ _ hne
   have hnew : (w'.setCell ⟨w.heap.size, 0, none⟩ (.int .i64 0)).heap[w.heap.size]? = some (.cells (D.setIfInBounds 0 (.int .i64 0)) 40 (0, 0)) := by
    simp only [World.setCell]
    rw [Array.getElem?_modify]
    simp [hD']
   have hev3 := Ev.write hR' (w' := w'.setCell ⟨w.heap.size, 0, none⟩ (.int .i64 0)) (B' := .box [.lit (.int .i64 0)] 40) hi' hb rfl rfl hw
   have hR3 := Rel.write hR' (w' := w'.setCell ⟨w.heap.size, 0, none⟩ (.int .i64 0)) (B' := .box [.lit (.int .i64 0)] 40) hi' hb rfl rfl hw ⟨_, hnew, by
    have : (D.setIfInBounds 0 (.int .i64 0)).toList = [.int .i64 0] := by
     obtain ⟨dl⟩ := D
     match dl, hDs with
     | [x], _ => rfl
    rw [this]; simp [VRels, VRel]⟩
   refine ⟨hR3, (hev1.trans hev).trans hev3, fun id hn0 hnone => ?_⟩
   have hn1 := (hev1.ptr id hn0).1
   have : ι' id = none := hnon id hn1 (by
    show upd ι H.length _ id = none
    rw [upd_other _ _ _ _ (by have := hn0.lt; have : id < H.length := this; omega)]; exact hnone)
   exact this
noncomputable def tryT : CallT → CallT := fun call _ args t n => match args with
  | [fv] => match fnOf fv with
    | some (g, first, captured) => bif callable Tryz.prog g then
        match call g (first ++ captured) (set t n (.box [.lit (.int .i64 0)] 40)) (n + 1) with
        | .ret _ t' n' lo => match get t' n with
          | some (.box [_] 40) => .ret (.lit (.int .i64 0)) (set t' n (.box [.lit (.int .i64 0)] 40)) n' lo
          | _ => .fail "try box"
        | .fail w => .fail w
        | .pan _ _ _ _ => .fail "try"
      else .fail "try"
    | none => .fail "try"
  | _ => .fail "try"
theorem tryT_right (call : CallT) (hcall : SoundC Tryz.prog call) (args : List AV) (t : Trie Blk) (n : Nat) : CRok Tryz.prog 124 args t n (tryT call 124 args t n) := by
 unfold tryT
 split
 case h_2 => trivial
 rename_i fv
 cases hf : fnOf fv with
 | none => trivial
 | some p =>
 obtain ⟨g, first, captured⟩ := p
 simp only
 cases hc : callable Tryz.prog g with
 | false => trivial
 | true =>
 simp only [cond_true]
 have hcf := hcall g (first ++ captured) (set t n (.box [.lit (.int .i64 0)] 40)) (n + 1)
 generalize call g (first ++ captured) (set t n (.box [.lit (.int .i64 0)] 40)) (n + 1) = r at hcf ⊢
 cases r with
 | fail w => trivial
 | pan => trivial
 | ret v t' n' lo =>
  simp only
  split
  case h_2 => trivial
  rename_i cell hg
  intro H hH
  obtain ⟨H', hH', hca, hk⟩ := hcf _ (hH.push _)
  have hl := hH.len
  have hB := hH'.blk _ _ hg
  rw [← hl] at hB
  refine ⟨_, hH'.set (hH'.lt hg) _, by rw [← hl]; exact ACall.try_fine hf hc hca hB, ?_⟩
  refine ⟨by have := hk.le; simp at this ⊢; omega, fun id h1 h2 => ?_, fun id hid => ?_⟩
  ·rw [List.getElem?_set_ne (by omega), hk.low id h1 (by simp; omega), List.getElem?_append_left h2]
  ·have hlt := (List.getElem?_eq_some_iff.1 hid).1
   rw [List.getElem?_set_ne (by omega)]
   exact hk.marks id (keepsD_append _ _ id hid)
end Go.Vm
