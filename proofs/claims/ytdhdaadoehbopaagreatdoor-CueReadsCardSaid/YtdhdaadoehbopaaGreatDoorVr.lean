/-
  From the readings of a row's arguments to abstract values, and from a contract to a row's end: what all laws of layer 4 share. Conditions: none.
-/
import Derived.Test.YtdhdaadoehbopaaGreatDoorVc
import Derived.KernelRfl
import Derived.OpenShut
import Derived.ProofKit
import Derived.LaidMore
import Derived.Lay
import Derived.Stop.Joined

namespace Go.Vm
open Go.Proofs
theorem indexOp_sl {P : Program} {t elem n len : Nat} {cells : List AV} {tl : Tail} {k : IntKind} {i : Int} (hu : P.underlying t = some (.slice elem)) (hs : tsz P elem = some n) (h : 0 ≤ i ∧ i < len ∧ i.toNat * n + n ≤ cells.length ∧ 0 < n) :
  indexOp P t (.sl len cells tl) (.lit (.int k i)) = some (.eptr ((cells.drop (i.toNat * n)).take n)) := by
 simp only [indexOp, hu, hs]
 rw [if_pos h]
abbrev Move := Int × Int
abbrev Vers := List (List Move)
def eMove (m : Move) : List AV := [n' m.1, n' m.2]
def eState (s : List Move) : AV := .sl s.length (s.flatMap eMove) .unk
def eStates (v : Vers) : AV := .sl v.length (v.map eState) .unk
theorem flat_length : ∀ (s : List Move), (s.flatMap eMove).length = s.length * 2
 | [] => rfl
 | m :: s => by
  rw [List.flatMap_cons, List.length_append, flat_length s, List.length_cons]
  show 2 + s.length * 2 = _
  omega
theorem flat_at : ∀ {s : List Move} {j : Nat} {m : Move}, s[j]? = some m → ((s.flatMap eMove).drop (j * 2)).take 2 = eMove m
 | [], _, _, h => by simp at h
 | m :: s, 0, m', h => by
  simp at h; subst h
  rw [List.flatMap_cons]
  rfl
 | m :: s, j + 1, m', h => by
  have e : (j + 1) * 2 = j * 2 + 2 := by omega
  rw [List.flatMap_cons, e]
  show ((s.flatMap eMove).drop (j * 2)).take 2 = _
  exact flat_at (by simpa using h)
theorem map_at {α : Type} {f : α → AV} {l : List α} {j : Nat} {x : α} (h : l[j]? = some x) : ((l.map f).drop (j * 1)).take 1 = [f x] := by
 have hlt := (List.getElem?_eq_some_iff.1 h).1
 rw [Nat.mul_one, List.drop_eq_getElem_cons (by simpa using hlt)]
 simp [(List.getElem?_eq_some_iff.1 h).2]
theorem unders_map {α : Type} {f : α → AV} {n : Nat} (h : ∀ x, (f x).under n) (l : List α) : AV.unders n (l.map f) := by
 rw [AV.unders_mem]
 intro a ha
 obtain ⟨x, _, rfl⟩ := List.mem_map.1 ha
 exact h x
theorem unders_flat (n : Nat) : ∀ (s : List Move), AV.unders n (s.flatMap eMove)
 | [] => by simp [AV.unders]
 | m :: s => by
  show AV.unders n (n' m.1 :: n' m.2 :: s.flatMap eMove)
  simp only [AV.unders]
  exact ⟨trivial, trivial, unders_flat n s⟩
theorem under_state (n : Nat) (s : List Move) : (eState s).under n := by
 unfold eState
 simp only [AV.under]
 exact ⟨unders_flat n s, trivial⟩
theorem under_states (n : Nat) (v : Vers) : (eStates v).under n := by
 unfold eStates
 simp only [AV.under]
 exact ⟨unders_map (under_state n) v, trivial⟩
end Go.Vm

namespace Go.Vm
open Go.Proofs
theorem freezes_map {α : Type} {g : Nat → Option Blk} {f : α → AV} (h : ∀ x, AV.freeze g (f x) = f x) : ∀ l : List α, AV.freezes g (l.map f) = l.map f
 | [] => rfl
 | x :: l => by
  show AV.freeze g (f x) :: AV.freezes g (l.map f) = _
  rw [h x, freezes_map h l]; rfl
theorem freezes_flat (g : Nat → Option Blk) : ∀ s : List Move, AV.freezes g (s.flatMap eMove) = s.flatMap eMove
 | [] => rfl
 | m :: s => by
  show n' m.1 :: n' m.2 :: AV.freezes g (s.flatMap eMove) = _
  rw [freezes_flat g s]; rfl
theorem freeze_state (g : Nat → Option Blk) (s : List Move) : AV.freeze g (eState s) = eState s := by
 show AV.sl s.length (AV.freezes g (s.flatMap eMove)) .unk = _
 rw [freezes_flat]; rfl
theorem freeze_states (g : Nat → Option Blk) (v : Vers) : AV.freeze g (eStates v) = eStates v := by
 show AV.sl v.length (AV.freezes g (v.map eState)) .unk = _
 rw [freezes_map (freeze_state g)]; rfl
end Go.Vm

namespace Go.Vm
open Go.Proofs
def mv (v : Vers) (s c : Nat) : Move := (v.getD s []).getD c (0, 0)
def after (v : Vers) (s : Nat) : List Int → Nat
 | [] => s
 | c :: l => after v (mv v s c.toNat).1.toNat l
def plays (v : Vers) (s : Nat) : List Int → List Int
 | [] => []
 | c :: l => (mv v s c.toNat).2 :: plays v (mv v s c.toNat).1.toNat l
def eInts (l : List Int) : AV := .sl l.length (l.map n') .unk
def eVersion (v : Vers) : AV := .agg [eStates v]
def eVersions (l : List Vers) : AV := .sl l.length (l.map eStates) .unk
structure Book where
 cues : Int
 tunes : Int
 vs : List Vers
def eBook (b : Book) : AV := .agg [n' b.cues, n' b.tunes, eVersions b.vs]
abbrev Evening := List Int × List Int
theorem under_ints (n : Nat) (l : List Int) : AV.unders n (l.map n') := unders_map (fun _ => by simp only [n', AV.under]) l
theorem under_eInts (n : Nat) (l : List Int) : (eInts l).under n := by
 unfold eInts
 simp only [AV.under]
 exact ⟨under_ints n l, trivial⟩
theorem under_eVersion (n : Nat) (v : Vers) : (eVersion v).under n := by
 unfold eVersion
 simp only [AV.under, AV.unders]
 exact ⟨under_states n v, trivial⟩
theorem under_eVersions (n : Nat) (l : List Vers) : (eVersions l).under n := by
 unfold eVersions
 simp only [AV.under]
 exact ⟨unders_map (under_states n) l, trivial⟩
theorem under_eBook (n : Nat) (b : Book) : (eBook b).under n := by
 unfold eBook
 simp only [AV.under, AV.unders, n']
 exact ⟨trivial, trivial, under_eVersions n _, trivial⟩
theorem unders_append {n : Nat} {a b : List AV} (h1 : AV.unders n a) (h2 : AV.unders n b) : AV.unders n (a ++ b) := by
 rw [AV.unders_mem] at *
 intro x hx
 rcases List.mem_append.1 hx with h | h
 ·exact h1 x h
 ·exact h2 x h
end Go.Vm

namespace Go.Vm
open Go.Proofs
abbrev allOut (w : World) : Outer := ⟨fun b => match w.heap[b]? with
 | some (.cells C _ _) => some (some C.size)
 | some _ => some none
 | none => none⟩
def sit0 (w : World) : Sit := ⟨[], fun _ => none, w⟩
theorem allOut_lt {w : World} {b : Nat} {x : Option Nat} (h : (allOut w).out b = some x) : b < w.heap.size := by
 have h' : (match w.heap[b]? with | some (.cells C _ _) => some (some C.size) | some _ => some none | none => none) = some x := h
 cases hb : w.heap[b]? with
 | none => rw [hb] at h'; cases h'
 | some o => exact (Array.getElem?_eq_some_iff.1 hb).1
theorem allOut_at {w : World} {b : Nat} (h : b < w.heap.size) : ∃ x, (allOut w).out b = some x := by
 show ∃ x, (match w.heap[b]? with | some (.cells C _ _) => some (some C.size) | some _ => some none | none => none) = some x
 rw [Array.getElem?_eq_getElem h]
 split
 ·exact ⟨_, rfl⟩
 ·exact ⟨_, rfl⟩
 ·rename_i hh; cases hh
theorem rel0 (w : World) : @Rel (allOut w) (sit0 w) :=
 @Rel.mk (allOut w) (sit0 w) (fun _ _ _ h => by cases h) (fun _ _ _ _ _ h _ => by cases h) (fun _ _ h => ⟨allOut_lt h, fun _ _ h => by cases h⟩)
def RdC {α : Type} (P : Program) (w : World) (t : TypeId) (f : α → List AV) (G : α → Prop) : Prop :=
 ∀ (H : Type) (enc : TypeId × Value → H) base spare held fuel cs x, DataW.trod enc P w base spare held fuel t cs = some x → ∃ a, @VRels (allOut w) (sit0 w) (f a) cs ∧ G a
end Go.Vm

namespace Go.Vm
open Go.Proofs Go.ChangeShapes Go.WideShapes Go.RowKit
structure Kept (W W' : World) : Prop where
 os : W'.os = W.os
 output : W'.output = W.output
 block : ∀ b : Nat, b < W.heap.size → W'.heap[b]? = W.heap[b]?
theorem Kept.same {W W' : World} (h : Kept W W') {p : MemPlace} (hp : p.block < W.heap.size) : W.sameAt W' p := by
 cases p with
 | cell b o => exact World.cell?_of_block (w := W) (h.block b hp)
 | map b => exact h.block b hp
theorem Kept.frame {W W' : World} (h : Kept W W') (may : MemPlace → Prop) : W.keptBut W' may := by
 refine ⟨h.os, h.output, fun i hi => ?_⟩
 rw [h.block i hi]
 split <;> simp_all
theorem law_calls {P : Program} {f : FuncId} {args : Array Value} {W : World} {avs : List AV} (h : ∀ H, ACall P f avs H (.ret (.lit (.bool true))) H) (hrel : @VRels (allOut W) (sit0 W) avs args.toList) :
  Calls P f args W fun e W' => e = .returned (.bool true) ∧ Kept W W' := by
 have hc : CallsIn Fence.wide 0 P f args W _ := h [] (allOut W) (fun _ => none) W args (rel0 W) hrel
 refine (callsIn_wide.1 hc).mono ?_
 rintro e w' ⟨ι', hend, _, hev, _⟩
 cases e with
 | panicked chain => exact hend.elim
 | outgrown => exact hend.elim
 | returned c =>
  have hc' : @VRel (allOut W) ⟨[], ι', w'⟩ (.lit (.bool true)) c := hend
  simp only [VRel] at hc'
  subst hc'
  have h1 := @Ev.rest (allOut W) _ _ hev
  have h2 := @Ev.out (allOut W) _ _ hev
  refine ⟨rfl, h1.1, h1.2, fun b hb => ?_⟩
  obtain ⟨x, hx⟩ := allOut_at hb
  exact h2 b x hx
theorem trodAll_kept {H : Type} {enc : TypeId × Value → H} {P : Program} (hl : laidOutB P = true) {W W' : World} (hk : Kept W W') : ∀ {ts : List TypeId} {vs : List Value} {ds : List (DataW H)} {ps : List MemPlace},
  (ts.all fun t => P.readableRec t && decide (t < P.types.size)) = true → DataW.TrodAll enc P W 0 (fun _ => true) true ts vs ds ps → (∀ x ∈ ps, x.block < W.heap.size) → DataW.TrodAll enc P W' 0 (fun b => decide (b < W.heap.size)) true ts vs ds ps
 | [], [], [], _, _, h, _ => h
 | t :: ts, v :: vs, d :: ds, ps, hr, h, hlt => by
  obtain ⟨p, q, h1, h2, rfl⟩ := h
  rw [List.all_cons, Bool.and_eq_true, Bool.and_eq_true] at hr
  refine ⟨p, q, WideElems.Trod_stays hl hr.1.1 (of_decide_eq_true hr.1.2) h1 (fun x hx => hk.same (hlt x (List.mem_append_left _ hx))) (fun x hx => by simpa using hlt x (List.mem_append_left _ hx)), trodAll_kept hl hk hr.2 h2 (fun x hx => hlt x (List.mem_append_right _ hx)), rfl⟩
 | [], _ :: _, _, _, _, h, _ => h.elim
 | [], [], _ :: _, _, _, h, _ => h.elim
 | _ :: _, [], _, _, _, h, _ => h.elim
 | _ :: _, _ :: _, [], _, _, h, _ => h.elim
theorem law_post {H : Type} {enc : TypeId × Value → H} {P : Program} {f : Func} {s : ChangeSpec} {W W' : World} {args : Array Value} {ds gs : List (DataW H)} {before : List MemPlace} (hl : laidOutB P = true) (hres : f.resultTypes = #[4]) (h4 : P.underlying 4 = some .bool)
  (hts : (f.params.toList.all fun t => P.readableRec t && decide (t < P.types.size)) = true) (hW : DataW.Whole enc P f.params.toList s.vars false W args.toList ds gs before) (hs : s.vars = []) (hfn : s.fn H (ds ++ gs) = { results := [.lit (.bool true)], args := ds }) (hk : Kept W W') :
  s.post enc P f false true false false W args (.bool true) W' := by
 have hW' := hW
 obtain ⟨p, q, hA0, hV, rfl, _, _⟩ := hW
 have hA : DataW.TrodAll enc P W 0 (fun _ => true) true f.params.toList args.toList ds p := hA0
 rw [hs] at hV
 obtain ⟨rfl, rfl⟩ := trodVars_none hV
 refine ⟨ds, [], p ++ [], [], p, [], hW', ?_, ?_, ?_, hk.frame _, fun h => by cases h⟩
 ·rw [hfn, hres]
  exact trodAll_mk1 (shut_bool h4 true)
 ·rw [hfn]
  refine trodAll_kept hl hk hts hA fun x hx => ?_
  have := hW'.lt x (List.mem_append_left _ hx)
  simpa using this
 ·rw [hfn, hs]; rfl
theorem RdC.cell {α : Type} {P : Program} {w : World} {t : TypeId} {f : α → AV} {G : α → Prop} (h : RdC P w t (fun a => [f a]) G) {H : Type} {enc : TypeId × Value → H} {base : Nat} {sp : Nat → Bool} {held : Bool} {v : Value} {d : DataW H} {ps : List MemPlace} (hv : v.cells = #[v])
  (hd : DataW.Trod enc P w base sp held t v d ps) : ∃ a, @VRel (allOut w) (sit0 w) (f a) v ∧ G a := by
 obtain ⟨fuel, hd⟩ := hd
 rw [hv] at hd
 obtain ⟨a, h1, h2⟩ := h H enc _ _ _ _ _ _ hd
 have h1' : @VRels (allOut w) (sit0 w) [f a] [v] := h1
 simp only [VRels, and_true] at h1'
 exact ⟨a, h1', h2⟩
theorem okWide_cell {P : Program} {w : World} {r : Reach} {base : Nat} {t : TypeId} {v : Value} (h : (∃ e, P.underlying t = some (.slice e)) ∨ (∃ k, P.underlying t = some (.int k)) ∨ P.underlying t = some .bool ∨ P.underlying t = some .string) (hv : Value.okWide P w r base t v) : v.cells = #[v] := by
 cases v with
 | agg cs =>
  exfalso
  rcases h with ⟨e, h⟩ | ⟨e, h⟩ | h | h <;> simp [Value.okWide, h, Cell.okWide, Cell.ok] at hv
 | _ => rfl
section
variable {w : World}
end
theorem and_t {a b : Bool} (ha : a = true) (hb : b = true) : (a && b) = true := by rw [ha, hb]; rfl
theorem own : ownKnob Tryz.prog.godebug = none := by kernel_rfl
theorem laidOut : laidOutB Tryz.prog = true := by kernel_rfl
section
variable {H : Type} {enc : TypeId × Value → H} {w : World} {r : Reach} {b0 base : Nat} {sp : Nat → Bool} {held : Bool} {v : Value} {d : DataW H} {ps : List MemPlace}
end
end Go.Vm
