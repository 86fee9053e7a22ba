/-
  Contracts of functions of packages kelirlaw04, kelirref04, kelirref02, cue and slices, for books, evenings and lists as told at each, in every heap. Conditions: at each theorem. (The document's table of first lists that tell states apart.)
-/
import Derived.Test.YtdhdaadoehbopaaGreatDoorCq
import Derived.Test.YtdhdaadoehbopaaGreatDoorVc

namespace Go.Vm
open Go.Proofs
def Tells (v w : Vers) (i j : Nat) (u : List Nat) : Prop := plays v i (cuesI u) ≠ plays w j (cuesI u)
structure DOk (v w : Vers) (K r i j : Nat) (l : List Nat) : Prop where
 yes : l ≠ [] → OkL K l ∧ Tells v w i j l ∧ l.length ≤ r ∧ ∀ u, OkL K u → Tells v w i j u → LE l u
 no : l = [] → ∀ u, OkL K u → u.length ≤ r → ¬ Tells v w i j u
end Go.Vm

namespace Go.Vm
open Go.Proofs
theorem index_hsl {P : Program} {t : TypeId} {elem n id off len cap : Nat} {k : IntKind} {i : Int} (hu : P.underlying t = some (.slice elem)) (hs : tsz P elem = some n) (h : 0 ≤ i ∧ i < len) : indexOp P t (.hsl id off len cap) (.lit (.int k i)) = some (.ptr id (off + i.toNat * n)) := by
 simp only [indexOp, hu, hs]
 rw [if_pos h]
theorem store_ptr {P : Program} {g : Nat → Option Blk} {t : TypeId} {id off : Nat} {cells cells' : List AV} {bt : TypeId} {v : AV} (hg : g id = some (.box cells bt)) (hs : tsz P t = some 1) (ho : off < cells.length) (h1 : v.cellsOf = [v]) (h2 : AV.one v = true) (h3 : cells.take off ++ [v] ++ cells.drop (off + 1) = cells') :
  storeT P g t (.ptr id off) v = some (.set id (.box cells' bt)) := by
 subst h3
 unfold storeT
 simp only [hg, hs, h1]
 rw [if_pos ⟨rfl, ho, by simp [h2]⟩]
 rfl
def cellsR (m : Nat) (f : Nat → AV) : List AV := (List.range m).map f
theorem cellsR_length (m : Nat) (f : Nat → AV) : (cellsR m f).length = m := by unfold cellsR; simp
theorem cellsR_set {m j : Nat} {f f' : Nat → AV} {x : AV} (hj : j < m) (h1 : f' j = x) (h2 : ∀ y, y ≠ j → f' y = f y) : (cellsR m f).take j ++ [x] ++ (cellsR m f).drop (j + 1) = cellsR m f' := by
 apply List.ext_getElem?
 intro y
 unfold cellsR
 rcases Nat.lt_trichotomy y j with h | h | h
 ·rw [List.append_assoc, List.getElem?_append_left (by simp; omega), List.getElem?_take_of_lt h]
  simp only [List.getElem?_map]
  rcases Nat.lt_or_ge y m with hm | hm
  ·rw [List.getElem?_range hm]
   simp [h2 y (by omega)]
  ·omega
 ·subst h
  rw [List.append_assoc, List.getElem?_append_right (by simp; omega)]
  have e : y - (((List.range m).map f).take y).length = 0 := by simp; omega
  rw [e, List.getElem?_map, List.getElem?_range hj]
  simp [h1]
 ·rw [List.getElem?_append_right (by simp; omega)]
  have e : (((List.range m).map f).take j ++ [x]).length = j + 1 := by simp; omega
  rw [e, List.getElem?_drop, show j + 1 + (y - (j + 1)) = y by omega]
  simp only [List.getElem?_map]
  rcases Nat.lt_or_ge y m with hm | hm
  ·rw [List.getElem?_range hm]
   simp [h2 y (by omega)]
  ·rw [List.getElem?_eq_none (by simpa using hm)]
   rfl
end Go.Vm

namespace Go.Vm
open Go.Proofs
def Frz (g : Nat → Option Blk) (a v : AV) : Prop := ∀ (_ : Outer) (S : Sit), Rel S → (∀ id B, g id = some B → S.H[id]? = some B) → ∀ c, VRel S a c → VRel ⟨S.H.take 0, cutι S.ι 0, S.w⟩ v c
def FrzL (g : Nat → Option Blk) (xs vs : List AV) : Prop := ∀ (_ : Outer) (S : Sit), Rel S → (∀ id B, g id = some B → S.H[id]? = some B) → ∀ cs, VRels S xs cs → VRels ⟨S.H.take 0, cutι S.ι 0, S.w⟩ vs cs
theorem Frz.keep {g : Nat → Option Blk} {a : AV} (h : a.under 0) : Frz g a a := fun _ _ _ _ c x => VRel.cut a c h x
theorem FrzL.nil (g : Nat → Option Blk) : FrzL g [] [] := fun _ _ _ _ cs x => by
 cases cs with
 | nil => simp [VRels]
 | cons _ _ => simp [VRels] at x
theorem FrzL.cons {g : Nat → Option Blk} {a v : AV} {xs vs : List AV} (h : Frz g a v) (hs : FrzL g xs vs) : FrzL g (a :: xs) (v :: vs) := fun O S hR hg cs x => by
 cases cs with
 | nil => simp [VRels] at x
 | cons c cs =>
  simp only [VRels] at x ⊢
  exact ⟨h O S hR hg c x.1, hs O S hR hg cs x.2⟩
theorem Frz.hsl {g : Nat → Option Blk} {id len : Nat} {cells cells' : List AV} {bt : TypeId} (hg : g id = some (.box cells bt)) (hl : cells.length = len) (hl' : cells'.length = len) (h : FrzL g cells cells') : Frz g (.hsl id 0 len len) (.sl len cells' .unk) := fun O S hR hS c x => by
 simp only [VRel] at x ⊢
 obtain ⟨b, wm, hi, _, hc⟩ := x
 refine ⟨_, len, hc, Nat.le_refl _, .inr ⟨b, 0, rfl, ?_, ?_⟩, trivial⟩
 ·obtain ⟨B, hB, hrel⟩ := hR.blk id b wm hi
  rw [hS _ _ hg] at hB; cases hB
  obtain ⟨C, hC, hcells⟩ := hrel
  have hlen := hcells.length
  refine ⟨C, bt, (0, 0), hC, by simp at hlen; omega, fun id wm e => by simp [cutι] at e, fun y hy => ?_⟩
  exact absurd hi ((hR.out b y hy).2 id wm)
 ·obtain ⟨B, hB, hrel⟩ := hR.blk id b wm hi
  rw [hS _ _ hg] at hB; cases hB
  obtain ⟨C, hC, hcells⟩ := hrel
  refine VRow.of_vals b (h O S hR hS _ hcells) fun i v hv => ?_
  rw [cell_eq]
  show (match S.w.heap[b]? with | some (.cells c _ _) => c[0 + i]? | _ => none) = _
  rw [hC]
  simpa using hv
theorem fn_ruleH {P : Program} {m : Bool} {f : FuncId} {fn : Func} {c : Code} {args : List AV} {v : AV} (hm : P.follows .mixedOrders = true) (hf : P.funcs[f]? = some fn) (hb : fn.body = some c) (hn : args.length ≤ fn.ntmps)
  (ha : AV.unders 0 args) (hv : v.under 0)
  (h : gCode P m fn.ntmps none c (initVars 0 args) .nil 0 [] noLo fun x e _ => (x = .ret ∨ x = .normal) ∧ e.defs = [] ∧ ∃ vs, resT P (get e.t) e.vars fn.results.toList = some vs ∧ Frz (get e.t) (resV vs) v) (H : List Blk) : ACall P f args H (.ret v) H := by
 obtain ⟨x, e, lo, H', hH', hk', hrun, hx, hd, vs, hres, hfr⟩ := gCode_spec hm c _ _ _ _ _ _ h [] [] HT.nil (Keep.refl _ _)
 have hcr : ACall P f args [] (.ret (resV vs)) H' := by
  rw [hd] at hrun
  exact ACall.intro_marks hf hb hn hrun hx List.nodup_nil (resT_sound hH' hres)
 have h1 : ACall P f args [] (.ret v) [] := by
  intro O ι w cs hR hargs
  refine (hcr O ι w cs hR hargs).mono ?_
  rintro e w' ⟨ι', hend, hR', hev, hnon⟩
  cases e with
  | panicked chain => exact hend.elim
  | outgrown => exact hend.elim
  | returned c =>
   have hev2 := hev.cut
   have hnon2 := hnon.cut
   refine ⟨cutι ι' 0, hfr O ⟨H', ι', w'⟩ hR' hH'.blk c hend, ⟨fun id b wm e => by simp [cutι] at e, fun i j b wm wm' ei _ => by simp [cutι] at ei, fun b x e => ⟨(hR'.out b x e).1, fun i wm h => by simp [cutι] at h⟩⟩, hev2, hnon2⟩
 exact ACall.frame_nil (r := .ret v) h1 ha hv H
theorem NowR.of {α : Type} {x : Option α} {K : α → Prop} {r : α} (h : x = some r) (k : K r) : NowR x K := by
 subst h
 exact k
theorem zeros_cells (x : Value) : ∀ k, (zeros [x] k).map AV.lit = cellsR k fun _ => .lit x := fun k => by
 have e : zeros [x] k = List.replicate k x := by
  induction k with
  | zero => rfl
  | succ k ih =>
   show [x] ++ zeros [x] k = _
   rw [ih]; rfl
 rw [e, List.map_replicate]
 unfold cellsR
 rw [List.map_const', List.length_range]
theorem aop_makeSlice {P : Program} {m : Bool} {g : Nat → Option Blk} {n : Nat} {ρ : Operand → Option AV} {o : Oper} {t e : TypeId} {l c : Operand} {k bytes : Nat} {a : Int} {z x : Value} (ho : o.op = .makeSlice t l c) (hl : ρ l = some (n' a)) (hc : ρ c = some (n' a)) (ha : a = k) (hk : k ≤ 65536)
  (h1 : tslice P t = some e) (h2 : tsz P e = some 1) (h3 : tz P e = some z) (h4 : tbytes P e = some bytes) (h5 : z.cells = #[x]) (h6 : bytes ≤ 65536) :
  aopF P m g n ρ o = some (.val (.hsl n 0 k k) (.push (.box (cellsR k fun _ => .lit x) e))) := by
 subst ha
 rw [aopF_fun]
 obtain ⟨dst, op, ty, pos, after, guard⟩ := o
 simp only at ho
 subst ho
 have hm : makeSliceA P t (n' (k : Int)) (n' (k : Int)) = some (k, k, e, (zeros [x] k).map .lit) := by
  simp only [makeSliceA, n', h1, h2, h3, h4, h5]
  rw [if_pos ⟨rfl, by omega, by omega, by omega, by omega, h6⟩, Int.toNat_natCast]
 simp only [aopT, hl, hc, hm, Option.map_some, zeros_cells]
theorem aop_indexH {P : Program} {m : Bool} {g : Nat → Option Blk} {n : Nat} {ρ : Operand → Option AV} {o : Oper} {t elem : TypeId} {x i : Operand} {id off len cap sz r : Nat} {a : Int} (ho : o.op = .indexAddr t x i) (hx : ρ x = some (.hsl id off len cap)) (hi : ρ i = some (n' a)) (ha : a = r) (hr : r < len)
  (hu : P.underlying t = some (.slice elem)) (hs : tsz P elem = some sz) : aopF P m g n ρ o = some (.val (.ptr id (off + r * sz)) .same) := by
 subst ha
 obtain ⟨dst, op, ty, pos, after, guard⟩ := o
 simp only at ho
 subst ho
 have h := index_hsl (P := P) (t := t) (id := id) (off := off) (len := len) (cap := cap) (k := .i64) (i := (r : Int)) hu hs ⟨by omega, by omega⟩
 rw [Int.toNat_natCast] at h
 show sameR (onAV (fun a => onAV (fun b => indexOp P t a b) (ρ i)) (ρ x)) = _
 rw [hx, hi]
 show sameR (indexOp P t (.hsl id off len cap) (.lit (.int .i64 r))) = _
 rw [h]
 rfl
theorem aop_stP {P : Program} {m : Bool} {g : Nat → Option Blk} {n : Nat} {ρ : Operand → Option AV} {o : Oper} {t : TypeId} {x y : Operand} {a u : AV} {d : Dl} (ho : o.op = .store t x y) (hx : ρ x = some a) (hy : ρ y = some u) (h : storeT P g t a u = some d) :
  aopF P m g n ρ o = some (.val (.lit undef) d) := by
 rw [aopF_fun]
 obtain ⟨dst, op, ty, pos, after, guard⟩ := o
 simp only at ho
 subst ho
 simp only [aopT, hx, hy, h]
 rfl
end Go.Vm
