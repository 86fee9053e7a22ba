/-
  From the readings of a row's arguments to abstract values, and from a contract to a row's end: what all laws of layer 4 share. Conditions: none.
-/
import Derived.Test.YtdhdaadoehbopaaGreatDoorVc
import Derived.KernelRfl
import Derived.OpenShut
import Derived.ProofKit
import Derived.LaidMore
import Derived.Lay
import Derived.Stop.Joined

namespace Go.Vm
open Go.Proofs
theorem indexOp_sl {P : Program} {t elem n len : Nat} {cells : List AV} {tl : Tail} {k : IntKind} {i : Int} (hu : P.underlying t = some (.slice elem)) (hs : tsz P elem = some n) (h : 0 ≤ i ∧ i < len ∧ i.toNat * n + n ≤ cells.length ∧ 0 < n) :
  indexOp P t (.sl len cells tl) (.lit (.int k i)) = some (.eptr ((cells.drop (i.toNat * n)).take n)) := by
 simp only [indexOp, hu, hs]
 rw [if_pos h]
abbrev Move := Int × Int
abbrev Vers := List (List Move)
def eMove (m : Move) : List AV := [n' m.1, n' m.2]
def eState (s : List Move) : AV := .sl s.length (s.flatMap eMove) .unk
def eStates (v : Vers) : AV := .sl v.length (v.map eState) .unk
theorem flat_length : ∀ (s : List Move), (s.flatMap eMove).length = s.length * 2
 | [] => rfl
 | m :: s => by
  rw [List.flatMap_cons, List.length_append, flat_length s, List.length_cons]
  show 2 + s.length * 2 = _
  omega
theorem flat_at : ∀ {s : List Move} {j : Nat} {m : Move}, s[j]? = some m → ((s.flatMap eMove).drop (j * 2)).take 2 = eMove m
 | [], _, _, h => by simp at h
 | m :: s, 0, m', h => by
  simp at h; subst h
  rw [List.flatMap_cons]
  rfl
 | m :: s, j + 1, m', h => by
  have e : (j + 1) * 2 = j * 2 + 2 := by omega
  rw [List.flatMap_cons, e]
  show ((s.flatMap eMove).drop (j * 2)).take 2 = _
  exact flat_at (by simpa using h)
theorem map_at {α : Type} {f : α → AV} {l : List α} {j : Nat} {x : α} (h : l[j]? = some x) : ((l.map f).drop (j * 1)).take 1 = [f x] := by
 have hlt := (List.getElem?_eq_some_iff.1 h).1
 rw [Nat.mul_one, List.drop_eq_getElem_cons (by simpa using hlt)]
 simp [(List.getElem?_eq_some_iff.1 h).2]
theorem unders_map {α : Type} {f : α → AV} {n : Nat} (h : ∀ x, (f x).under n) (l : List α) : AV.unders n (l.map f) := by
 rw [AV.unders_mem]
 intro a ha
 obtain ⟨x, _, rfl⟩ := List.mem_map.1 ha
 exact h x
theorem unders_flat (n : Nat) : ∀ (s : List Move), AV.unders n (s.flatMap eMove)
 | [] => by simp [AV.unders]
 | m :: s => by
  show AV.unders n (n' m.1 :: n' m.2 :: s.flatMap eMove)
  simp only [AV.unders]
  exact ⟨trivial, trivial, unders_flat n s⟩
theorem under_state (n : Nat) (s : List Move) : (eState s).under n := by
 unfold eState
 simp only [AV.under]
 exact ⟨unders_flat n s, trivial⟩
theorem under_states (n : Nat) (v : Vers) : (eStates v).under n := by
 unfold eStates
 simp only [AV.under]
 exact ⟨unders_map (under_state n) v, trivial⟩
end Go.Vm

namespace Go.Vm
open Go.Proofs
theorem freezes_map {α : Type} {g : Nat → Option Blk} {f : α → AV} (h : ∀ x, AV.freeze g (f x) = f x) : ∀ l : List α, AV.freezes g (l.map f) = l.map f
 | [] => rfl
 | x :: l => by
  show AV.freeze g (f x) :: AV.freezes g (l.map f) = _
  rw [h x, freezes_map h l]; rfl
theorem freezes_flat (g : Nat → Option Blk) : ∀ s : List Move, AV.freezes g (s.flatMap eMove) = s.flatMap eMove
 | [] => rfl
 | m :: s => by
  show n' m.1 :: n' m.2 :: AV.freezes g (s.flatMap eMove) = _
  rw [freezes_flat g s]; rfl
theorem freeze_state (g : Nat → Option Blk) (s : List Move) : AV.freeze g (eState s) = eState s := by
 show AV.sl s.length (AV.freezes g (s.flatMap eMove)) .unk = _
 rw [freezes_flat]; rfl
theorem freeze_states (g : Nat → Option Blk) (v : Vers) : AV.freeze g (eStates v) = eStates v := by
 show AV.sl v.length (AV.freezes g (v.map eState)) .unk = _
 rw [freezes_map (freeze_state g)]; rfl
end Go.Vm

namespace Go.Vm
open Go.Proofs
def mv (v : Vers) (s c : Nat) : Move := (v.getD s []).getD c (0, 0)
def after (v : Vers) (s : Nat) : List Int → Nat
 | [] => s
 | c :: l => after v (mv v s c.toNat).1.toNat l
def plays (v : Vers) (s : Nat) : List Int → List Int
 | [] => []
 | c :: l => (mv v s c.toNat).2 :: plays v (mv v s c.toNat).1.toNat l
def eInts (l : List Int) : AV := .sl l.length (l.map n') .unk
def eVersion (v : Vers) : AV := .agg [eStates v]
def eVersions (l : List Vers) : AV := .sl l.length (l.map eStates) .unk
structure Book where
 cues : Int
 tunes : Int
 vs : List Vers
def eBook (b : Book) : AV := .agg [n' b.cues, n' b.tunes, eVersions b.vs]
abbrev Evening := List Int × List Int
theorem under_ints (n : Nat) (l : List Int) : AV.unders n (l.map n') := unders_map (fun _ => by simp only [n', AV.under]) l
theorem under_eInts (n : Nat) (l : List Int) : (eInts l).under n := by
 unfold eInts
 simp only [AV.under]
 exact ⟨under_ints n l, trivial⟩
theorem under_eVersion (n : Nat) (v : Vers) : (eVersion v).under n := by
 unfold eVersion
 simp only [AV.under, AV.unders]
 exact ⟨under_states n v, trivial⟩
theorem under_eVersions (n : Nat) (l : List Vers) : (eVersions l).under n := by
 unfold eVersions
 simp only [AV.under]
 exact ⟨unders_map (under_states n) l, trivial⟩
theorem under_eBook (n : Nat) (b : Book) : (eBook b).under n := by
 unfold eBook
 simp only [AV.under, AV.unders, n']
 exact ⟨trivial, trivial, under_eVersions n _, trivial⟩
theorem unders_append {n : Nat} {a b : List AV} (h1 : AV.unders n a) (h2 : AV.unders n b) : AV.unders n (a ++ b) := by
 rw [AV.unders_mem] at *
 intro x hx
 rcases List.mem_append.1 hx with h | h
 ·exact h1 x h
 ·exact h2 x h
end Go.Vm

namespace Go.Vm
open Go.Proofs
abbrev allOut (w : World) : Outer := ⟨fun b => match w.heap[b]? with
 | some (.cells C _ _) => some (some C.size)
 | some _ => some none
 | none => none⟩
def sit0 (w : World) : Sit := ⟨[], fun _ => none, w⟩
theorem allOut_lt {w : World} {b : Nat} {x : Option Nat} (h : (allOut w).out b = some x) : b < w.heap.size := by
 have h' : (match w.heap[b]? with | some (.cells C _ _) => some (some C.size) | some _ => some none | none => none) = some x := h
 cases hb : w.heap[b]? with
 | none => rw [hb] at h'; cases h'
 | some o => exact (Array.getElem?_eq_some_iff.1 hb).1
theorem allOut_at {w : World} {b : Nat} (h : b < w.heap.size) : ∃ x, (allOut w).out b = some x := by
 show ∃ x, (match w.heap[b]? with | some (.cells C _ _) => some (some C.size) | some _ => some none | none => none) = some x
 rw [Array.getElem?_eq_getElem h]
 split
 ·exact ⟨_, rfl⟩
 ·exact ⟨_, rfl⟩
 ·rename_i hh; cases hh
theorem rel0 (w : World) : @Rel (allOut w) (sit0 w) :=
 @Rel.mk (allOut w) (sit0 w) (fun _ _ _ h => by cases h) (fun _ _ _ _ _ h _ => by cases h) (fun _ _ h => ⟨allOut_lt h, fun _ _ h => by cases h⟩)
theorem fix0 {w : World} {b : Nat} {C : Array Value} {t : TypeId} {f : Nat × Nat} {lim : Nat} (h : w.heap[b]? = some (.cells C t f)) (hl : lim ≤ C.size) : @Fix (allOut w) (sit0 w) b lim := by
 refine ⟨C, t, f, h, hl, fun id wm e => (by cases e), fun x hx => ?_⟩
 have hx' : (match w.heap[b]? with | some (.cells C _ _) => some (some C.size) | some _ => some none | none => none) = some x := hx
 rw [h] at hx'
 cases hx'
 exact ⟨_, rfl, hl⟩
def RdC {α : Type} (P : Program) (w : World) (t : TypeId) (f : α → List AV) (G : α → Prop) : Prop :=
 ∀ (H : Type) (enc : TypeId × Value → H) base spare held fuel cs x, DataW.trod enc P w base spare held fuel t cs = some x → ∃ a, @VRels (allOut w) (sit0 w) (f a) cs ∧ G a
theorem RdC.int {P : Program} {w : World} {t : TypeId} (ht : P.underlying t = some (.int .i64)) : RdC P w t (fun n => [n' n]) (fun n => -9223372036854775808 ≤ n ∧ n ≤ 9223372036854775807) := by
 intro H enc base spare held fuel cs x h
 obtain ⟨n, rfl, _, hwf⟩ := DataW.trod_int ht h
 refine ⟨n, ?_, ?_⟩
 ·simp only [VRels, n', VRel, and_true]
 ·simp [Lit.wf, IntKind.min, IntKind.max, IntKind.signed, IntKind.bits] at hwf
  exact hwf
theorem cells_at {w : World} {base : Nat} {a : Addr} {n : Nat} {cs : List Value} (h : w.cells? base a n = some cs) : cs.length = n ∧ ∀ i, i < n → w.cell? (a.add i) = cs[i]? := by
 unfold World.cells? at h
 split at h
 ·have hl := mapM_some_length h
  rw [List.length_range] at hl
  exact ⟨hl.symm ▸ rfl, fun i hi => by simpa using mapM_some_get h i i (by simp [hi])⟩
 ·cases h
theorem RdC.slice {α : Type} {P : Program} {w : World} {t e : TypeId} {f : α → List AV} {G : α → Prop} {n : Nat} (ht : P.underlying t = some (.slice e)) (hc : P.cellsOf e = n) (hn : 0 < n) (_hf : ∀ a, (f a).length = n) (he : RdC P w e f G) :
  RdC P w t (fun l : List α => [.sl l.length (l.flatMap f) .unk]) (fun l => (∀ a ∈ l, G a) ∧ l.length ≤ maxLen) := by
 intro H enc base spare held fuel cs x h
 rcases DataW.trod_slice ht h with ⟨rfl, _⟩ | ⟨a, len, cap, elems, rest, m, _, rfl, _, _, hle, hcap, hel, hall, _, _⟩
 ·refine ⟨[], ?_, ?_, Nat.zero_le _⟩
  ·simp only [VRels, VRel, and_true]
   exact ⟨none, 0, rfl, Nat.le_refl _, .inl rfl, trivial⟩
  ·intro a h; cases h
 ·rw [hc] at hall
  have key : ∀ k, k ≤ len → ∃ l : List α, l.length = k ∧ (∀ a ∈ l, G a) ∧ ∃ cs : List Value, @VRels (allOut w) (sit0 w) (l.flatMap f) cs ∧ cs.length = k * n ∧ ∀ i c, cs[i]? = some c → w.cell? ⟨a.block, a.off + i, none⟩ = some c := by
   intro k
   induction k with
   | zero => intro _; exact ⟨[], rfl, fun _ h => (by cases h), [], (by simp [VRels]), (by simp), fun i c h => (by simp at h)⟩
   | succ k ih =>
    intro hk
    obtain ⟨l, h1, h2, cs, h3, h4, h5⟩ := ih (by omega)
    have hx := hall k (by omega)
    have hek : elems[k]? = some elems[k] := List.getElem?_eq_getElem (by omega)
    rw [hek] at hx
    obtain ⟨cs', g1, g2⟩ := Option.bind_eq_some_iff.1 hx
    obtain ⟨y, g3, g4⟩ := he H enc _ _ _ _ _ _ g2
    obtain ⟨g5, g6⟩ := cells_at g1
    refine ⟨l ++ [y], by simp [h1], fun b hb => ?_, cs ++ cs', ?_, by rw [List.length_append, h4, g5, Nat.succ_mul], fun i c hi => ?_⟩
    ·rcases List.mem_append.1 hb with hb | hb
     ·exact h2 b hb
     ·rw [List.mem_singleton] at hb; subst hb; exact g4
    ·rw [List.flatMap_append]
     refine @VRels.append (allOut w) _ _ _ _ _ h3 ?_
     simpa using g3
    ·rcases Nat.lt_or_ge i cs.length with hlt | hge
     ·rw [List.getElem?_append_left hlt] at hi
      exact h5 i c hi
     ·rw [List.getElem?_append_right hge] at hi
      have hlt : i - cs.length < n := by
       have := (List.getElem?_eq_some_iff.1 hi).1
       omega
      have g7 := g6 _ hlt
      rw [hi] at g7
      have hsome : ∀ (b : Addr), w.cell? b = some c → b.spot = none := by
       intro b hb
       unfold World.cell? at hb
       split at hb
       ·split at hb
        ·cases hb
        ·rename_i hs
         simpa using hs
       ·cases hb
      have hs := hsome _ g7
      have e : (a.add (k * n)).add (i - cs.length) = ⟨a.block, a.off + i, none⟩ := by
       have hb : ∀ (b : Addr) (j : Nat), (b.add j).block = b.block ∧ (b.add j).off = b.off + j := by
        intro b j
        unfold Addr.add
        split
        ·rename_i h; subst h; exact ⟨rfl, rfl⟩
        ·exact ⟨rfl, rfl⟩
       have e1 := hb (a.add (k * n)) (i - cs.length)
       have e2 := hb a (k * n)
       have e3 : ∀ (x y : Addr), x.block = y.block → x.off = y.off → x.spot = y.spot → x = y := by
        intro x y h1 h2 h3
        cases x; cases y; simp at h1 h2 h3; subst h1 h2 h3; rfl
       refine e3 _ _ ?_ ?_ hs
       ·rw [e1.1, e2.1]
       ·rw [e1.2, e2.2]; show a.off + k * n + (i - cs.length) = a.off + i; omega
      rw [e] at g7
      exact g7
  obtain ⟨l, h1, h2, cs, h3, h4, h5⟩ := key len (Nat.le_refl _)
  refine ⟨l, ?_, h2, by omega⟩
  subst h1
  simp only [VRels, VRel, and_true]
  refine ⟨some a, cap, rfl, hle, ?_, trivial⟩
  cases hl : l.flatMap f with
  | nil => exact .inl rfl
  | cons x xs =>
   rw [← hl]
   refine .inr ⟨a.block, a.off, ?_, ?_, @VRow.of_vals (allOut w) (sit0 w) _ _ _ _ h3 h5⟩
   ·have hpos : 0 < l.length := by
     cases l with
     | nil => simp at hl
     | cons => simp
    have hx := hall 0 hpos
    have hek : elems[0]? = some elems[0] := List.getElem?_eq_getElem (by omega)
    rw [hek] at hx
    obtain ⟨cs', g1, g2⟩ := Option.bind_eq_some_iff.1 hx
    obtain ⟨g5, g6⟩ := cells_at g1
    have g7 := g6 0 hn
    have : (cs'[0]?) = some cs'[0] := List.getElem?_eq_getElem (by omega)
    rw [this] at g7
    have e : ((a.add (0 * n)).add 0) = a := by
     rw [Nat.zero_mul]; unfold Addr.add; simp
    rw [e] at g7
    unfold World.cell? at g7
    split at g7
    ·split at g7
     ·cases g7
     ·rename_i hs
      have hs' : a.spot = none := by simpa using hs
      cases a; simp at hs'; subst hs'; rfl
    ·cases g7
   ·have hle2 : (l.flatMap f).length = l.length * n := by
     have := @VRels.length (allOut w) _ _ _ h3
     omega
    have hpos : 0 < (l.flatMap f).length := by rw [hl]; simp
    have hlast : cs[(l.flatMap f).length - 1]? = some (cs[(l.flatMap f).length - 1]'(by omega)) := List.getElem?_eq_getElem (by omega)
    have hcell := h5 _ _ hlast
    unfold World.cell? at hcell
    split at hcell
    ·rename_i C t' f' hb
     rw [if_neg (by simp)] at hcell
     have hlt : a.off + ((l.flatMap f).length - 1) < C.size := (Array.getElem?_eq_some_iff.1 hcell).1
     exact fix0 hb (by omega)
    ·cases hcell
theorem RdC.struct1 {α : Type} {P : Program} {w : World} {t : TypeId} {f0 : Field} {f : α → List AV} {G : α → Prop} (ht : P.underlying t = some (.struct #[f0])) (h0 : f0.offset = 0) (hc : P.cellsOf t = P.cellsOf f0.type) (h : RdC P w f0.type f G) : RdC P w t f G := by
 intro H enc base spare held fuel cs x hx
 obtain ⟨xs, m, _, _, hl, hsz, hall⟩ := DataW.trod_struct ht hx
 have hsz' : xs.length = 1 := hsz
 have := hall 0 f0 rfl
 have hxs : ∃ y, xs[0]? = some y := ⟨_, List.getElem?_eq_getElem (by omega)⟩
 obtain ⟨y, hy⟩ := hxs
 rw [hy, h0, List.drop_zero, ← hc, ← hl, List.take_length] at this
 exact h H enc _ _ _ _ _ _ this
theorem RdC.struct2 {α β : Type} {P : Program} {w : World} {t : TypeId} {f0 f1 : Field} {f : α → List AV} {g : β → List AV} {G : α → Prop} {G' : β → Prop} {n0 n1 : Nat} (ht : P.underlying t = some (.struct #[f0, f1])) (h0 : f0.offset = 0) (h1 : f1.offset = n0) (hc : P.cellsOf t = n0 + n1) (hc0 : P.cellsOf f0.type = n0) (hc1 : P.cellsOf f1.type = n1)
  (h : RdC P w f0.type f G) (h' : RdC P w f1.type g G') : RdC P w t (fun p : α × β => f p.1 ++ g p.2) (fun p => G p.1 ∧ G' p.2) := by
 intro H enc base spare held fuel cs x hx
 obtain ⟨xs, m, _, _, hl, hsz, hall⟩ := DataW.trod_struct ht hx
 have hsz' : xs.length = 2 := hsz
 have e0 := hall 0 f0 rfl
 have e1 := hall 1 f1 rfl
 rw [List.getElem?_eq_getElem (by omega), h0, List.drop_zero, hc0] at e0
 rw [List.getElem?_eq_getElem (by omega), h1, hc1] at e1
 obtain ⟨a, k1, k2⟩ := h H enc _ _ _ _ _ _ e0
 obtain ⟨b, k3, k4⟩ := h' H enc _ _ _ _ _ _ e1
 refine ⟨(a, b), ?_, k2, k4⟩
 have := @VRels.append (allOut w) _ _ _ _ _ k1 k3
 rw [List.take_of_length_le (l := cs.drop n0) (by rw [List.length_drop]; omega), List.take_append_drop] at this
 exact this
theorem RdC.struct3 {α β γ : Type} {P : Program} {w : World} {t : TypeId} {f0 f1 f2 : Field} {f : α → List AV} {g : β → List AV} {k : γ → List AV} {G : α → Prop} {G' : β → Prop} {G'' : γ → Prop} {n0 n1 n2 : Nat} (ht : P.underlying t = some (.struct #[f0, f1, f2])) (h0 : f0.offset = 0) (h1 : f1.offset = n0) (h2 : f2.offset = n0 + n1) (hc : P.cellsOf t = n0 + n1 + n2)
  (hc0 : P.cellsOf f0.type = n0) (hc1 : P.cellsOf f1.type = n1) (hc2 : P.cellsOf f2.type = n2)
  (h : RdC P w f0.type f G) (h' : RdC P w f1.type g G') (h'' : RdC P w f2.type k G'') : RdC P w t (fun p : α × β × γ => f p.1 ++ (g p.2.1 ++ k p.2.2)) (fun p => G p.1 ∧ G' p.2.1 ∧ G'' p.2.2) := by
 intro H enc base spare held fuel cs x hx
 obtain ⟨xs, m, _, _, hl, hsz, hall⟩ := DataW.trod_struct ht hx
 have hsz' : xs.length = 3 := hsz
 have e0 := hall 0 f0 rfl
 have e1 := hall 1 f1 rfl
 have e2 := hall 2 f2 rfl
 rw [List.getElem?_eq_getElem (by omega), h0, List.drop_zero, hc0] at e0
 rw [List.getElem?_eq_getElem (by omega), h1, hc1] at e1
 rw [List.getElem?_eq_getElem (by omega), h2, hc2] at e2
 obtain ⟨a, k1, k2⟩ := h H enc _ _ _ _ _ _ e0
 obtain ⟨b, k3, k4⟩ := h' H enc _ _ _ _ _ _ e1
 obtain ⟨c, k5, k6⟩ := h'' H enc _ _ _ _ _ _ e2
 refine ⟨(a, b, c), ?_, k2, k4, k6⟩
 have t1 := @VRels.append (allOut w) _ _ _ _ _ k3 k5
 rw [List.take_of_length_le (l := cs.drop (n0 + n1)) (by rw [List.length_drop]; omega), ← List.drop_drop, List.take_append_drop] at t1
 have t2 := @VRels.append (allOut w) _ _ _ _ _ k1 t1
 rw [List.take_append_drop] at t2
 exact t2
theorem RdC.as {α β : Type} {P : Program} {w : World} {t : TypeId} {f : α → List AV} {G : α → Prop} {f' : β → List AV} {G' : β → Prop} (h : RdC P w t f G) (m : α → β) (hf : ∀ a, G a → f a = f' (m a)) (hG : ∀ a, G a → G' (m a)) : RdC P w t f' G' := by
 intro H enc base spare held fuel cs x hx
 obtain ⟨a, h1, h2⟩ := h H enc _ _ _ _ _ _ hx
 exact ⟨m a, by rw [← hf a h2]; exact h1, hG a h2⟩
end Go.Vm

namespace Go.Vm
open Go.Proofs Go.ChangeShapes Go.WideShapes Go.RowKit
structure Kept (W W' : World) : Prop where
 os : W'.os = W.os
 output : W'.output = W.output
 block : ∀ b : Nat, b < W.heap.size → W'.heap[b]? = W.heap[b]?
theorem Kept.same {W W' : World} (h : Kept W W') {p : MemPlace} (hp : p.block < W.heap.size) : W.sameAt W' p := by
 cases p with
 | cell b o => exact World.cell?_of_block (w := W) (h.block b hp)
 | map b => exact h.block b hp
theorem Kept.frame {W W' : World} (h : Kept W W') (may : MemPlace → Prop) : W.keptBut W' may := by
 refine ⟨h.os, h.output, fun i hi => ?_⟩
 rw [h.block i hi]
 split <;> simp_all
theorem law_calls {P : Program} {f : FuncId} {args : Array Value} {W : World} {avs : List AV} (h : ∀ H, ACall P f avs H (.ret (.lit (.bool true))) H) (hrel : @VRels (allOut W) (sit0 W) avs args.toList) :
  Calls P f args W fun e W' => e = .returned (.bool true) ∧ Kept W W' := by
 have hc : CallsIn Fence.wide 0 P f args W _ := h [] (allOut W) (fun _ => none) W args (rel0 W) hrel
 refine (callsIn_wide.1 hc).mono ?_
 rintro e w' ⟨ι', hend, _, hev, _⟩
 cases e with
 | panicked chain => exact hend.elim
 | outgrown => exact hend.elim
 | returned c =>
  have hc' : @VRel (allOut W) ⟨[], ι', w'⟩ (.lit (.bool true)) c := hend
  simp only [VRel] at hc'
  subst hc'
  have h1 := @Ev.rest (allOut W) _ _ hev
  have h2 := @Ev.out (allOut W) _ _ hev
  refine ⟨rfl, h1.1, h1.2, fun b hb => ?_⟩
  obtain ⟨x, hx⟩ := allOut_at hb
  exact h2 b x hx
theorem trodAll_kept {H : Type} {enc : TypeId × Value → H} {P : Program} (hl : laidOutB P = true) {W W' : World} (hk : Kept W W') : ∀ {ts : List TypeId} {vs : List Value} {ds : List (DataW H)} {ps : List MemPlace},
  (ts.all fun t => P.readableRec t && decide (t < P.types.size)) = true → DataW.TrodAll enc P W 0 (fun _ => true) true ts vs ds ps → (∀ x ∈ ps, x.block < W.heap.size) → DataW.TrodAll enc P W' 0 (fun b => decide (b < W.heap.size)) true ts vs ds ps
 | [], [], [], _, _, h, _ => h
 | t :: ts, v :: vs, d :: ds, ps, hr, h, hlt => by
  obtain ⟨p, q, h1, h2, rfl⟩ := h
  rw [List.all_cons, Bool.and_eq_true, Bool.and_eq_true] at hr
  refine ⟨p, q, WideElems.Trod_stays hl hr.1.1 (of_decide_eq_true hr.1.2) h1 (fun x hx => hk.same (hlt x (List.mem_append_left _ hx))) (fun x hx => by simpa using hlt x (List.mem_append_left _ hx)), trodAll_kept hl hk hr.2 h2 (fun x hx => hlt x (List.mem_append_right _ hx)), rfl⟩
 | [], _ :: _, _, _, _, h, _ => h.elim
 | [], [], _ :: _, _, _, h, _ => h.elim
 | _ :: _, [], _, _, _, h, _ => h.elim
 | _ :: _, _ :: _, [], _, _, h, _ => h.elim
theorem law_post {H : Type} {enc : TypeId × Value → H} {P : Program} {f : Func} {s : ChangeSpec} {W W' : World} {args : Array Value} {ds gs : List (DataW H)} {before : List MemPlace} (hl : laidOutB P = true) (hres : f.resultTypes = #[4]) (h4 : P.underlying 4 = some .bool)
  (hts : (f.params.toList.all fun t => P.readableRec t && decide (t < P.types.size)) = true) (hW : DataW.Whole enc P f.params.toList s.vars false W args.toList ds gs before) (hs : s.vars = []) (hfn : s.fn H (ds ++ gs) = { results := [.lit (.bool true)], args := ds }) (hk : Kept W W') :
  s.post enc P f false true false false W args (.bool true) W' := by
 have hW' := hW
 obtain ⟨p, q, hA0, hV, rfl, _, _⟩ := hW
 have hA : DataW.TrodAll enc P W 0 (fun _ => true) true f.params.toList args.toList ds p := hA0
 rw [hs] at hV
 obtain ⟨rfl, rfl⟩ := trodVars_none hV
 refine ⟨ds, [], p ++ [], [], p, [], hW', ?_, ?_, ?_, hk.frame _, fun h => by cases h⟩
 ·rw [hfn, hres]
  exact trodAll_mk1 (shut_bool h4 true)
 ·rw [hfn]
  refine trodAll_kept hl hk hts hA fun x hx => ?_
  have := hW'.lt x (List.mem_append_left _ hx)
  simpa using this
 ·rw [hfn, hs]; rfl
theorem RdC.cell {α : Type} {P : Program} {w : World} {t : TypeId} {f : α → AV} {G : α → Prop} (h : RdC P w t (fun a => [f a]) G) {H : Type} {enc : TypeId × Value → H} {base : Nat} {sp : Nat → Bool} {held : Bool} {v : Value} {d : DataW H} {ps : List MemPlace} (hv : v.cells = #[v])
  (hd : DataW.Trod enc P w base sp held t v d ps) : ∃ a, @VRel (allOut w) (sit0 w) (f a) v ∧ G a := by
 obtain ⟨fuel, hd⟩ := hd
 rw [hv] at hd
 obtain ⟨a, h1, h2⟩ := h H enc _ _ _ _ _ _ hd
 have h1' : @VRels (allOut w) (sit0 w) [f a] [v] := h1
 simp only [VRels, and_true] at h1'
 exact ⟨a, h1', h2⟩
theorem RdC.agg {α : Type} {P : Program} {w : World} {t : TypeId} {f : α → List AV} {G : α → Prop} (h : RdC P w t f G) {H : Type} {enc : TypeId × Value → H} {base : Nat} {sp : Nat → Bool} {held : Bool} {v : Value} {d : DataW H} {ps : List MemPlace} (hv : ∃ cs, v = .agg cs)
  (hd : DataW.Trod enc P w base sp held t v d ps) : ∃ a, @VRel (allOut w) (sit0 w) (.agg (f a)) v ∧ G a := by
 obtain ⟨fuel, hd⟩ := hd
 obtain ⟨cs, rfl⟩ := hv
 obtain ⟨a, h1, h2⟩ := h H enc _ _ _ _ _ _ hd
 refine ⟨a, ?_, h2⟩
 simp only [VRel]
 exact ⟨cs, rfl, h1⟩
theorem okWide_cell {P : Program} {w : World} {r : Reach} {base : Nat} {t : TypeId} {v : Value} (h : (∃ e, P.underlying t = some (.slice e)) ∨ (∃ k, P.underlying t = some (.int k)) ∨ P.underlying t = some .bool ∨ P.underlying t = some .string) (hv : Value.okWide P w r base t v) : v.cells = #[v] := by
 cases v with
 | agg cs =>
  exfalso
  rcases h with ⟨e, h⟩ | ⟨e, h⟩ | h | h <;> simp [Value.okWide, h, Cell.okWide, Cell.ok] at hv
 | _ => rfl
theorem okWide_agg {P : Program} {w : World} {r : Reach} {base : Nat} {t : TypeId} {v : Value} {fs : Array Field} (h : P.underlying t = some (.struct fs)) (hv : Value.okWide P w r base t v) : ∃ cs, v = .agg cs := by
 simp only [Value.okWide, h] at hv
 obtain ⟨cs, hv, _⟩ := hv
 exact ⟨cs, hv⟩
theorem flat_one {α : Type} {f : α → AV} : ∀ l : List α, (l.flatMap fun a => [f a]) = l.map f
 | [] => rfl
 | a :: l => by rw [List.flatMap_cons, flat_one l]; rfl
section
variable {w : World}
def IntOk (n : Int) : Prop := -9223372036854775808 ≤ n ∧ n ≤ 9223372036854775807
theorem rd_int : RdC Tryz.prog w 3 (fun n => [n' n]) IntOk := RdC.int Tryz.underlying3
def IntsOk (l : List Int) : Prop := (∀ n ∈ l, IntOk n) ∧ l.length ≤ maxLen
theorem rd_ints : RdC Tryz.prog w 25 (fun l => [eInts l]) IntsOk :=
 (RdC.slice (e := 3) (n := 1) Tryz.underlying25 (by kernel_rfl) (by omega) (fun _ => rfl) rd_int).as id (fun l _ => by rw [flat_one]; rfl) (fun _ h => h)
def MoveOk (m : Move) : Prop := IntOk m.1 ∧ IntOk m.2
theorem rd_move : RdC Tryz.prog w 116 eMove MoveOk :=
 (RdC.struct2 (n0 := 1) (n1 := 1) (f := fun n => [n' n]) (g := fun n => [n' n]) Tryz.underlying116 rfl rfl (by kernel_rfl) (by kernel_rfl) (by kernel_rfl) rd_int rd_int).as id (fun _ _ => rfl) (fun _ h => h)
def StateOk (s : List Move) : Prop := (∀ m ∈ s, MoveOk m) ∧ s.length ≤ maxLen
theorem rd_state : RdC Tryz.prog w 113 (fun s => [eState s]) StateOk :=
 RdC.slice (e := 116) (n := 2) Tryz.underlying113 (by kernel_rfl) (by omega) (fun _ => rfl) rd_move
def VersRd (v : Vers) : Prop := (∀ s ∈ v, StateOk s) ∧ v.length ≤ maxLen
theorem rd_states : RdC Tryz.prog w 30 (fun v => [eStates v]) VersRd :=
 (RdC.slice (e := 113) (n := 1) Tryz.underlying30 (by kernel_rfl) (by omega) (fun _ => rfl) rd_state).as id (fun l _ => by rw [flat_one]; rfl) (fun _ h => h)
theorem rd_version : RdC Tryz.prog w 32 (fun v => [eStates v]) VersRd :=
 RdC.struct1 Tryz.underlying32 rfl (by kernel_rfl) rd_states
def VsRd (l : List Vers) : Prop := (∀ v ∈ l, VersRd v) ∧ l.length ≤ maxLen
theorem rd_versions : RdC Tryz.prog w 22 (fun l => [eVersions l]) VsRd :=
 (RdC.slice (e := 32) (n := 1) Tryz.underlying22 (by kernel_rfl) (by omega) (fun _ => rfl) rd_version).as id (fun l _ => by rw [flat_one]; rfl) (fun _ h => h)
def BookRd (b : Book) : Prop := IntOk b.cues ∧ IntOk b.tunes ∧ VsRd b.vs
theorem rd_book : RdC Tryz.prog w 24 (fun b => [n' b.cues, n' b.tunes, eVersions b.vs]) BookRd :=
 (RdC.struct3 (n0 := 1) (n1 := 1) (n2 := 1) (f := fun n => [n' n]) (g := fun n => [n' n]) (k := fun l => [eVersions l]) Tryz.underlying24 rfl rfl rfl (by kernel_rfl) (by kernel_rfl) (by kernel_rfl) (by kernel_rfl) rd_int rd_int rd_versions).as (fun p => ⟨p.1, p.2.1, p.2.2⟩) (fun _ _ => rfl) (fun _ h => h)
end
theorem and_t {a b : Bool} (ha : a = true) (hb : b = true) : (a && b) = true := by rw [ha, hb]; rfl
theorem own : ownKnob Tryz.prog.godebug = none := by kernel_rfl
theorem laidOut : laidOutB Tryz.prog = true := by kernel_rfl
section
variable {H : Type} {enc : TypeId × Value → H} {w : World} {r : Reach} {b0 base : Nat} {sp : Nat → Bool} {held : Bool} {v : Value} {d : DataW H} {ps : List MemPlace}
set_option maxRecDepth 100000 in
theorem arg_int (hok : Value.okWide Tryz.prog w r b0 3 v) (hd : DataW.Trod enc Tryz.prog w base sp held 3 v d ps) : ∃ a, @VRel (allOut w) (sit0 w) (n' a) v ∧ IntOk a := rd_int.cell (okWide_cell (.inr (.inl ⟨_, Tryz.underlying3⟩)) hok) hd
set_option maxRecDepth 100000 in
theorem arg_book (hok : Value.okWide Tryz.prog w r b0 24 v) (hd : DataW.Trod enc Tryz.prog w base sp held 24 v d ps) : ∃ a, @VRel (allOut w) (sit0 w) (eBook a) v ∧ BookRd a := rd_book.agg (okWide_agg Tryz.underlying24 hok) hd
end
end Go.Vm
