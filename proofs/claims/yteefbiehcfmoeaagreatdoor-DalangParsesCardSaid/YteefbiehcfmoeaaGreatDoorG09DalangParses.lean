/-
  Texts of the proof, part 9: the machine, contracts of functions, plain laws. (Own work.)
-/
import Derived.Test.YteefbiehcfmoeaaGreatDoorG08DalangParses

namespace Go.Vm
variable {P : Program}
open Classical in
@[reducible] noncomputable def hideO (O : Outer) (H : List Blk) (ι : Nat → Option (Nat × Nat)) (n : Nat) : Outer :=
 ⟨fun b => if h : ∃ p : Nat × Nat, n ≤ p.1 ∧ ι p.1 = some (b, p.2) then some (match H[h.choose.1]? with | some (.row _) => some h.choose.2 | _ => none) else O.out b⟩
theorem hideO_named {O : Outer} {H : List Blk} {ι : Nat → Option (Nat × Nat)} {n : Nat} (hinj : ∀ i j b wm wm', ι i = some (b, wm) → ι j = some (b, wm') → i = j)
  {id b wm : Nat} (hle : n ≤ id) (hi : ι id = some (b, wm)) : (hideO O H ι n).out b = some (match H[id]? with | some (.row _) => some wm | _ => none) := by
 have h : ∃ p : Nat × Nat, n ≤ p.1 ∧ ι p.1 = some (b, p.2) := ⟨(id, wm), hle, hi⟩
 unfold hideO
 simp only
 rw [dif_pos h]
 have hc := h.choose_spec
 have e1 : h.choose.1 = id := hinj _ _ _ _ _ hc.2 hi
 have e2 : h.choose.2 = wm := by
  have := hc.2; rw [e1, hi] at this; simp only [Option.some.injEq, Prod.mk.injEq, true_and] at this; exact this.symm
 rw [e1, e2]
theorem hideO_other {O : Outer} {H : List Blk} {ι : Nat → Option (Nat × Nat)} {n b : Nat} (h : ∀ id wm, n ≤ id → ι id ≠ some (b, wm)) : (hideO O H ι n).out b = O.out b := by
 unfold hideO
 simp only
 rw [dif_neg]
 rintro ⟨p, h1, h2⟩
 exact h _ _ h1 h2
theorem ACall.frame {f : FuncId} {args : List AV} {H0 H0' : List Blk} {r : AEnd} (h : ACall P f args H0 r H0') (hl : H0'.length = H0.length) (ha : AV.unders H0.length args) (hr : r.under H0.length)
  (hb : ∀ B ∈ H0, B.under H0.length) (hb' : ∀ B ∈ H0', B.under H0.length) (H2 : List Blk) : ACall P f args (H0 ++ H2) r (H0' ++ H2) := by
 intro O ι w cs hR hargs
 have hR1 : @Rel O ⟨H0 ++ H2, ι, w⟩ := hR
 have look : ∀ id, id < H0.length → (H0 ++ H2)[id]? = H0[id]? := fun id hlt => List.getElem?_append_left hlt
 have look' : ∀ id, id < H0.length → (H0' ++ H2)[id]? = H0'[id]? := fun id hlt => List.getElem?_append_left (by omega)
 have over : ∀ id, ¬ id < H0.length → (H0' ++ H2)[id]? = (H0 ++ H2)[id]? := fun id hge => by
  rw [List.getElem?_append_right (by omega), List.getElem?_append_right (by omega), hl]
 have cut_lt : ∀ id p, cutι ι H0.length id = some p → id < H0.length ∧ ι id = some p := by
  intro id p e
  unfold cutι at e
  split at e
  ·exact ⟨by assumption, e⟩
  ·cases e
 have cut_of : ∀ id, id < H0.length → cutι ι H0.length id = ι id := fun id hlt => by simp [cutι, hlt]
 have spec1 : ∀ {id b wm : Nat}, H0.length ≤ id → ι id = some (b, wm) → (hideO O (H0 ++ H2) ι H0.length).out b = some (match (H0 ++ H2)[id]? with | some (.row _) => some wm | _ => none) :=
  fun hle hi => hideO_named hR1.inj hle hi
 have spec2 : ∀ {b : Nat}, (∀ id wm, H0.length ≤ id → ι id ≠ some (b, wm)) → (hideO O (H0 ++ H2) ι H0.length).out b = O.out b := fun hx => hideO_other hx
 have p0 : Pass O (hideO O (H0 ++ H2) ι H0.length) (H0 ++ H2) H0 ι (cutι ι H0.length) w H0.length := by
  refine ⟨fun id hlt => (look id hlt).symm, cut_of, fun b lim hF => ?_⟩
  obtain ⟨C, t, f, a, hl, r, ro⟩ := hF
  refine ⟨C, t, f, a, hl, fun id wm e => ?_, fun x e => ?_⟩
  ·obtain ⟨hlt, e'⟩ := cut_lt id _ e
   obtain ⟨⟨g, hg⟩, hle⟩ := r id wm e'
   have hg' : (H0 ++ H2)[id]? = some (.row g) := hg
   rw [look id hlt] at hg'
   exact ⟨⟨g, hg'⟩, hle⟩
  ·by_cases hx : ∃ id wm, H0.length ≤ id ∧ ι id = some (b, wm)
   ·obtain ⟨id, wm, hle, hi⟩ := hx
    rw [spec1 hle hi] at e
    obtain ⟨⟨g, hg⟩, hlw⟩ := r id wm hi
    have hg' : (H0 ++ H2)[id]? = some (.row g) := hg
    rw [hg'] at e
    cases e
    exact ⟨wm, rfl, hlw⟩
   ·rw [spec2 fun id wm hle hi => hx ⟨id, wm, hle, hi⟩] at e
    exact ro x e
 have hR0 : @Rel (hideO O (H0 ++ H2) ι H0.length) ⟨H0, cutι ι H0.length, w⟩ := by
  refine @Rel.mk (hideO O (H0 ++ H2) ι H0.length) _ (fun id b wm e => ?_) (fun i j b wm wm' ei ej => ?_) (fun b x e => ?_) (hR1.tab.more fun b x e => ⟨x, by rw [spec2 fun id wm _ hi => (hR1.out b x e).2 id wm hi]; exact e⟩)
  ·obtain ⟨hlt, e'⟩ := cut_lt id _ e
   obtain ⟨B, hB, hr⟩ := hR1.blk id b wm e'
   have hB' : (H0 ++ H2)[id]? = some B := hB
   rw [look id hlt] at hB'
   exact ⟨B, hB', hr.pass p0 (hb B (List.mem_of_getElem? hB'))⟩
  ·exact hR1.inj i j b wm wm' (cut_lt i _ ei).2 (cut_lt j _ ej).2
  ·by_cases hx : ∃ id wm, H0.length ≤ id ∧ ι id = some (b, wm)
   ·obtain ⟨id, wm, hle, hi⟩ := hx
    refine ⟨hR1.block hi, fun i wm1 e1 => ?_⟩
    obtain ⟨hlt, e'⟩ := cut_lt i _ e1
    have := hR1.inj i id b wm1 wm e' hi
    omega
   ·have e' : O.out b = some x := by rw [← spec2 fun id wm hle hi => hx ⟨id, wm, hle, hi⟩]; exact e
    obtain ⟨k1, k2⟩ := hR1.out b x e'
    exact ⟨k1, fun i wm1 e1 => k2 i wm1 (cut_lt i _ e1).2⟩
 have hargs0 := VRels.pass p0 args cs.toList ha hargs
 have hcall := h (hideO O (H0 ++ H2) ι H0.length) (cutι ι H0.length) w cs hR0 hargs0
 refine hcall.mono ?_
 rintro e w' ⟨ι', hend, hR', hev, hnon⟩
 have hR1' : @Rel (hideO O (H0 ++ H2) ι H0.length) ⟨H0', ι', w'⟩ := hR'
 have hsame : ∀ {id b wm : Nat}, H0.length ≤ id → ι id = some (b, wm) → w'.heap[b]? = w.heap[b]? := fun hle hi => @Ev.out (hideO O (H0 ++ H2) ι H0.length) _ _ hev _ _ (spec1 hle hi)
 have nlt : ∀ id, id < H0.length → (fun id => if id < H0.length then ι' id else ι id) id = ι' id := fun id hlt => by simp [hlt]
 have nge : ∀ id, ¬ id < H0.length → (fun id => if id < H0.length then ι' id else ι id) id = ι id := fun id hlt => by simp [hlt]
 have nohide : ∀ {b : Nat} {x : Option Nat}, O.out b = some x → (hideO O (H0 ++ H2) ι H0.length).out b = some x := fun {b x} e => by
  rw [spec2 fun id wm _ hi => (hR1.out b x e).2 id wm hi]; exact e
 have p1 : Pass (hideO O (H0 ++ H2) ι H0.length) O H0' (H0' ++ H2) ι' (fun id => if id < H0.length then ι' id else ι id) w' H0.length := by
  refine ⟨look', nlt, fun b lim hF => ?_⟩
  obtain ⟨C, t, f, a, hl, r, ro⟩ := hF
  refine ⟨C, t, f, a, hl, fun id wm e => ?_, fun x e => ro x (nohide e)⟩
  by_cases hlt : id < H0.length
  ·have e' : ι' id = some (b, wm) := (nlt id hlt).symm.trans e
   obtain ⟨⟨g, hg⟩, hle⟩ := r id wm e'
   have hg' : H0'[id]? = some (.row g) := hg
   exact ⟨⟨g, (look' id hlt).trans hg'⟩, hle⟩
  ·have e' : ι id = some (b, wm) := (nge id hlt).symm.trans e
   obtain ⟨l, hl1, hl2⟩ := ro _ (spec1 (by omega) e')
   have key : (∃ g, (H0 ++ H2)[id]? = some (.row g)) ∧ l = wm := by
    split at hl1
    ·rename_i g hg; cases hl1; exact ⟨⟨g, hg⟩, rfl⟩
    ·cases hl1
   obtain ⟨⟨g, hg⟩, rfl⟩ := key
   exact ⟨⟨g, (over id hlt).trans hg⟩, hl2⟩
 have hrest : Rest w w' := @Ev.rest (hideO O (H0 ++ H2) ι H0.length) _ _ hev
 have hev' : @Ev O ⟨H0 ++ H2, ι, w⟩ ⟨H0' ++ H2, fun id => if id < H0.length then ι' id else ι id, w'⟩ := by
  refine @Ev.mk O _ _ (fun id hn => ?_) (fun b lim hF => ?_) (fun id g0 hg => ?_) (fun id g0 c0 hg => ?_) (fun b x e => @Ev.out (hideO O (H0 ++ H2) ι H0.length) _ _ hev b x (nohide e)) hrest (fun b x => ?_)
  ·by_cases hlt : id < H0.length
   ·have hn0 : notRow H0 id := by
     obtain ⟨B, hB, hr⟩ := hn
     have hB' : (H0 ++ H2)[id]? = some B := hB
     exact ⟨B, (look id hlt).symm.trans hB', hr⟩
    obtain ⟨k1, k2⟩ := @Ev.ptr (hideO O (H0 ++ H2) ι H0.length) _ _ hev id hn0
    refine ⟨notRow.pass p1 hlt k1, fun b wm e => ?_⟩
    obtain ⟨wm', k3⟩ := k2 b wm ((cut_of id hlt).trans e)
    exact ⟨wm', (nlt id hlt).trans k3⟩
   ·refine ⟨?_, fun b wm e => ⟨wm, (nge id hlt).trans e⟩⟩
    obtain ⟨B, hB, hr⟩ := hn
    exact ⟨B, (over id hlt).trans hB, hr⟩
  ·obtain ⟨k1, k2⟩ := @Ev.fix (hideO O (H0 ++ H2) ι H0.length) _ _ hev b lim (p0.fix b lim hF)
   exact ⟨p1.fix b lim k1, k2⟩
  ·have hg' : (H0 ++ H2)[id]? = some (.row g0) := hg
   by_cases hlt : id < H0.length
   ·rw [look id hlt] at hg'
    obtain ⟨g1, k1, k2, k3⟩ := @Ev.tok (hideO O (H0 ++ H2) ι H0.length) _ _ hev id g0 hg'
    refine ⟨g1, (look' id hlt).trans k1, k2, fun e => ?_⟩
    obtain ⟨k4, k5⟩ := k3 e
    refine ⟨(nlt id hlt).trans (k4.trans (cut_of id hlt)), fun b wm C t hi hC => k5 b wm C t ((cut_of id hlt).trans hi) hC⟩
   ·refine ⟨g0, (over id hlt).trans hg', Nat.le_refl _, fun _ => ⟨nge id hlt, fun b wm C t hi hC => ⟨C, t, ?_, rfl⟩⟩⟩
    exact (hsame (by omega) hi).trans hC
  ·have hg' : (H0 ++ H2)[id]? = some (.mrow g0 c0) := hg
   by_cases hlt : id < H0.length
   ·rw [look id hlt] at hg'
    obtain ⟨B, g1, k1, km, k2, k3⟩ := @Ev.mtok (hideO O (H0 ++ H2) ι H0.length) _ _ hev id g0 c0 hg'
    refine ⟨B, g1, (look' id hlt).trans k1, km, k2, fun e => ?_⟩
    obtain ⟨k6, k4, k5⟩ := k3 e
    exact ⟨k6, (nlt id hlt).trans (k4.trans (cut_of id hlt)), fun b wm C t hi hC => k5 b wm C t ((cut_of id hlt).trans hi) hC⟩
   ·refine ⟨_, g0, (over id hlt).trans hg', rfl, Nat.le_refl _, fun _ => ⟨⟨c0, rfl⟩, nge id hlt, fun b wm C t hi hC => ⟨C, t, ?_, rfl⟩⟩⟩
    exact (hsame (by omega) hi).trans hC
  ·obtain ⟨k1, k2⟩ := @Ev.mark (hideO O (H0 ++ H2) ι H0.length) _ _ hev b ⟨x.1, fun id wm e => x.2 id wm (cut_lt id _ e).2⟩
   refine ⟨k1, fun id wm e => ?_⟩
   by_cases hlt : id < H0.length
   ·exact k2 id wm ((nlt id hlt).symm.trans e)
   ·exact x.2 id wm ((nge id hlt).symm.trans e)
 refine ⟨fun id => if id < H0.length then ι' id else ι id, EndRel.pass p1 hr hend, ?_, hev', fun id hn hnone => ?_⟩
 ·refine @Rel.mk O _ (fun id b wm e => ?_) (fun i j b wm wm' ei ej => ?_) (fun b x e => ?_) (fun N C e => ⟨(hR1.tab N C e).1, (@Rel.tab (hideO O (H0 ++ H2) ι H0.length) _ hR1' N C e).2⟩)
  ·by_cases hlt : id < H0.length
   ·obtain ⟨B, hB, hr⟩ := @Rel.blk (hideO O (H0 ++ H2) ι H0.length) _ hR1' id b wm ((nlt id hlt).symm.trans e)
    exact ⟨B, (look' id hlt).trans hB, hr.pass p1 (hb' B (List.mem_of_getElem? hB))⟩
   ·have e' : ι id = some (b, wm) := (nge id hlt).symm.trans e
    obtain ⟨B, hB, hr⟩ := hR1.blk id b wm e'
    exact ⟨B, (over id hlt).trans hB, hr.ev hev' (hsame (by omega) e')⟩
  ·by_cases h1 : i < H0.length
   ·have ei' := (nlt i h1).symm.trans ei
    by_cases h2 : j < H0.length
    ·exact @Rel.inj (hideO O (H0 ++ H2) ι H0.length) _ hR1' i j b wm wm' ei' ((nlt j h2).symm.trans ej)
    ·exact absurd ei' ((@Rel.out (hideO O (H0 ++ H2) ι H0.length) _ hR1' b _ (spec1 (by omega) ((nge j h2).symm.trans ej))).2 i wm)
   ·have ei' := (nge i h1).symm.trans ei
    by_cases h2 : j < H0.length
    ·exact absurd ((nlt j h2).symm.trans ej) ((@Rel.out (hideO O (H0 ++ H2) ι H0.length) _ hR1' b _ (spec1 (by omega) ei')).2 j wm')
    ·exact hR1.inj i j b wm wm' ei' ((nge j h2).symm.trans ej)
  ·obtain ⟨k1, k2⟩ := @Rel.out (hideO O (H0 ++ H2) ι H0.length) _ hR1' b x (nohide e)
   refine ⟨k1, fun id wm hi => ?_⟩
   by_cases hlt : id < H0.length
   ·exact k2 id wm ((nlt id hlt).symm.trans hi)
   ·exact (hR1.out b x e).2 id wm ((nge id hlt).symm.trans hi)
 ·by_cases hlt : id < H0.length
  ·have hn0 : notRow H0 id := by
    obtain ⟨B, hB, hr⟩ := hn
    have hB' : (H0 ++ H2)[id]? = some B := hB
    exact ⟨B, (look id hlt).symm.trans hB', hr⟩
   exact (nlt id hlt).trans (hnon id hn0 ((cut_of id hlt).trans hnone))
  ·exact (nge id hlt).trans hnone
theorem ACall.frame_nil {f : FuncId} {args : List AV} {r : AEnd} (h : ACall P f args [] r []) (ha : AV.unders 0 args) (hr : r.under 0) (H : List Blk) : ACall P f args H r H :=
 h.frame (H0 := []) rfl ha hr (fun _ h => by cases h) (fun _ h => by cases h) H
def Tail.forget : Tail → Tail
 | .own _ _ _ => .unk
 | t => t
mutual
def AV.forget : AV → AV
 | .lit v => .lit v
 | .agg cells => .agg (AV.forgets cells)
 | .tup vs => .tup (AV.forgets vs)
 | .ptr id off => .ptr id off
 | .eptr cells => .eptr (AV.forgets cells)
 | .sl len cells tail => .sl len (AV.forgets cells) tail.forget
 | .hsl id off len cap => .hsl id off len cap
 | .mp _ => .mpx
 | .fn f first captured => .fn f (AV.forgets first) (AV.forgets captured)
 | .yld id => .yld id
 | .iface t v => .iface t (AV.forget v)
 | .msl id gen len sz => .msl id gen len sz
 | .mptr id gen off => .mptr id gen off
 | .mpx => .mpx
def AV.forgets : List AV → List AV
 | [] => []
 | a :: as => AV.forget a :: AV.forgets as
end
theorem AV.forgets_length : ∀ l : List AV, (AV.forgets l).length = l.length
 | [] => rfl
 | a :: l => by simp [AV.forgets, AV.forgets_length l]
section
variable [Outer]
mutual
theorem VRel.forget {S : Sit} : ∀ (a : AV) (c : Value), VRel S a c → VRel S a.forget c
 | .lit v, c, x => by simpa only [AV.forget] using x
 | .agg cells, c, x => by
  simp only [VRel, AV.forget] at x ⊢
  obtain ⟨C, hc, hr⟩ := x
  exact ⟨C, hc, VRels.forget cells _ hr⟩
 | .tup vs, c, x => by
  simp only [VRel, AV.forget] at x ⊢
  obtain ⟨C, hc, hr⟩ := x
  exact ⟨C, hc, VRels.forget vs _ hr⟩
 | .ptr id off, c, x => by simpa only [AV.forget] using x
 | .eptr cells, c, x => by
  simp only [VRel, AV.forget] at x ⊢
  obtain ⟨b, o, hc, hf, hr⟩ := x
  exact ⟨b, o, hc, by rw [AV.forgets_length]; exact hf, VRow.forget b cells o hr⟩
 | .sl len cells tail, c, x => by
  simp only [VRel, AV.forget] at x ⊢
  obtain ⟨base, cap, hc, hle, hcells, ht⟩ := x
  refine ⟨base, cap, hc, hle, ?_, ?_⟩
  ·rcases hcells with hcells | ⟨b, o, hb', hf, hr⟩
   ·subst hcells; exact .inl rfl
   ·exact .inr ⟨b, o, hb', by rw [AV.forgets_length]; exact hf, VRow.forget b cells o hr⟩
  ·cases tail with
   | unk => trivial
   | full => exact ht
   | own id g sz => trivial
 | .hsl id off len cap, c, x => by simpa only [AV.forget] using x
 | .mp id, c, x => by
  simp only [VRel, AV.forget] at x ⊢
  obtain ⟨b, wm, _, _, hc⟩ := x
  exact ⟨_, hc⟩
 | .fn f first captured, c, x => by
  simp only [VRel, AV.forget] at x ⊢
  obtain ⟨F, C, hc, h1, h2⟩ := x
  exact ⟨F, C, hc, VRels.forget first _ h1, VRels.forget captured _ h2⟩
 | .yld id, c, x => by simpa only [AV.forget] using x
 | .iface t v, c, x => by
  simp only [VRel, AV.forget] at x ⊢
  obtain ⟨y, hc, hr⟩ := x
  exact ⟨y, hc, VRel.forget v y hr⟩
 | .msl id gen len sz, c, x => by simpa only [AV.forget] using x
 | .mptr id gen off, c, x => by simpa only [AV.forget] using x
 | .mpx, c, x => by simpa only [AV.forget] using x
theorem VRels.forget {S : Sit} : ∀ (as : List AV) (cs : List Value), VRels S as cs → VRels S (AV.forgets as) cs
 | [], [], x => by simp [VRels, AV.forgets]
 | [], _ :: _, x => by simp [VRels] at x
 | _ :: _, [], x => by simp [VRels] at x
 | a :: as, c :: cs, x => by
  simp only [VRels, AV.forgets] at x ⊢
  exact ⟨VRel.forget a c x.1, VRels.forget as cs x.2⟩
theorem VRow.forget {S : Sit} (b : Nat) : ∀ (as : List AV) (o : Nat), VRow S b o as → VRow S b o (AV.forgets as)
 | [], o, _ => by simp [VRow, AV.forgets]
 | a :: as, o, x => by
  simp only [VRow, AV.forgets] at x ⊢
  obtain ⟨⟨c, hc, hr⟩, x2⟩ := x
  exact ⟨⟨c, hc, VRel.forget a c hr⟩, VRow.forget b as (o + 1) x2⟩
end
end
theorem ACall.forget_args {f : FuncId} {args : List AV} {H H' : List Blk} {r : AEnd} (h : ACall P f (AV.forgets args) H r H') : ACall P f args H r H' :=
 fun O ι w cs hR hargs => h O ι w cs hR (VRels.forget _ _ hargs)
theorem ACall.forget_ret {f : FuncId} {args : List AV} {H H' : List Blk} {v : AV} (h : ACall P f args H (.ret v) H') : ACall P f args H (.ret v.forget) H' := by
 intro O ι w cs hR hargs
 refine (h O ι w cs hR hargs).mono ?_
 rintro e w' ⟨ι', hend, hR', hev, hnon⟩
 cases e with
 | returned c => exact ⟨ι', VRel.forget _ _ hend, hR', hev, hnon⟩
 | panicked chain => exact hend.elim
 | outgrown => exact hend.elim
theorem ACall.alone {f : FuncId} {args : List AV} {H' : List Blk} {v : AV} (h : ACall P f (AV.forgets args) [] (.ret v) H') (ha : AV.unders 0 (AV.forgets args)) (hr : v.forget.under 0) (H : List Blk) :
  ACall P f args H (.ret v.forget) H := by
 have h1 : ACall P f (AV.forgets args) [] (.ret v.forget) (H'.take 0) := h.forget_ret.cut (H := []) hr (fun B hB => by simp at hB)
 exact (ACall.frame_nil (r := .ret v.forget) (by simpa using h1) ha hr H).forget_args
end Go.Vm

namespace Go.Vm
inductive Dl where
 | same
 | push (B : Blk)
 | set (id : Nat) (B : Blk)
def Dl.app (H : List Blk) : Dl → List Blk
 | .same => H
 | .push B => H ++ [B]
 | .set id B => H.set id B
inductive DR where
 | val (v : AV) (d : Dl)
 | call (f : FuncId) (args : List AV)
 | round (id : Nat) (args : List AV)
 | pan (v : AV)
def DR.app (H : List Blk) : DR → AR
 | .val v d => .val v (d.app H)
 | .call f args => .call f args
 | .round id args => .round id args
 | .pan v => .pan v
def DR.okD (H : List Blk) : DR → Prop
 | .val _ (.set id B) => ∃ B0, H[id]? = some B0 ∧ B0 ≠ .defd ∧ (B.loose = true → B0.loose = true)
 | _ => True
def noLo : Nat := 1000000000
section
variable (P : Program) (m : Bool) (g : Nat → Option Blk) (n : Nat) (ρ : Operand → Option AV)
def loadT (t : TypeId) (x : AV) : Option AV :=
 match x with
 | .ptr id off => match g id with
  | some (.box cells _) => loadA P t (cells.drop off)
  | _ => none
 | .eptr cells => loadA P t cells
 | .mptr id gen off => match g id with
  | some (.mrow g0 cells) => bif Nat.beq g0 gen then loadA P t (cells.drop off) else none
  | _ => none
 | _ => none
def storeT (t : TypeId) (x v : AV) : Option Dl :=
 match x with
 | .ptr id off => match g id, tsz P t with
  | some (.box cells bt), some n => if v.cellsOf.length = n ∧ off + n ≤ cells.length ∧ v.cellsOf.all AV.one = true then some (.set id (.box (splice cells off v.cellsOf) bt)) else none
  | _, _ => none
 | .mptr id gen off => match g id, tsz P t with
  | some (.mrow g0 cells), some n => if g0 = gen ∧ v.cellsOf.length = n ∧ off + n ≤ cells.length ∧ v.cellsOf.all AV.one = true then some (.set id (.mrow g0 (splice cells off v.cellsOf))) else none
  | _, _ => none
 | _ => none
def srcT (size : Nat) (x : AV) : Option (Nat × List AV) :=
 match x with
 | .hsl id off len _ => match g id with
  | some (.box cells _) => if off + len * size ≤ cells.length then some (len, (cells.drop off).take (len * size)) else none
  | _ => none
 | .msl id gen len _ => match g id with
  | some (.mrow g0 cells) => if g0 = gen ∧ len * size ≤ cells.length then some (len, cells.take (len * size)) else none
  | _ => none
 | x => srcCells [] size x
def appT (sT xT : TypeId) (s x : AV) : Option (AV × Dl) :=
 match tslice P sT with
 | none => none
 | some e =>
  match tsz P e, tz P e, tbytes P e with
  | some size, some z, some bytes =>
   if tsrc P xT && (decide (bytes ≤ 2097152) && decide (z.cells.size = size)) then
    match srcT g size x with
    | none => none
    | some (k, new) =>
     match s with
     | .lit (.slice none 0 0) =>
      if k = 0 then some (s, .same)
      else if k ≤ 2097152 then (if m then some (.msl n 0 k size, .push (.mrow 0 new)) else some (.sl k new (.own n 0 size), .push (.row 0))) else none
     | .msl id gen len sz =>
      if k = 0 then some (s, .same)
      else match g id with
       | some (.mrow g0 cells) => if gen = g0 ∧ sz = size ∧ len * size ≤ cells.length ∧ len + k ≤ 2097152 ∧ new.all AV.one = true then some (.msl id (g0 + 1) (len + k) size, .set id (.mrow (g0 + 1) (cells.take (len * size) ++ new))) else none
       | _ => none
     | .sl len cells tail =>
      if k = 0 then some (s, .same)
      else if cells.length = len * size ∧ len + k ≤ 2097152 then
       match tail with
       | .unk => none
       | .full => if m then some (.msl n 0 (len + k) size, .push (.mrow 0 (cells ++ new))) else some (.sl (len + k) (cells ++ new) (.own n 0 size), .push (.row 0))
       | .own id gen sz =>
        match g id with
        | some (.row g0) => if gen = g0 ∧ sz = size ∧ new.all AV.one = true then some (.sl (len + k) (cells ++ new) (.own id (gen + 1) size), .set id (.row (gen + 1))) else none
        | _ => none
      else none
     | _ => none
   else none
  | _, _, _ => none
def plainT (o : Oper) : Option DR :=
 match aop P m [] ρ o with
 | some (.val v _) => some (.val v .same)
 | _ => none
def callT (args : List AV) (c : Call) : Option DR :=
 match c.callee with
 | .value f => match ρ f with
  | none => none
  | some (.yld id) => match g id with
   | some (.loop l) => if args.length = l.params.size then some (.round id args) else none
   | _ => none
  | some fv => match fnOf fv with
   | some (f, first, captured) => some (.call f (first ++ args ++ captured))
   | none => none
 | .invoke r name => match ρ r with
  | some (.iface t v) => (methodA P t name).map fun f => .call f (v :: args)
  | _ => none
 | .builtin .len => match c.argTypes[0]?, args with
  | some t, [.mp id] => match P.underlying t, g id with
   | some (.map _ _), some (.map _ es) => some (.val (.lit (.int .i64 (es.length : Int))) .same)
   | _, _ => none
  | some t, [x] => (lenA P [] t x).map fun (n : Nat) => .val (.lit (.int .i64 (n : Int))) .same
  | _, _ => none
 | .builtin .append => match c.argTypes[0]?, c.argTypes[1]?, args with
  | some sT, some xT, [s, x] => (appT P m g n sT xT s x).map fun p => .val p.1 p.2
  | _, _, _ => none
 | .builtin .max => match args with
  | [.lit (.int k a), .lit (.int _ b)] => some (.val (.lit (.int k (if b > a then b else a))) .same)
  | [.lit (.int k a), .lit (.int _ b), .lit (.int _ c)] => some (.val (.lit (.int k (if c > (if b > a then b else a) then c else (if b > a then b else a)))) .same)
  | _ => none
 | .builtin .min => match args with
  | [.lit (.int k a), .lit (.int _ b)] => some (.val (.lit (.int k (if b < a then b else a))) .same)
  | [.lit (.int k a), .lit (.int _ b), .lit (.int _ c)] => some (.val (.lit (.int k (if c < (if b < a then b else a) then c else (if b < a then b else a)))) .same)
  | _ => none
 | .builtin .delete => match c.argTypes[0]?, args with
  | some t, [.mp id, b] => match tmap P t, conc b with
   | some (sh, _, _), some u => match g id with
    | some (.map sh' es) => if sh.same sh' = true ∧ shOk sh u = true then some (.val (.lit undef) (.set id (.map sh' (mdel es u)))) else none
    | _ => none
   | _, _ => none
  | _, _ => none
 | _ => none
def aopT (o : Oper) : Option DR :=
  match o.op with
  | .alloc t => (tz P t).map fun z => .val (.ptr n 0) (.push (.box (z.cells.toList.map .lit) t))
  | .box t x => (ρ x).map fun v => .val (.ptr n 0) (.push (.box v.cellsOf t))
  | .load t x => match ρ x with
    | some a => (loadT P g t a).map fun v => .val v .same
    | none => none
  | .store t x y => match ρ x, ρ y with
    | some a, some u => (storeT P g t a u).map fun d => .val (.lit undef) d
    | _, _ => none
  | .makeMap t none => (tmap P t).map fun p => .val (.mp n) (.push (.map p.1 []))
  | .makeSlice t l c => match ρ l, ρ c with
    | some a, some b => (makeSliceA P t a b).map fun p => .val (.hsl n 0 p.1 p.2.1) (.push (.box p.2.2.2 p.2.2.1))
    | _, _ => none
  | .range t x => match P.underlying t, ρ x with
    | some .string, some (.lit (.string s)) => some (.val (.ptr n 0) (.push (.iterS s 0)))
    | _, _ => none
  | .next x true => match ρ x with
    | some (.ptr id 0) => match g id with
      | some (.iterS s pos) => if pos < s.size then some (.val (.tup [.lit (.bool true), .lit (goInt pos), .lit (.int .i32 (Utf8.decode s pos).1)]) (.set id (.iterS s (pos + (Utf8.decode s pos).2))))
          else some (.val (.tup [.lit (.bool false)]) .same)
      | _ => none
    | _ => none
  | .lookup t x k ok => match ρ x, ρ k with
    | some (.mp id), some b => match tmap P t, conc b with
      | some (sh, _, e), some v => match g id, tz P e with
        | some (.map sh' es), some z =>
          if sh.same sh' = true ∧ shOk sh v = true then
            match mlook es v with
            | some a => some (.val (if ok = true then .tup [a, .lit (.bool true)] else a) .same)
            | none => some (.val (if ok = true then .tup [.lit z, .lit (.bool false)] else .lit z) .same)
          else none
        | _, _ => none
      | _, _ => none
    | _, _ => none
  | .mapUpdate t x k y | .insert t x k y => match ρ x, ρ k, ρ y with
    | some (.mp id), some b, some c => match tmap P t, conc b with
      | some (sh, _, _), some u => match g id with
        | some (.map sh' es) => if sh.same sh' = true ∧ shOk sh u = true then some (.val (.lit undef) (.set id (.map sh' (mset es u c)))) else none
        | _ => none
      | _, _ => none
    | _, _, _ => none
  | .panic x => match ρ x with
    | some (.iface t v) => some (.pan (.iface t v))
    | _ => none
  | .call c => match aevs ρ c.args.toList with
    | none => none
    | some args => callT P m g n ρ args c
  | _ => plainT P m ρ o
end
section
variable {P : Program} {m : Bool} {g : Nat → Option Blk} {H : List Blk} {ρ : Operand → Option AV} (hg : ∀ id B, g id = some B → H[id]? = some B)
theorem HLe_nil (H : List Blk) : HLe [] H := fun id B h => by simp at h
include hg
theorem loadT_sound {t : TypeId} {x v : AV} (h : loadT P g t x = some v) : loadOp P H t x = some v := by
 unfold loadT at h
 unfold loadOp cellsAt
 split at h
 ·split at h
  ·rename_i hB; simp [hg _ _ hB, h]
  ·cases h
 ·exact h
 ·split at h
  ·rename_i hB
   cases hb : Nat.beq _ _ with
   | false => rw [hb] at h; cases h
   | true =>
    rw [hb] at h
    have e := Nat.eq_of_beq_eq_true hb
    simp only [hg _ _ hB, e, if_true]
    exact h
  ·cases h
 ·cases h
theorem storeT_sound {t : TypeId} {x v : AV} {d : Dl} (h : storeT P g t x v = some d) : storeOp P H t x v = some (d.app H) ∧ ∃ id B, d = .set id B ∧ ∃ B0, H[id]? = some B0 ∧ B0 ≠ .defd ∧ (B.loose = true → B0.loose = true) := by
 unfold storeT at h
 unfold storeOp
 split at h
 ·split at h
  ·rename_i cells bt n hB hn
   split at h
   ·rename_i hc; cases h
    simp only [hg _ _ hB, hn]
    rw [if_pos hc]
    exact ⟨rfl, _, _, rfl, _, hg _ _ hB, by simp, by simp [Blk.loose]⟩
   ·cases h
  ·cases h
 ·split at h
  ·rename_i g0 cells n hB hn
   split at h
   ·rename_i hc; cases h
    simp only [hg _ _ hB, hn]
    rw [if_pos hc]
    exact ⟨rfl, _, _, rfl, _, hg _ _ hB, by simp, by simp [Blk.loose]⟩
   ·cases h
  ·cases h
 ·cases h
theorem srcT_sound {size : Nat} {x : AV} {p : Nat × List AV} (h : srcT g size x = some p) : srcCells H size x = some p := by
 unfold srcT at h
 split at h
 ·split at h
  ·rename_i hB; simp only [srcCells, hg _ _ hB]; exact h
  ·cases h
 ·split at h
  ·rename_i hB; simp only [srcCells, hg _ _ hB]; exact h
  ·cases h
 ·exact srcCells_le (HLe_nil H) h
theorem appT_sound {n : Nat} (hn : H.length = n) {sT xT : TypeId} {s x : AV} {p : AV × Dl} (h : appT P m g n sT xT s x = some p) :
  appA P m H sT xT s x = some (p.1, p.2.app H) ∧ DR.okD H (.val p.1 p.2) := by
 unfold appT at h
 unfold appA
 cases h1 : tslice P sT with
 | none => rw [h1] at h; cases h
 | some e =>
 rw [h1] at h
 simp only at h ⊢
 cases h2 : tsz P e with
 | none => rw [h2] at h; cases h
 | some size =>
 cases h3 : tz P e with
 | none => rw [h2, h3] at h; cases h
 | some z =>
 cases h4 : tbytes P e with
 | none => rw [h2, h3, h4] at h; cases h
 | some bytes =>
 rw [h2, h3, h4] at h
 simp only at h ⊢
 split at h
 case isFalse => cases h
 rename_i hc
 rw [if_pos hc]
 cases h5 : srcT g size x with
 | none => rw [h5] at h; cases h
 | some q =>
 obtain ⟨k, new⟩ := q
 rw [h5] at h
 rw [srcT_sound hg h5]
 simp only at h ⊢
 split at h
 ·split at h
  ·rename_i hk; cases h; rw [if_pos hk]; exact ⟨rfl, trivial⟩
  ·rename_i hk
   rw [if_neg hk]
   split at h
   ·rename_i hk2
    rw [if_pos hk2]
    split at h
    ·rename_i hm; cases h; rw [if_pos hm]; simp [hn, Dl.app, DR.okD]
    ·rename_i hm; cases h; rw [if_neg hm]; simp [hn, Dl.app, DR.okD]
   ·cases h
 ·dsimp only
  split at h
  ·rename_i hk; cases h; rw [if_pos hk]; exact ⟨rfl, trivial⟩
  ·rename_i hk
   rw [if_neg hk]
   split at h
   ·rename_i hB
    rw [hg _ _ hB]
    simp only
    split at h
    ·rename_i hk2; cases h; rw [if_pos hk2]; exact ⟨rfl, _, hg _ _ hB, by simp, by simp [Blk.loose]⟩
    ·cases h
   ·cases h
 ·dsimp only
  split at h
  ·rename_i hk; cases h; rw [if_pos hk]; exact ⟨rfl, trivial⟩
  ·rename_i hk
   rw [if_neg hk]
   split at h
   ·rename_i hk2
    rw [if_pos hk2]
    split at h
    ·cases h
    ·split at h
     ·rename_i hm; cases h; simp only; rw [if_pos hm]; simp [hn, Dl.app, DR.okD]
     ·rename_i hm; cases h; simp only; rw [if_neg hm]; simp [hn, Dl.app, DR.okD]
    ·split at h
     ·rename_i hB
      simp only
      rw [hg _ _ hB]
      simp only
      split at h
      ·rename_i hk2; cases h; rw [if_pos hk2]; exact ⟨rfl, _, hg _ _ hB, by simp, by simp [Blk.loose]⟩
      ·cases h
     ·cases h
   ·cases h
 ·cases h
omit hg in
theorem plainT_sound {o : Oper} {r : DR} (hk : okind o = .plain) (h : plainT P m ρ o = some r) : aop P m H ρ o = some (r.app H) ∧ r.okD H := by
 unfold plainT at h
 split at h
 ·rename_i v H1 ha
  cases h
  exact ⟨(plain_le (HLe_nil H) hk ha).2, trivial⟩
 ·cases h
theorem callT_sound {n : Nat} (hn : H.length = n) {args : List AV} {c : Call} {r : DR} {dst : Option Tmp} {ty : TypeId} {pos : String} {after : Array Edge} {guard : Option (Nat × Bool)}
  (ha : aevs ρ c.args.toList = some args) (h : callT P m g n ρ args c = some r) : aop P m H ρ ⟨dst, .call c, ty, pos, after, guard⟩ = some (r.app H) ∧ r.okD H := by
 unfold callT at h
 simp only [aop, ha]
 split at h
 ·rename_i f hf
  rw [hf]
  simp only
  split at h
  ·cases h
  ·rename_i id hid
   rw [hid]
   simp only
   split at h
   ·rename_i l hl
    rw [hg _ _ hl]
    simp only
    split at h
    ·rename_i hlen; cases h; rw [if_pos hlen]; exact ⟨rfl, trivial⟩
    ·cases h
   ·cases h
  ·rename_i fv hnot hfv
   rw [hfv]
   simp only
   split at h
   ·rename_i f' first captured hfn
    cases h
    cases fv with
    | yld id => exact absurd rfl (hnot id)
    | _ => simp only [hfn]; exact ⟨rfl, trivial⟩
   ·cases h
 ·rename_i rv name hf
  rw [hf]
  simp only
  split at h
  ·rename_i t v hv
   rw [hv]
   obtain ⟨f, hm, rfl⟩ := map_some h
   simp only [hm]
   exact ⟨rfl, trivial⟩
  ·cases h
 ·rename_i hf
  rw [hf]
  simp only
  split at h
  ·rename_i t id ht
   rw [ht]
   split at h
   ·rename_i k e sh es hu hB
    cases h
    simp only [lenA, hu, hg _ _ hB]
    exact ⟨rfl, trivial⟩
   ·cases h
  ·rename_i t x hnot ht
   rw [ht]
   obtain ⟨k, hk, rfl⟩ := map_some h
   simp only [lenA_le (HLe_nil H) hk]
   exact ⟨rfl, trivial⟩
  ·cases h
 ·rename_i hf
  rw [hf]
  simp only
  split at h
  ·rename_i sT xT s x h1 h2
   rw [h1, h2]
   obtain ⟨p, hp, rfl⟩ := map_some h
   obtain ⟨k1, k2⟩ := appT_sound hg hn hp
   simp only [k1]
   exact ⟨rfl, k2⟩
  ·cases h
 ·rename_i hf
  rw [hf]
  split at h
  ·cases h; exact ⟨rfl, trivial⟩
  ·cases h; exact ⟨rfl, trivial⟩
  ·cases h
 ·rename_i hf
  rw [hf]
  split at h
  ·cases h; exact ⟨rfl, trivial⟩
  ·cases h; exact ⟨rfl, trivial⟩
  ·cases h
 ·rename_i hf
  rw [hf]
  simp only
  split at h
  ·rename_i t id b ht
   rw [ht]
   split at h
   ·rename_i sh kt e u hm hv
    split at h
    ·rename_i sh' es hB
     split at h
     ·rename_i hc
      cases h
      simp only [deleteOp, hm, hv, hg _ _ hB, if_pos hc]
      exact ⟨rfl, _, hg _ _ hB, by simp, by simp [Blk.loose]⟩
     ·cases h
    ·cases h
   ·cases h
  ·cases h
 ·cases h
theorem aopT_sound {n : Nat} (hn : H.length = n) {o : Oper} {r : DR} (h : aopT P m g n ρ o = some r) : aop P m H ρ o = some (r.app H) ∧ r.okD H := by
 obtain ⟨dst, op, ty, pos, after, guard⟩ := o
 unfold aopT at h
 cases op with
 | alloc t =>
  obtain ⟨z, hz, rfl⟩ := map_some h
  simp [aop, hz, DR.app, Dl.app, DR.okD, hn]
 | box t x =>
  obtain ⟨z, hz, rfl⟩ := map_some h
  simp [aop, hz, DR.app, Dl.app, DR.okD, hn]
 | load t x =>
  simp only at h
  split at h
  ·rename_i a ha
   obtain ⟨v, hv, rfl⟩ := map_some h
   simp only [aop, ha, Option.bind_some, loadT_sound hg hv]
   exact ⟨rfl, trivial⟩
  ·cases h
 | store t x y =>
  simp only at h
  split at h
  ·rename_i a u ha hu
   obtain ⟨d, hd, rfl⟩ := map_some h
   obtain ⟨k1, id, B, rfl, k2⟩ := storeT_sound hg hd
   simp only [aop, ha, hu, k1]
   exact ⟨rfl, k2⟩
  ·cases h
 | makeMap t r =>
  cases r with
  | none =>
   obtain ⟨z, hz, rfl⟩ := map_some h
   simp [aop, hz, DR.app, Dl.app, DR.okD, hn]
  | some x =>
   simp only [plainT, aop] at h
   cases h
 | makeSlice t l c =>
  simp only at h
  split at h
  ·rename_i a b ha hb
   obtain ⟨p, hp, rfl⟩ := map_some h
   simp [aop, ha, hb, hp, DR.app, Dl.app, DR.okD, hn]
  ·cases h
 | range t x =>
  simp only at h
  split at h
  ·rename_i s h1 h2
   cases h
   simp [aop, h1, h2, DR.app, Dl.app, DR.okD, hn]
  ·cases h
 | next x s =>
  cases s with
  | false => simp only [plainT, aop] at h; cases h
  | true =>
   simp only at h
   split at h
   ·rename_i id hx
    split at h
    ·rename_i s pos hB
     split at h
     ·rename_i hlt
      cases h
      simp only [aop, hx, hg _ _ hB, if_pos hlt]
      exact ⟨rfl, _, hg _ _ hB, by simp, by simp [Blk.loose]⟩
     ·rename_i hlt
      cases h
      simp only [aop, hx, hg _ _ hB, if_neg hlt]
      exact ⟨rfl, trivial⟩
    ·cases h
   ·cases h
 | lookup t x k ok =>
  simp only at h
  split at h
  ·rename_i id b hx hk
   split at h
   ·rename_i sh kt e v hm hv
    split at h
    ·rename_i sh' es z hB hz
     split at h
     ·rename_i hc
      simp only [aop, hx, hk, lookupOp, hm, hv, hg _ _ hB, hz, if_pos hc]
      split at h
      ·rename_i a hl; cases h; rw [hl]; exact ⟨rfl, trivial⟩
      ·rename_i hl; cases h; rw [hl]; exact ⟨rfl, trivial⟩
     ·cases h
    ·cases h
   ·cases h
  ·cases h
 | mapUpdate t x k y =>
  simp only at h
  split at h
  ·rename_i id b c hx hk hy
   split at h
   ·rename_i sh kt e u hm hv
    split at h
    ·rename_i sh' es hB
     split at h
     ·rename_i hc
      cases h
      simp only [aop, hx, hk, hy, updateOp, hm, hv, hg _ _ hB, if_pos hc]
      exact ⟨rfl, _, hg _ _ hB, by simp, by simp [Blk.loose]⟩
     ·cases h
    ·cases h
   ·cases h
  ·cases h
 | insert t x k y =>
  simp only at h
  split at h
  ·rename_i id b c hx hk hy
   split at h
   ·rename_i sh kt e u hm hv
    split at h
    ·rename_i sh' es hB
     split at h
     ·rename_i hc
      cases h
      simp only [aop, hx, hk, hy, updateOp, hm, hv, hg _ _ hB, if_pos hc]
      exact ⟨rfl, _, hg _ _ hB, by simp, by simp [Blk.loose]⟩
     ·cases h
    ·cases h
   ·cases h
  ·cases h
 | panic x =>
  simp only at h
  split at h
  ·rename_i t v hx
   cases h
   simp only [aop, hx]
   exact ⟨rfl, trivial⟩
  ·cases h
 | call c =>
  simp only at h
  split at h
  ·cases h
  ·rename_i args ha
   exact callT_sound hg hn ha h
 | _ => exact plainT_sound rfl h
end
end Go.Vm

namespace Go.Vm
abbrev Arm := Program → Bool → (Nat → Option Blk) → Nat → (Operand → Option AV) → Oper → Option DR
noncomputable section
def onAV {α : Type} (f : AV → Option α) (x : Option AV) : Option α := Option.rec none (fun v => f v) x
def sameR (x : Option AV) : Option DR := Option.rec none (fun v => some (.val v .same)) x
def sameD (x : Option Dl) : Option DR := Option.rec none (fun d => some (.val (.lit undef) d)) x
def litBool (v : Value) : Option Bool := match v with | .bool b => some b | _ => none
def avBool (a : AV) : Option Bool := match a with | .lit v => litBool v | _ => none
def avTup (a : AV) : Option (List AV) := match a with | .tup vs => some vs | _ => none
def pickB (b : Bool) (x y : Option AV) : Option AV := Bool.rec y x b
def aMove : Operand → Arm := fun x _ _ _ _ ρ _ => sameR (ρ x)
def aPick : Operand → Operand → Operand → Arm := fun c a b _ _ _ _ ρ _ => sameR (onAV (fun v => Option.rec none (fun t => pickB t (ρ a) (ρ b)) (avBool v)) (ρ c))
def aLoad : TypeId → Operand → Arm := fun t x P _ g _ ρ _ => sameR (onAV (fun a => loadT P g t a) (ρ x))
def aStore : TypeId → Operand → Operand → Arm := fun t x y P _ g _ ρ _ => sameD (onAV (fun a => onAV (fun u => storeT P g t a u) (ρ y)) (ρ x))
def aBin : BinOp → TypeId → Operand → Operand → TypeId → Arm := fun op t x y _ P _ _ _ ρ _ => sameR (onAV (fun a => onAV (fun b => binB P op t a b) (ρ y)) (ρ x))
def aUn : UnOp → TypeId → Operand → Arm := fun op _ x _ _ _ _ ρ _ => sameR (onAV (fun a => unA op a) (ρ x))
def aField : TypeId → Operand → Nat → Arm := fun t x i P _ _ _ ρ _ => sameR (onAV (fun a => fieldA P t a i) (ρ x))
def aFieldAddr : TypeId → Operand → Nat → Arm := fun t x i P _ _ _ ρ _ => sameR (onAV (fun a => fieldOp P t a i) (ρ x))
def aIndexAddr : TypeId → Operand → Operand → Arm := fun t x y P _ _ _ ρ _ => sameR (onAV (fun a => onAV (fun b => indexOp P t a b) (ρ y)) (ρ x))
def aIndex : TypeId → Operand → Operand → Arm := fun t x y P _ _ _ ρ _ => sameR (onAV (fun a => onAV (fun b => indexA P t a b) (ρ y)) (ρ x))
def aExtract : Operand → Nat → Arm := fun x i _ _ _ _ ρ _ => sameR (onAV (fun a => Option.rec none (fun vs => vs[i]?) (avTup a)) (ρ x))
def aCall : Call → Arm := fun c P m g n ρ _ => Option.rec none (fun args => callT P m g n ρ args c) (aevs ρ c.args.toList)
def arms (op : Op) : Arm :=
 Op.rec (motive := fun _ => Arm) aMove aMove aPick (fun _ => aopT) (fun _ _ => aopT) (fun _ _ => aopT) (fun _ _ _ => aopT) (fun _ _ _ _ => aopT) aLoad aStore (fun _ => aopT) (fun _ => aopT) (fun _ => aopT) aBin aUn
  (fun _ _ _ => aopT) (fun _ _ => aopT) (fun _ _ => aopT) (fun _ _ _ => aopT) (fun _ _ => aopT) (fun _ _ => aopT) (fun _ _ _ => aopT) (fun _ _ _ _ _ => aopT) aFieldAddr aField aIndexAddr aIndex (fun _ _ _ _ => aopT) (fun _ _ _ _ => aopT)
  (fun _ _ _ => aopT) (fun _ _ _ _ => aopT) (fun _ _ => aopT) (fun _ _ => aopT) (fun _ => aopT) (fun _ _ _ _ => aopT) aExtract aCall (fun _ => aopT) (fun _ => aopT) (fun _ => aopT) (fun _ _ => aopT) (fun _ _ _ => aopT) (fun _ _ => aopT) op
def aopF : Arm := fun P m g n ρ o => arms o.op P m g n ρ o
theorem aopF_eq (P : Program) (m : Bool) (g : Nat → Option Blk) (n : Nat) (ρ : Operand → Option AV) (o : Oper) : aopF P m g n ρ o = aopT P m g n ρ o := by
  obtain ⟨dst, op, ty, pos, after, guard⟩ := o
  cases op with
  | move x => simp only [aopF, arms, aMove, aopT, plainT, aop]; cases ρ x <;> rfl
  | assign x => simp only [aopF, arms, aMove, aopT, plainT, aop]; cases ρ x <;> rfl
  | pick c a b =>
    simp only [aopF, arms, aPick, aopT, plainT, aop]
    cases ρ c with
    | none => rfl
    | some v =>
      cases v with
      | lit v => cases v with
        | bool t => cases t <;> simp only [if_true, Bool.false_eq_true, if_false]; (cases ρ b <;> rfl); (cases ρ a <;> rfl)
        | _ => rfl
      | _ => rfl
  | load t x => simp only [aopF, arms, aLoad, aopT]; cases ρ x with | none => rfl | some a => (simp only [onAV]; cases loadT P g t a <;> rfl)
  | store t x y => simp only [aopF, arms, aStore, aopT]; cases ρ x <;> cases ρ y <;> first | rfl | (simp only [onAV]; cases storeT P g t _ _ <;> rfl)
  | binOp op t x y _ => simp only [aopF, arms, aBin, aopT, plainT, aop]; cases ρ x <;> cases ρ y <;> first | rfl | (simp only [onAV]; cases binB P op t _ _ <;> rfl)
  | unOp op t x => simp only [aopF, arms, aUn, aopT, plainT, aop]; cases ρ x with | none => rfl | some a => (simp only [onAV, Option.bind_some]; cases unA op a <;> rfl)
  | field t x i => simp only [aopF, arms, aField, aopT, plainT, aop]; cases ρ x with | none => rfl | some a => (simp only [onAV, Option.bind_some]; cases fieldA P t a i <;> rfl)
  | fieldAddr t x i => simp only [aopF, arms, aFieldAddr, aopT, plainT, aop]; cases ρ x with | none => rfl | some a => (simp only [onAV, Option.bind_some]; cases fieldOp P t a i <;> rfl)
  | indexAddr t x y => simp only [aopF, arms, aIndexAddr, aopT, plainT, aop]; cases ρ x <;> cases ρ y <;> first | rfl | (simp only [onAV]; cases indexOp P t _ _ <;> rfl)
  | index t x y => simp only [aopF, arms, aIndex, aopT, plainT, aop]; cases ρ x <;> cases ρ y <;> first | rfl | (simp only [onAV]; cases indexA P t _ _ <;> rfl)
  | extract x i =>
    simp only [aopF, arms, aExtract, aopT, plainT, aop]
    cases ρ x with
    | none => rfl
    | some v => cases v <;> try rfl
                rename_i vs
                simp only [onAV, avTup]
                cases vs[i]? <;> rfl
  | call c => simp only [aopF, arms, aCall, aopT]; cases aevs ρ c.args.toList <;> rfl
  | _ => rfl
def avWant (want : Bool) (a : AV) : Option Bool := match a with
 | .lit (.bool b) => some (b == want)
 | .lit (.tuple _) => some false
 | _ => none
def wantG (p : Nat × Bool) (ops : Array Oper) (vars : Trie AV) : Option Bool :=
 match (ops[p.1]?).bind (·.dst) with
 | none => none
 | some t => Option.rec none (fun a => avWant p.2 a) (get vars t)
def wantF (ops : Array Oper) (vars : Trie AV) (o : Oper) : Option Bool :=
 Option.rec (motive := fun _ => Array Oper → Trie AV → Option Bool) (fun _ _ => some true) wantG o.guard ops vars
theorem wantF_eq (ops : Array Oper) (vars : Trie AV) (o : Oper) : wantF ops vars o = wantedA ops vars o := by
 obtain ⟨dst, op, ty, pos, after, guard⟩ := o
 unfold wantF wantedA
 cases guard with
 | none => rfl
 | some p =>
  obtain ⟨j, want⟩ := p
  simp only [wantG]
  cases (ops[j]?).bind (·.dst) with
  | none => rfl
  | some t => 
   simp only
   cases get vars t with
   | none => rfl
   | some a =>
    cases a <;> try rfl
    rename_i v; cases v <;> rfl
theorem aopF_fun : aopF = aopT := by funext P m g n ρ o; exact aopF_eq P m g n ρ o
theorem wantF_fun : wantF = wantedA := by funext a b c; exact wantF_eq a b c
end
end Go.Vm

namespace Go.Vm
structure ES where
 vars : Trie AV
 t : Trie Blk
 n : Nat
 defs : List Nat
inductive ER where
 | fail (why : String)
 | ok (x : AExit) (e : ES) (lo : Nat)
inductive CR where
 | fail (why : String)
 | ret (v : AV) (t : Trie Blk) (n lo : Nat)
 | pan (v : AV) (t : Trie Blk) (n lo : Nat)
abbrev CallT := FuncId → List AV → Trie Blk → Nat → CR
abbrev RoundT := Nat → List AV → Trie Blk → Nat → CR
mutual
def AV.underB (n : Nat) : AV → Bool
 | .lit _ => true
 | .agg cells => AV.undersB n cells
 | .tup vs => AV.undersB n vs
 | .ptr id _ => Nat.blt id n
 | .eptr cells => AV.undersB n cells
 | .sl _ cells tail => (match tail with | .own id _ _ => Nat.blt id n | _ => true) && AV.undersB n cells
 | .hsl id _ _ _ => Nat.blt id n
 | .mp id => Nat.blt id n
 | .fn _ first captured => AV.undersB n first && AV.undersB n captured
 | .yld id => Nat.blt id n
 | .iface _ v => AV.underB n v
 | .msl id _ _ _ => Nat.blt id n
 | .mptr id _ _ => Nat.blt id n
 | .mpx => true
def AV.undersB (n : Nat) : List AV → Bool
 | [] => true
 | a :: as => AV.underB n a && AV.undersB n as
end
noncomputable section
def evalT (vars : Trie AV) (x : Operand) : Option AV :=
 Operand.rec (motive := fun _ => Trie AV → Option AV) (fun t vars => get vars t) (fun v _ => some (.lit v)) (fun _ _ => none) (fun f _ => some (.lit (.func (.func f) #[] #[]))) x vars
def putT {α : Type} (k : Nat) (fail : α) (dst : Option Tmp) (v : AV) (vars : Trie AV) (c : Trie AV → α) : α :=
 match dst with
 | none => c vars
 | some d => bif Nat.blt d k then c (set vars d v) else fail
def lowT {α : Type} (lo id : Nat) (c : Nat → α) : α := bif Nat.ble lo id then c lo else c id
def maskOf (ops : Array Oper) : Nat :=
 let B := befs ops.toList []
 (List.range ops.size).foldl (fun s i => if (match ops[i]? with | some o => !light o | none => false) && ((List.range i).all fun p => (B.getD i 0).testBit p) &&
  ((List.range ops.size).all fun k => decide (k ≤ i) || (B.getD k 0).testBit i) then s + 2 ^ i else s) 0
def maskF (ops : Array Oper) : Nat :=
 let B := befs ops.toList []
 (List.range ops.size).foldl (fun s i => if (match ops[i]? with | some o => !light o && (List.range i).all fun p => (B.getD i 0).testBit p || (match ops[p]? with | some op => free op && op.apart ops o | none => true) | none => false) &&
  ((List.range ops.size).all fun k => decide (k ≤ i) || (B.getD k 0).testBit i) then s + 2 ^ i else s) 0
def lateOp (o : Oper) : Bool := match o.op with
 | .load _ _ => o.guard.isNone
 | _ => false
def maskL (ops : Array Oper) : Nat :=
 let B := befs ops.toList []
 (List.range ops.size).foldl (fun s i => if (match ops[i]? with | some o => !light o && (List.range i).all fun p => (B.getD i 0).testBit p || (match ops[p]? with | some op => (free op || lateOp op) && op.apart ops o | none => true) | none => false) &&
  ((List.range ops.size).all fun k => decide (k ≤ i) || (B.getD k 0).testBit i) then s + 2 ^ i else s) 0
def lmOf (mask : Nat) (ops : Array Oper) : Nat :=
 let B := befs ops.toList []
 (List.range ops.size).foldl (fun s p => if (match ops[p]? with | some o => lateOp o | none => false) && ((List.range ops.size).any fun i => Nat.blt p i && mask.testBit i && !(B.getD i 0).testBit p) then s + 2 ^ p else s) 0
def lateOk (lm : Nat) (ops : Array Oper) : Bool := (List.range ops.size).all fun p => !lm.testBit p || match ops[p]? with | some o => lateOp o | none => true
def lbeq : List UInt8 → List UInt8 → Bool
 | [], [] => true
 | a :: l, b :: l' => Nat.beq a.toNat b.toNat && lbeq l l'
 | _, _ => false
def csame : AV → AV → Bool
 | .lit (.string a), .lit (.string b) => lbeq a.data.toList b.data.toList
 | .ptr i o, .ptr j p => Nat.beq i j && Nat.beq o p
 | _, _ => false
def csames : List AV → List AV → Bool
 | [], [] => true
 | a :: l, b :: l' => csame a b && csames l l'
 | _, _ => false
def blkSame : Option Blk → Option Blk → Bool
 | some (.box a t), some (.box b u) => csames a b && Nat.beq t u
 | _, _ => false
def hoistT (P : Program) (l : List Oper) : Nat → Trie Blk → Trie Blk :=
 List.rec (fun _ t => t) (fun o _ ih j t => match layB P o with | some B => ih (Nat.succ j) (set t j B) | none => ih (Nat.succ j) t) l
def noLay (P : Program) (l : List Oper) : Bool := l.all fun o => (layB P o).isNone
section
variable (P : Program) (m : Bool) (call : CallT) (round : RoundT) (k : Nat) (d : List Nat)
def evOp (ops : Array Oper) (o : Oper) (vars : Trie AV) (t : Trie Blk) (n lo : Nat) (c : Trie AV → Trie Blk → Nat → Nat → ER) : ER :=
  match wantF ops vars o with
  | none => .fail o.pos
  | some false => putT k (.fail o.pos) o.dst (.lit undef) vars fun vars' => c vars' t n lo
  | some true => match aopF P m (get t) n (evalT vars) o with
    | none => .fail o.pos
    | some (.val v .same) => putT k (.fail o.pos) o.dst v vars fun vars' => c vars' t n lo
    | some (.val v (.push B)) => putT k (.fail o.pos) o.dst v vars fun vars' => c vars' (set t n B) (Nat.succ n) lo
    | some (.val v (.set id B)) => putT k (.fail o.pos) o.dst v vars fun vars' => lowT lo id fun lo' => c vars' (set t id B) n lo'
    | some (.call f args) => bif callable P f then match call f args t n with
        | .fail w => .fail w
        | .ret v t' n' l => putT k (.fail o.pos) o.dst v vars fun vars' => lowT lo l fun lo' => c vars' t' n' lo'
        | .pan v t' n' l => lowT lo l fun lo' => .ok (.pan v) ⟨vars, t', n', d⟩ lo'
      else .fail o.pos
    | some (.round id args) => match round id args t n with
        | .ret v t' n' l => putT k (.fail o.pos) o.dst v vars fun vars' => lowT lo l fun lo' => c vars' t' n' lo'
        | .fail w => .fail w
        | .pan _ _ _ _ => .fail o.pos
    | some (.pan v) => .ok (.pan v) ⟨vars, t, n, d⟩ lo
def evOps (ops : Array Oper) (l : List Oper) : Trie AV → Trie Blk → Nat → Nat → ER :=
 List.rec (fun vars t n lo => .ok .normal ⟨vars, t, n, d⟩ lo) (fun o _ ih vars t n lo => evOp P m call round k d ops o vars t n lo ih) l
def memN (l : List Nat) (id : Nat) : Bool := List.rec false (fun a _ ih => bif Nat.beq a id then true else ih) l
def hideT (W : Option (List Nat)) (t : Trie Blk) (id : Nat) : Option Blk :=
 match W with
 | none => get t id
 | some W => bif memN W id then none else match get t id with
  | some (.row _) => none
  | x => x
def inW (W : Option (List Nat)) (id : Nat) : Bool :=
 match W with
 | none => true
 | some W => memN W id
def noPanT (r : ER) (c : Trie AV → Trie Blk → Nat → Nat → ER) : ER := match r with
 | .ok .normal e l => c e.vars e.t e.n l
 | .ok _ _ _ => .fail "draw"
 | .fail w => .fail w
def panT (lo : Nat) (r : ER) (c : Trie AV → Trie Blk → Nat → Nat → ER) : ER := match r with
 | .ok .normal e l => c e.vars e.t e.n l
 | .ok (.pan v) e l => lowT lo l fun lo' => .ok (.pan v) e lo'
 | .ok _ _ _ => .fail "draw"
 | .fail w => .fail w
def evSeg (ops : Array Oper) (mask n0 : Nat) (W : Option (List Nat)) (l : List Oper) : Nat → Trie Blk → Nat → Trie AV → Trie Blk → Nat → Nat → ER :=
 List.rec (fun _ _ _ vars t n lo => .ok .normal ⟨vars, t, n, d⟩ lo)
  (fun o rest ih i tb nb vars t n lo =>
   bif Nat.testBit mask i then
    panT lo (evOp P m call round k d ops o vars t n noLo fun vars' t' n' l1 => .ok .normal ⟨vars', t', n', d⟩ l1) fun vars' t' n' l1 =>
     bif noLay P rest || Nat.ble n l1 then lowT lo l1 fun lo' => ih (Nat.succ i) t' n' vars' t' n' lo' else .fail o.pos
   else match okind o with
   | .plain => match wantF ops vars o with
    | none => .fail o.pos
    | some false => putT k (.fail o.pos) o.dst (.lit undef) vars fun vars' => ih (Nat.succ i) tb nb vars' t n lo
    | some true => match aopF P m (hideT W tb) nb (evalT vars) o with
     | some (.val v .same) => putT k (.fail o.pos) o.dst v vars fun vars' => ih (Nat.succ i) tb nb vars' t n lo
     | _ => .fail o.pos
   | .lay => match wantF ops vars o with
    | none => .fail o.pos
    | some false => putT k (.fail o.pos) o.dst (.lit undef) vars fun vars' => ih (Nat.succ i) tb nb vars' t n lo
    | some true => match layB P o with
     | some _ => putT k (.fail o.pos) o.dst (layV o (n0 + i)) vars fun vars' => ih (Nat.succ i) tb nb vars' t n lo
     | none => .fail o.pos
   | .eff => match wantF ops vars o, aopF P m (get t) n (evalT vars) o with
    | some true, some (.val v (.set id (.row g))) => putT k (.fail o.pos) o.dst v vars fun vars' => lowT lo id fun lo' => ih (Nat.succ i) tb nb vars' (set t id (.row g)) n lo'
    | _, _ => noPanT (evOp P m call round k d ops o vars t n noLo fun vars' t' n' l1 => .ok .normal ⟨vars', t', n', d⟩ l1) fun vars' t' n' l1 =>
     bif Nat.ble n l1 then ih (Nat.succ i) tb nb vars' t' n' lo else .fail o.pos
   | .store => match wantF ops vars o with
    | some true => match aopF P m (get t) n (evalT vars) o with
     | some (.val v (.set id B)) => bif inW W id then putT k (.fail o.pos) o.dst v vars fun vars' => lowT lo id fun lo' => ih (Nat.succ i) tb nb vars' (set t id B) n lo' else .fail o.pos
     | _ => .fail o.pos
    | _ => .fail o.pos) l
def storeIds (mask : Nat) (vars : Trie AV) (l : List Oper) : Nat → List Nat :=
 List.rec (fun _ => []) (fun o _ ih i => bif Nat.testBit mask i then ih (Nat.succ i) else match o.op with
  | .store _ x _ | .mapUpdate _ x _ _ | .insert _ x _ _ | .next x _ => match evalT vars x with
   | some (.ptr id _) => id :: ih (Nat.succ i)
   | some (.mptr id _ _) => id :: ih (Nat.succ i)
   | some (.mp id) => id :: ih (Nat.succ i)
   | _ => ih (Nat.succ i)
  | _ => ih (Nat.succ i)) l
def hasStore (mask : Nat) (l : List Oper) : Nat → Bool :=
 List.rec (fun _ => false) (fun o _ ih i => bif Nat.testBit mask i then ih (Nat.succ i) else match okind o with
  | .store => true
  | _ => ih (Nat.succ i)) l
def evDrawW (ops : Array Oper) (W : Option (List Nat)) (vars : Trie AV) (t : Trie Blk) (n lo : Nat) : ER :=
 match evSeg P m call round k d ops (maskF ops) n W ops.toList 0 (hoistT P ops.toList n t) (n + ops.size) vars (hoistT P ops.toList n t) (n + ops.size) lo with
 | .ok .normal e lo' => .ok .normal e lo'
 | .ok (.pan v) e lo' => bif drawOk (maskF ops) ops then .ok (.pan v) e lo' else .fail "draw"
 | .ok _ _ _ => .fail "draw"
 | .fail w => .fail w
def lateT (L : List Nat) (t0 : Trie Blk) (id : Nat) : Option Blk := bif memN L id then match get t0 id with
  | some (.row _) => none
  | x => x
 else none
def sameL (L : List Nat) (t0 t : Trie Blk) : Bool := L.all fun id => blkSame (get t0 id) (get t id)
def evSegL (ops : Array Oper) (mask lm : Nat) (L : List Nat) (t0 : Trie Blk) (l : List Oper) : Nat → Trie Blk → Nat → Trie AV → Trie Blk → Nat → Nat → ER :=
  List.rec (fun _ _ _ vars t n lo => .ok .normal ⟨vars, t, n, d⟩ lo)
    (fun o rest ih i tb nb vars t n lo =>
      bif Nat.testBit mask i then
        noPanT (evOp P m call round k d ops o vars t n noLo fun vars' t' n' l1 => .ok .normal ⟨vars', t', n', d⟩ l1) fun vars' t' n' l1 =>
          bif noLay P rest && (!needL lm ops i || sameL L t0 t') then lowT lo l1 fun lo' => ih (Nat.succ i) t' n' vars' t' n' lo' else .fail o.pos
      else match okind o with
      | .plain => match wantF ops vars o with
        | none => .fail o.pos
        | some false => bif Nat.testBit lm i then .fail o.pos else putT k (.fail o.pos) o.dst (.lit undef) vars fun vars' => ih (Nat.succ i) tb nb vars' t n lo
        | some true => match aopF P m (hideT (some []) tb) nb (evalT vars) o with
          | some (.val v .same) => bif Nat.testBit lm i then (match aopF P m (lateT L t0) nb (evalT vars) o with
              | some (.val v2 .same) => bif csame v v2 then putT k (.fail o.pos) o.dst v vars fun vars' => ih (Nat.succ i) tb nb vars' t n lo else .fail o.pos
              | _ => .fail o.pos)
            else putT k (.fail o.pos) o.dst v vars fun vars' => ih (Nat.succ i) tb nb vars' t n lo
          | _ => .fail o.pos
      | _ => .fail o.pos) l
def lateIds (lm : Nat) (vars : Trie AV) (l : List Oper) : Nat → List Nat :=
 List.rec (fun _ => []) (fun o _ ih i => bif Nat.testBit lm i then (match o.op with
  | .load _ x => match evalT vars x with
   | some (.ptr id _) => id :: ih (Nat.succ i)
   | _ => ih (Nat.succ i)
  | _ => ih (Nat.succ i)) else ih (Nat.succ i)) l
def evDrawL (ops : Array Oper) (vars : Trie AV) (t : Trie Blk) (n lo : Nat) : ER :=
 bif drawOkL (maskL ops) (lmOf (maskL ops) ops) ops && lateOk (lmOf (maskL ops) ops) ops then
  match evSegL P m call round k d ops (maskL ops) (lmOf (maskL ops) ops) (lateIds (lmOf (maskL ops) ops) vars ops.toList 0) (hoistT P ops.toList n t) ops.toList 0 (hoistT P ops.toList n t) (n + ops.size) vars (hoistT P ops.toList n t) (n + ops.size) lo with
  | .ok .normal e lo' => .ok .normal e lo'
  | .ok _ _ _ => .fail "draw"
  | .fail w => .fail w
 else .fail "draw"
def evDrawO (ops : Array Oper) (vars : Trie AV) (t : Trie Blk) (n lo : Nat) : ER :=
 bif drawOkF (maskF ops) ops then
  bif hasStore (maskF ops) ops.toList 0 then
   match evDrawW P m call round k d ops none vars t n lo with
   | .ok _ e _ => evDrawW P m call round k d ops (some (storeIds (maskF ops) e.vars ops.toList 0)) vars t n lo
   | .fail w => .fail w
  else evDrawW P m call round k d ops (some []) vars t n lo
 else .fail "draw"
def useL (ops : Array Oper) : Bool := !Nat.beq (lmOf (maskL ops) ops) 0 && (List.range ops.size).all fun i => (maskL ops).testBit i || match ops[i]? with | some o => okind o == .plain | none => true
def evDraw (ops : Array Oper) (vars : Trie AV) (t : Trie Blk) (n lo : Nat) : ER := bif useL ops then match evDrawL P m call round k d ops vars t n lo with
  | .fail _ => evDrawO P m call round k d ops vars t n lo
  | r => r
 else evDrawO P m call round k d ops vars t n lo
def evLoop (body : Trie AV → Trie Blk → Nat → List Nat → Nat → ER) (fuel : Nat) : Trie AV → Trie Blk → Nat → List Nat → Nat → ER :=
 Nat.rec (fun _ _ _ _ _ => .fail "loop") (fun _ ih vars t n d lo => match body vars t n d lo with
  | .ok .normal e lo' => ih e.vars e.t e.n e.defs lo'
  | r => r) fuel
def isBusy : LoopState → Bool
 | .busy => true
 | _ => false
def evRange (ro : Option Nat) (f : Operand) (ps : Array Tmp) (assign body : Code) (vars : Trie AV) (t : Trie Blk) (n : Nat) (d : List Nat) (lo : Nat) : ER :=
 match evalT vars f with
 | none => .fail "code"
 | some fv => match fnOf fv with
  | none => .fail "code"
  | some (f, first, captured) =>
   bif callable P f then
    match ro with
    | none => match call f (first ++ [.yld (n + 1)] ++ captured) (set t (n + 1) (.loop (loop0 ⟨k, vars, [], []⟩ ps assign body n))) (n + 2) with
     | .ret _ t2 n2 l => match get t2 (n + 1) with
      | some (.loop l') => bif isBusy l'.state then .fail "code" else match jumpTo l'.pending with
       | some x => lowT lo l fun lo' => .ok x ⟨vars, set t2 (n + 1) (.loop { l' with state := .exhausted }), n2, n :: d⟩ lo'
       | none => .fail "code"
      | _ => .fail "code"
     | .fail w => .fail w
     | .pan _ _ _ _ => .fail "range"
    | some ido => match get t ido with
     | some (.loop l0) => match call f (first ++ [.yld n] ++ captured) (set t n (.loop (loop0 ⟨k, vars, [], []⟩ ps assign body l0.defers))) (n + 1) with
      | .ret _ t2 n2 l => match get t2 n with
       | some (.loop l') => bif isBusy l'.state then .fail "code" else match jumpTo l'.pending with
        | some x => lowT lo l fun lo' => .ok x ⟨vars, set t2 n (.loop { l' with state := .exhausted }), n2, d⟩ lo'
        | none => .fail "code"
       | _ => .fail "code"
      | .fail w => .fail w
      | .pan _ _ _ _ => .fail "range"
     | _ => .fail "code"
   else .fail "code"
def evCode (ro : Option Nat) (c : Code) : Trie AV → Trie Blk → Nat → List Nat → Nat → ER :=
 Code.rec (motive := fun _ => Trie AV → Trie Blk → Nat → List Nat → Nat → ER)
  (fun vars t n d lo => .ok .normal ⟨vars, t, n, d⟩ lo)
  (fun _ ops draw vars t n d lo => match draw with
   | true => evDraw P m call round k d ops vars t n lo
   | false => evOps P m call round k d ops ops.toList vars t n lo)
  (fun _ _ iha ihb vars t n d lo => match iha vars t n d lo with
   | .ok .normal e lo' => ihb e.vars e.t e.n e.defs lo'
   | r => r)
  (fun c _ _ iha ihb vars t n d lo => match evalT vars c with
   | some (.lit (.bool true)) => iha vars t n d lo
   | some (.lit (.bool false)) => ihb vars t n d lo
   | _ => .fail "code")
  (fun i _ ih vars t n d lo => match ih vars t n d lo with
   | .ok (.exit j) e lo' => bif Nat.beq i j then .ok .normal e lo' else .ok (.exit j) e lo'
   | r => r)
  (fun _ ih vars t n d lo => evLoop ih 100000 vars t n d lo)
  (fun g ps assign body _ _ vars t n d lo => evRange P call k ro g ps assign body vars t n d lo)
  (fun i vars t n d lo => .ok (.exit i) ⟨vars, t, n, d⟩ lo)
  (fun _ ih vars t n d lo => ih vars t n d lo)
  (fun _ vars t n d lo => .ok .normal ⟨vars, t, n, d⟩ lo)
  (fun _ _ _ _ _ _ => .fail "code")
  (fun vars t n d lo => .ok .ret ⟨vars, t, n, d⟩ lo)
  (fun _ _ _ _ _ _ => .fail "code")
  c
def resT (g : Nat → Option Blk) (vars : Trie AV) : List ResultVar → Option (List AV)
 | [] => some []
 | .tmp t :: rs => match get vars t with
  | none => none
  | some v => match resT g vars rs with
   | none => none
   | some vs => some (v :: vs)
 | .cell t ty :: rs => match get vars t with
  | none => none
  | some a => match loadT P g ty a with
   | none => none
   | some v => match resT g vars rs with
    | none => none
    | some vs => some (v :: vs)
def spendT (l : List Nat) : Trie Blk → Trie Blk :=
 List.rec (fun t => t) (fun id _ ih t => ih (set t id .spent)) l
def nodupB : List Nat → Bool
 | [] => true
 | a :: l => l.all (fun b => !Nat.beq a b) && nodupB l
def evFin (results : List ResultVar) (t : Trie Blk) (n : Nat) (e : ES) (lo : Nat) : CR :=
 bif e.defs.all (fun d => Nat.ble n d && Nat.blt d e.n) && nodupB e.defs then
  match resT P (get (spendT e.defs e.t)) e.vars results with
  | none => .fail "code"
  | some vs => bif Nat.ble n lo && AV.underB n (resV vs) then .ret (resV vs) t n lo else .ret (resV vs) (spendT e.defs e.t) e.n lo
 else .fail "code"
def evBody (muts : FuncId → Bool) (f : FuncId) (args : List AV) (t : Trie Blk) (n : Nat) : CR :=
  match P.funcs[f]? with
  | none => .fail "code"
  | some fn => match fn.body with
    | none => .fail "code"
    | some c => bif Nat.ble args.length fn.ntmps then
        match evCode P (muts f) call round fn.ntmps none c (initVars 0 args) t n [] noLo with
        | .fail w => .fail w
        | .ok (.pan v) e lo => match e.defs with
          | [] => .pan v e.t e.n lo
          | _ => .fail "code"
        | .ok (.exit _) _ _ => .fail "code"
        | .ok .normal e lo => evFin P fn.results.toList t n e lo
        | .ok .ret e lo => evFin P fn.results.toList t n e lo
      else .fail "code"
def isReady : LoopState → Bool
 | .ready => true
 | _ => false
def evRoundBody (id : Nat) (args : List AV) (t : Trie Blk) (n : Nat) : CR :=
  match get t id with
  | some (.loop l) => bif Nat.beq args.length l.params.size && l.params.toList.all (fun t => Nat.blt t l.n) then
      match evCode P false call round l.n (some id) l.assign (putParams l.vars l.params.toList args) t n [] noLo with
      | .ok .normal e1 lo1 => match get e1.t id with
        | some (.loop l1) => bif isReady l1.state then
            lowT lo1 id fun lo1 => match evCode P false call round l.n (some id) l.body e1.vars (set e1.t id (.loop { l1 with state := .busy })) e1.n e1.defs lo1 with
            | .ok x e2 lo2 => match get e2.t id, jumpOf x with
              | some (.loop l2), some j => lowT lo2 id fun lo2 => .ret (.lit (.bool j.isNone)) (set e2.t id (.loop { l2 with state := if j.isNone then .ready else .done, pending := j })) e2.n lo2
              | _, _ => .fail "code"
            | .fail w => .fail w
          else .fail "code"
        | _ => .fail "round"
      | .fail w => .fail w
      | _ => .fail "round assign"
    else .fail "round params"
  | _ => .fail "no loop"
end
structure Know where
 muts : FuncId → Bool
 alone : FuncId → Bool
 told : FuncId → Option (CallT → CallT)
def forceN {α : Type} (n : Nat) (k : Nat → α) : α :=
 bif Nat.beq n 0 then k 0 else bif Nat.beq n 1 then k 1 else bif Nat.beq n 2 then k 2 else bif Nat.beq n 3 then k 3 else bif Nat.beq n 4 then k 4 else bif Nat.beq n 5 then k 5 else bif Nat.beq n 6 then k 6 else bif Nat.beq n 7 then k 7 else k n
def forceI {α : Type} (n : Int) (k : Int → α) : α := Int.rec (motive := fun _ => (Int → α) → α) (fun n k => forceN n fun m => k (Int.ofNat m)) (fun n k => forceN n fun m => k (Int.negSucc m)) n k
def forceK {α : Type} (d : IntKind) (k : IntKind → α) : α := match d with
 | .i64 => k .i64
 | .i32 => k .i32
 | .u8 => k .u8
 | d => k d
def forceV {α : Type} (v : Value) (k : Value → α) : α := match v with
 | .int d n => forceK d fun d => forceI n fun n => k (.int d n)
 | .bool b => match b with
  | true => k (.bool true)
  | false => k (.bool false)
 | v => k v
def forceT {α : Type} (t : Tail) (k : Tail → α) : α := match t with
 | .unk => k .unk
 | .full => k .full
 | t => k t
mutual
def AV.force {α : Type} : AV → (AV → α) → α
 | .lit v, k => forceV v fun v => k (.lit v)
 | .agg cells, k => AV.forces cells fun cells => k (.agg cells)
 | .tup vs, k => AV.forces vs fun vs => k (.tup vs)
 | .eptr cells, k => AV.forces cells fun cells => k (.eptr cells)
 | .sl len cells tail, k => forceN len fun len => AV.forces cells fun cells => forceT tail fun tail => k (.sl len cells tail)
 | .iface t v, k => AV.force v fun v => k (.iface t v)
 | .ptr id off, k => k (.ptr id off)
 | .hsl id off len cap, k => k (.hsl id off len cap)
 | .mp id, k => k (.mp id)
 | .fn f first captured, k => k (.fn f first captured)
 | .yld id, k => k (.yld id)
 | .msl id gen len sz, k => k (.msl id gen len sz)
 | .mptr id gen off, k => k (.mptr id gen off)
 | .mpx, k => k .mpx
def AV.forces {α : Type} : List AV → (List AV → α) → α
 | [], k => k []
 | a :: as, k => AV.force a fun a => AV.forces as fun as => k (a :: as)
end
def evAlone (body : CallT) : CallT := fun f args t n =>
 bif AV.undersB 0 (AV.forgets args) then
  AV.forces (AV.forgets args) fun args' => match body f args' .nil 0 with
  | .ret v _ _ _ => bif AV.underB 0 v.forget then .ret v.forget t n noLo else .fail "code"
  | _ => .fail "code"
 else body f args t n
def evN (P : Program) (K : Know) (fuel : Nat) : CallT × RoundT :=
  Nat.rec ⟨fun _ _ _ _ => .fail "fuel", fun _ _ _ _ => .fail "fuel"⟩ (fun _ ih =>
    ⟨fun f args t n => match K.told f with
      | some T => T ih.1 f args t n
      | none => bif K.alone f then evAlone (evBody P ih.1 ih.2 K.muts) f args t n else evBody P ih.1 ih.2 K.muts f args t n,
     fun id args t n => evRoundBody P ih.1 ih.2 id args t n⟩) fuel
end
end Go.Vm

namespace Go.Vm
inductive PanOne (P : Program) (ops : Array Oper) (i : Nat) : St → AV → St → Prop where
  | op {m : Bool} {σ : St} {o : Oper} {v : AV} (ho : ops[i]? = some o) (hw : wantedA ops σ.vars o = some true) (ha : aop P m σ.H σ.eval o = some (.pan v)) : PanOne P ops i σ v σ
  | call {m : Bool} {σ : St} {o : Oper} {f : FuncId} {args : List AV} {v : AV} {H' : List Blk} (ho : ops[i]? = some o) (hw : wantedA ops σ.vars o = some true)
      (ha : aop P m σ.H σ.eval o = some (.call f args)) (hcal : callable P f = true) (hc : ACall P f args σ.H (.pan v) H') (hd : keepsD σ.H H') : PanOne P ops i σ v { σ with H := H' }
theorem PanOne.all {P : Program} {ops : Array Oper} {i : Nat} {l : List Nat} {σ σ' : St} {v : AV} (h : PanOne P ops i σ v σ') : APanics P ops (i :: l) σ v σ' := by
 cases h with
 | op ho hw ha => exact .op ho hw ha
 | call ho hw ha hcal hc hd => exact .call ho hw ha hcal hc hd
theorem PanOne.one [Outer] {P : Program} {ops : Array Oper} {i : Nat} {σ σ' σf : St} {v : AV} {cro : Option Nat} {S0 : Sit} (h : PanOne P ops i σ v σ') {ι : Nat → Option (Nat × Nat)} {a : Act} {w : World} (hs : SRel σ ι a w) (he : σ'.Eqv σf)
  (hev : Ev S0 ⟨σ.H, ι, w⟩) (hnon : Non S0 ⟨σ.H, ι, w⟩) {K : Act → World → Prop} : wpOpIn (Fr cro) 0 P ops (Post S0 (.pan v) σf) i K a w := by
 cases h with
 | op ho hw ha =>
  unfold wpOpIn
  simp only [ho]
  rw [wantedA_sound hs.vars hw]
  simp only [if_true]
  refine ⟨fun _ _ => Fr_fn _ _, ?_⟩
  obtain ⟨c, hx, hv⟩ := aop_sound hs.rel (St.eval_sound hs) ha
  rw [Oper.semAt_eq _ _ _ (aop_noDefer ha), hx]
  exact ⟨ι, by rw [← he.H]; exact ⟨c, rfl, hv⟩, hs.eqv he, by rw [← he.H]; exact hev, by rw [← he.H]; exact hnon⟩
 | call ho hw ha hcal hc hd =>
  rename_i o f args H'
  unfold wpOpIn
  simp only [ho]
  rw [wantedA_sound hs.vars hw]
  simp only [if_true]
  refine ⟨fun _ _ => Fr_fn _ _, ?_⟩
  obtain ⟨cs, hx, hargs⟩ := aop_sound hs.rel (St.eval_sound hs) ha hcal
  rw [Oper.semAt_eq _ _ _ (aop_noDefer ha), hx]
  refine ⟨fun h => (by simp [Fr_depth] at h), ?_⟩
  have hcall : CallsIn (Fr cro) 0 P _ cs w (EPost ⟨σ.H, ι, w⟩ (.pan v) H') := hc _ ι w cs hs.rel hargs
  refine hcall.mono ?_
  rintro e w' ⟨ι', hend, hR, hev', hnon'⟩
  have hx : SRel { σ with H := H' } ι' a w' := ⟨hR, hs.size, hs.vars.ev hev', hs.defs.ev hev' hd⟩
  have e2 : σf.H = H' := he.H.symm
  cases e with
  | returned c => exact hend.elim
  | panicked chain => exact ⟨ι', by rw [e2]; exact hend, hx.eqv he, by rw [e2]; exact hev.trans hev', by rw [e2]; exact hnon.trans hev hnon'⟩
  | outgrown => exact hend.elim
inductive DPan (P : Program) (ops : Array Oper) (al : Nat → Option Nat) (mask : Nat) : List (List Blk) → List Nat → St → AV → St → Prop
  | pan {Hs : List (List Blk)} {i : Nat} {l : List Nat} {σ σ' : St} {v : AV} (hm : mask.testBit i = true) (h : PanOne P ops i σ v σ') : DPan P ops al mask Hs (i :: l) σ v σ'
  | cons {Hs : List (List Blk)} {i : Nat} {l : List Nat} {σ σ1 σ2 : St} {v : AV} (hm : mask.testBit i = false) (h : DStep P ops al Hs i σ σ1) (t : DPan P ops al mask Hs l σ1 v σ2) : DPan P ops al mask Hs (i :: l) σ v σ2
  | barrier {Hs Hs' : List (List Blk)} {i : Nat} {l : List Nat} {σ σ1 σ2 : St} {v : AV} (hm : mask.testBit i = true) (h : AStep P ops i σ σ1) (hf : ∀ j ∈ l, ∀ id, al j = some id → σ1.H[id]? = σ.H[id]?)
      (hg : Good Hs' σ1.H) (t : DPan P ops al mask Hs' l σ1 v σ2) : DPan P ops al mask Hs (i :: l) σ v σ2
theorem PanOne.eqv {P : Program} {ops : Array Oper} {i : Nat} {σ σ' τ : St} {v : AV} (h : PanOne P ops i σ v σ') (he : σ.Eqv τ) : ∃ τ', PanOne P ops i τ v τ' ∧ σ'.Eqv τ' := by
 cases h with
 | op ho hw ha =>
  refine ⟨τ, .op ho (by rw [← wantedA_eqv he.vars]; exact hw) (by rw [← he.H, ← he.eval]; exact ha), he⟩
 | call ho hw ha hcal hc hd =>
  rename_i H'
  refine ⟨{ τ with H := H' }, .call ho (by rw [← wantedA_eqv he.vars]; exact hw) (by rw [← he.H, ← he.eval]; exact ha) hcal (by rw [← he.H]; exact hc) (by rw [← he.H]; exact hd), ⟨he.n, rfl, he.defs, he.vars⟩⟩
theorem DPan.eqv {P : Program} {ops : Array Oper} {al : Nat → Option Nat} {mask : Nat} : ∀ {Hs : List (List Blk)} {l : List Nat} {σ σ2 τ : St} {v : AV}, DPan P ops al mask Hs l σ v σ2 → σ.Eqv τ → ∃ τ2, DPan P ops al mask Hs l τ v τ2 ∧ σ2.Eqv τ2
 | _, _, _, _, _, _, .pan hm h, he => by
  obtain ⟨τ', h', he'⟩ := h.eqv he
  exact ⟨τ', .pan hm h', he'⟩
 | _, _, _, _, _, _, .cons hm h t, he => by
  obtain ⟨τ1, h1, he1⟩ := h.eqv he
  obtain ⟨τ2, t2, he2⟩ := DPan.eqv t he1
  exact ⟨τ2, .cons hm h1 t2, he2⟩
 | _, _, _, _, _, _, .barrier hm h hf hg t, he => by
  obtain ⟨τ1, h1, he1⟩ := h.eqv he
  obtain ⟨τ2, t2, he2⟩ := DPan.eqv t he1
  exact ⟨τ2, .barrier hm h1 (by rw [← he.H, ← he1.H]; exact hf) (by rw [← he1.H]; exact hg) t2, he2⟩
theorem DPan.first {P : Program} {mask : Nat} {ops : Array Oper} {al : Nat → Option Nat} {Hs : List (List Blk)} {i : Nat} {oi : Oper} {post : List Nat} (hoi : ops[i]? = some oi) (hmi : mask.testBit i = false) : ∀ {pre : List Nat} {σ σ' : St} {v : AV},
  DPan P ops al mask Hs (pre ++ i :: post) σ v σ' → (∀ p ∈ pre, mask.testBit p = false ∧ ∃ op, ops[p]? = some op ∧ comm ops op oi = true) → Good Hs σ.H →
  ∃ τ σ'', DStep P ops al Hs i σ τ ∧ DPan P ops al mask Hs (pre ++ post) τ v σ'' ∧ σ'.Eqv σ''
 | [], σ, σ', _, h, _, _ => by
  cases h with
  | cons hm h t => exact ⟨_, σ', h, t, St.Eqv.refl _⟩
  | barrier hm => rw [hmi] at hm; cases hm
  | pan hm => rw [hmi] at hm; cases hm
 | p :: pre, σ, σ', _, h, hc, hle => by
  obtain ⟨hmp, op, hop, hcomm⟩ := hc p (by simp)
  rw [List.cons_append] at h
  cases h with
  | barrier hm => rw [hmp] at hm; cases hm
  | pan hm => rw [hmp] at hm; cases hm
  | cons hm h t =>
   rename_i σ1
   have hle1 : Good Hs σ1.H := by
    obtain ⟨o, v, H', _, hr, hp⟩ := h
    rw [(putA_H hp).1]; exact hr.good hle
   obtain ⟨τ1, σ'', hi, ht, he⟩ := DPan.first hoi hmi t (fun q hq => hc q (by simp [hq])) hle1
   obtain ⟨τ, τ2, hi', hp', he2, _, _⟩ := swap_steps hop hoi hcomm h hi hle
   obtain ⟨σ3, ht3, he3⟩ := ht.eqv he2
   exact ⟨τ, σ3, hi', .cons hmp hp' ht3, he.trans he3⟩
section
variable {P : Program}
theorem draw_pan [Outer] {mask : Nat} {ops : Array Oper} {al : Nat → Option Nat} (hd : drawOk mask ops = true) {n0 : Nat} {S0 : Sit} (hS0 : n0 = S0.H.length)
  (hal : ∀ j id, al j = some id → n0 ≤ id) (hinj : ∀ j k id, al j = some id → al k = some id → j = k) {cro : Option Nat} {v0 : AV} {σf : St} :
  ∀ (fuel : Nat) (listed : Array Bool) (Hs : List (List Blk)) (σ σ' : St) (ι : Nat → Option (Nat × Nat)) (a : Act) (w : World), listed.size = ops.size → Closed ops listed →
   DPan P ops al mask Hs (left ops listed) σ v0 σ' → σ'.Eqv σf → Good Hs σ.H → SRel σ ι a w → Pend P ops al (left ops listed) ι σ.H → (∀ j id, al j = some id → notRow σ.H id) →
   Ev S0 ⟨σ.H, ι, w⟩ → Non S0 ⟨σ.H, ι, w⟩ → (left ops listed).length ≤ fuel →
   wpAnyIn (Fr cro) 0 P .any ops (Post S0 (.pan v0) σf) fuel listed a w := by
 have empty : ∀ (listed : Array Bool) (Hs : List (List Blk)) (σ σ' : St), left ops listed = [] → DPan P ops al mask Hs (left ops listed) σ v0 σ' → False := by
  intro listed Hs σ σ' hl hp
  rw [hl] at hp
  cases hp
 intro fuel
 induction fuel with
 | zero =>
  intro listed Hs σ σ' ι a w hsz hcl hp he hle hs hpend hbox hev hnon hlen
  exact (empty listed Hs σ σ' (by simpa using hlen) hp).elim
 | succ fuel ih =>
  intro listed Hs σ σ' ι a w hsz hcl hp he hle hs hpend hbox hev hnon hlen
  have conv : ∀ j, j < ops.size → listed.getD j false = listed.getD j true := fun j hj => by
   simp [Array.getD_eq_getD_getElem?, hsz ▸ hj]
  constructor
  ·intro hready
   refine (empty listed Hs σ σ' ?_ hp).elim
   cases hl : left ops listed with
   | nil => rfl
   | cons i rest =>
    exfalso
    have himem : i ∈ left ops listed := by rw [hl]; simp
    obtain ⟨hi1, hi2⟩ := mem_left.1 himem
    obtain ⟨oi, hoi⟩ : ∃ oi, ops[i]? = some oi := ⟨ops[i], by simp [hi1]⟩
    obtain ⟨pre, post, hsp, hpre, _⟩ := left_split himem
    have hpre0 : pre = [] := by
     rw [hl] at hsp
     cases pre with
     | nil => rfl
     | cons p pre =>
      simp only [List.cons_append, List.cons.injEq] at hsp
      have := hpre p (by simp)
      omega
    have : i ∈ Region.ready .any ops listed := by
     refine mem_ready.2 ⟨hi2, oi, hoi, fun e hemem hb => ?_⟩
     have hlt := (drawOk_spec hd hoi).1 e hemem hb
     rw [conv _ (by omega)]
     cases hg : listed.getD e.on true with
     | true => rfl
     | false =>
      have hm : e.on ∈ left ops listed := mem_left.2 ⟨by omega, hg⟩
      rw [hsp, hpre0] at hm
      have hs' : (left ops listed).Pairwise (· < ·) := List.Pairwise.filter _ List.pairwise_lt_range
      rw [hsp, hpre0, List.nil_append, List.pairwise_cons] at hs'
      rcases List.mem_cons.1 hm with h | h
      ·omega
      ·have := hs'.1 _ h; omega
    rw [hready] at this
    cases this
  ·intro i hi
   obtain ⟨hi0, oi, hoi, hafter⟩ := mem_ready.1 hi
   have hilt := (Array.getElem?_eq_some_iff.1 hoi).1
   have himem : i ∈ left ops listed := mem_left.2 ⟨hilt, hi0⟩
   obtain ⟨pre, post, hsp, hpre, hleft, hfil⟩ := left_split himem
   obtain ⟨hback, hcomm⟩ := drawOk_spec hd hoi
   have getop : ∀ p, p < ops.size → ∃ op, ops[p]? = some op := fun p hp => ⟨ops[p]'hp, by simp [hp]⟩
   have hc0 : ∀ p ∈ left ops listed, p < i → mask.testBit i = false ∧ mask.testBit p = false ∧ ∃ op, ops[p]? = some op ∧ comm ops op oi = true := by
    intro p hpm hplt
    obtain ⟨op, hop⟩ := getop p (by omega)
    have := (hcomm p op hplt hop).1.resolve_left fun hb => by
     have h1 := ready_bef hoi hback hcl hafter hb
     have h2 := (mem_left.1 hpm).2
     rw [conv p (by omega), h2] at h1
     cases h1
    exact ⟨this.1, this.2.1, op, hop, this.2.2⟩
   have hc : ∀ p ∈ pre, mask.testBit p = false ∧ ∃ op, ops[p]? = some op ∧ comm ops op oi = true := fun p hpm => (hc0 p (by rw [hsp]; simp [hpm]) (hpre p hpm)).2
   have hsz' : (listed.setIfInBounds i true).size = ops.size := by simpa using hsz
   have hcl' : Closed ops (listed.setIfInBounds i true) := by
    intro j hj hlj p hb
    by_cases hpi : p = i
    ·subst hpi; simp [Array.getD_eq_getD_getElem?, hsz ▸ hilt]
    ·rw [getD_set_ne false (Ne.symm hpi)]
     by_cases hji : j = i
     ·subst hji; exact ready_bef hoi hback hcl hafter hb
     ·rw [getD_set_ne false (Ne.symm hji)] at hlj
      exact hcl j hj hlj p hb
   have hlen' : (left ops (listed.setIfInBounds i true)).length ≤ fuel := by
    rw [hleft]
    rw [hsp] at hlen
    simp at hlen ⊢
    omega
   by_cases hks : mask.testBit i = true
   ·-- a barrier stands first
    have hpre0 : pre = [] := by
     cases pre with
     | nil => rfl
     | cons p pre =>
      have := (hc0 p (by rw [hsp]; simp) (hpre p (by simp))).1
      rw [hks] at this; cases this
    subst hpre0
    rw [hsp, List.nil_append] at hp
    cases hp with
    | cons hm => rw [hks] at hm; cases hm
    | pan hm h => exact h.one hs he hev hnon
    | barrier hm hst hf hg t =>
     rename_i Hs' σ1
     refine hst.sound hs fun ι' a' w' hs' hev' hnon' => ?_
     refine ih _ Hs' σ1 σ' ι' a' w' hsz' hcl' (hleft ▸ t) he hg hs' ?_ (fun j id h => (hev'.ptr id (hbox j id h)).1) (hev.trans hev') (hnon.trans hev hnon') hlen'
     intro j hj o' B id ho' hB hal'
     have hjp : j ∈ post := by rw [hleft] at hj; simpa using hj
     have hjL : j ∈ left ops listed := by rw [hsp]; simp [hjp]
     obtain ⟨h1, h2⟩ := hpend j hjL o' B id ho' hB hal'
     exact ⟨hnon' id (hbox j id hal') h1, by rw [hf j hjp id hal']; exact h2⟩
   ·have hks : mask.testBit i = false := by simpa using hks
    rw [hsp] at hp
    obtain ⟨τ, σ'', hst, hrest, heq⟩ := hp.first hoi hks hc hle
    have hgτ : Good Hs τ.H := by
     obtain ⟨o, v, H', _, hr, hpp⟩ := hst
     rw [(putA_H hpp).1]; exact hr.good hle
    refine hst.sound hal hinj hbox himem (fun o ho hk j hj o' B ho' hB => ?_) hs hpend fun ι' a' w' hs' hev' hnon' hpend' => ?_
    ·rw [hoi] at ho; cases ho
     have hkj := layB_kind hB
     rcases Nat.lt_trichotomy j i with h | h | h
     ·obtain ⟨_, _, op, hop, hcc⟩ := hc0 j hj h
      rw [hop] at ho'; cases ho'
      unfold comm at hcc
      rw [hkj, hk] at hcc
      simp at hcc
     ·subst h; rw [hoi] at ho'; cases ho'; rw [hk] at hkj; cases hkj
     ·have := ((drawOk_spec hd ho').2 i oi h hoi).2
      rw [hks, hk, hkj] at this
      simp at this
    ·refine ih _ Hs τ σ'' ι' a' w' hsz' hcl' (hleft ▸ hrest) (heq.symm.trans he) hgτ hs' (by rw [hleft, ← hfil]; exact hpend') (fun j id h => (hev'.ptr id (hbox j id h)).1) (hev.trans hev') ?_ hlen'
     intro id hn hi0
     exact hnon' id (by rw [hS0]; exact hn.lt) (hev.ptr id hn).1 (hnon id hn hi0)
theorem Run.region_draw_pan {ro : Option Nat} {id : Nat} {ops : Array Oper} {σ σ' : St} {v : AV} {mask : Nat} {Hs : List (List Blk)} (hm : P.follows .mixedOrders = true) (hd : drawOk mask ops = true) (hHs : (σ.H ++ hoisted P ops) ∈ Hs)
  (h : DPan P ops (alAt P σ.H.length ops) mask Hs (List.range ops.size) { σ with H := σ.H ++ hoisted P ops } v σ') : Run P ro (.region id ops true) σ (.pan v) σ' := by
 intro O ι a w cro hro hs
 refine wpIn_region_any hm ?_
 have hleft : left ops (Array.replicate ops.size false) = List.range ops.size := by
  unfold left
  refine List.filter_eq_self.2 fun j hj => ?_
  have : j < ops.size := by simpa using hj
  simp [Array.getD_eq_getD_getElem?, this]
 have hR : Rel ⟨σ.H, ι, w⟩ := hs.rel
 have hR1 : Rel ⟨σ.H ++ hoisted P ops, ι, { w with drawn := w.drawn + 1 }⟩ := Rel.fresh hR fun _ _ => rfl
 have hev : Ev ⟨σ.H, ι, w⟩ ⟨σ.H ++ hoisted P ops, ι, { w with drawn := w.drawn + 1 }⟩ := Ev.fresh hR fun _ _ => rfl
 have hat : ∀ j, j < ops.size → (σ.H ++ hoisted P ops)[σ.H.length + j]? = (ops[j]?).map fun o => (layB P o).getD .defd := by
  intro j hj
  rw [List.getElem?_append_right (by omega)]
  simp [hoisted]
 refine draw_pan hd (n0 := σ.H.length) rfl (fun j id' hj => by have := alAt_spec hj; omega) (fun j k id' hj hk => by have := alAt_spec hj; have := alAt_spec hk; omega)
  ops.size _ Hs { σ with H := σ.H ++ hoisted P ops } σ' ι a _ (by simp) ?_ (hleft ▸ h) (St.Eqv.refl _) ⟨_, hHs, HLe.refl _⟩ ⟨hR1, hs.size, hs.vars.ev hev, hs.defs.ev hev fun id' hid => ?_⟩ ?_ ?_ hev (Non.same) (by rw [hleft]; simp)
 ·intro j hj hl
  have : j < ops.size := hj
  simp [Array.getD_eq_getD_getElem?, this] at hl
 ·exact HLe.append _ _ id' _ hid rfl
 ·intro j hj o B id' ho hB hal
  obtain ⟨rfl, hlt⟩ := alAt_spec hal
  refine ⟨?_, ?_⟩
  ·cases hi : ι (σ.H.length + j) with
   | none => rfl
   | some p => have h9 : σ.H.length + j < σ.H.length := hR.lt hi; omega
  ·have := hat j hlt
   rw [ho] at this
   simpa [hB] using this
 ·intro j id' hj
  obtain ⟨rfl, hlt⟩ := alAt_spec hj
  have := hat j hlt
  rw [show ops[j]? = some ops[j] by simp [hlt]] at this
  refine ⟨_, this, ?_⟩
  show ((layB P ops[j]).getD .defd).isRow = false
  cases hB : layB P ops[j] with
  | none => rfl
  | some B => exact layB_row hB
end
end Go.Vm

namespace Go.Vm
variable {P : Program}
theorem ACall.cut_same {f : FuncId} {args : List AV} {H H' : List Blk} {r : AV} (h : ACall P f args H (.ret r) H') (hr : r.under H.length) (hs : ∀ id, id < H.length → H'[id]? = H[id]?) (hle : H.length ≤ H'.length) :
  ACall P f args H (.ret r) H := by
 intro O ι w cs hR hargs
 have hcall : CallsIn (Fr none) 0 P f cs w (EPost ⟨H, ι, w⟩ (.ret r) H') := h _ ι w cs hR hargs
 refine hcall.mono ?_
 rintro e w' ⟨ι', hend, hR', hev, hnon⟩
 have hH : H'.take H.length = H := by
  apply List.ext_getElem?
  intro id
  by_cases hlt : id < H.length
  ·rw [List.getElem?_take_of_lt hlt, hs id hlt]
  ·rw [List.getElem?_eq_none (by simp; omega), List.getElem?_eq_none (by omega)]
 have hb : ∀ id b wm, ι' id = some (b, wm) → id < H.length → ∀ B, H[id]? = some B → B.under H.length := by
  intro id b wm hi hlt B hB
  by_cases hx : ∃ p, ι id = some p
  ·obtain ⟨⟨b0, wm0⟩, hx⟩ := hx
   obtain ⟨B', hB', hrel⟩ := hR.blk id b0 wm0 hx
   have hB'' : H[id]? = some B' := hB'
   rw [hB] at hB''; cases hB''
   exact hrel.under
  ·have hnone : ι id = none := by cases hι : ι id with
    | none => rfl
    | some p => exact absurd ⟨p, hι⟩ hx
   cases B with
   | row g => trivial
   | mrow g c =>
    obtain ⟨B', g1, hB', hm, hle, k⟩ := hev.mtok id g c hB
    have hB2 : H'[id]? = some B' := hB'
    rw [hs id hlt, hB] at hB2; cases hB2
    simp only [Blk.mgen, Option.some.injEq] at hm; subst hm
    have := (k rfl).2.1
    have e2 : ι' id = ι id := this
    rw [hnone, hi] at e2; cases e2
   | _ =>
    have := hnon id ⟨_, hB, rfl⟩ hnone
    have e2 : ι' id = none := this
    rw [hi] at e2; cases e2
 cases e with
 | panicked chain => exact hend.elim
 | outgrown => exact hend.elim
 | returned c =>
  refine ⟨cutι ι' H.length, ?_, ?_, ?_, ?_⟩
  ·have := VRel.cut (S := ⟨H', ι', w'⟩) r c hr hend
   rw [hH] at this; exact this
  ·have hR2 : Rel ⟨H'.take H.length, cutι ι' H.length, w'⟩ := by
    refine ⟨fun id b wm e => ?_, fun i j b wm wm' ei ej => ?_, fun b x e => ?_, hR'.tab⟩
    ·have e' : cutι ι' H.length id = some (b, wm) := e
     unfold cutι at e'
     split at e'
     ·rename_i hlt
      obtain ⟨B, hB, hrel⟩ := hR'.blk id b wm e'
      have hB' : H'[id]? = some B := hB
      exact ⟨B, by show (H'.take H.length)[id]? = _; rw [List.getElem?_take_of_lt hlt]; exact hB', BlkRel.cut (S := ⟨H', ι', w'⟩) hrel (hb id b wm e' hlt B (by rw [← hs id hlt]; exact hB'))⟩
     ·cases e'
    ·have ei' : cutι ι' H.length i = some (b, wm) := ei
     have ej' : cutι ι' H.length j = some (b, wm') := ej
     unfold cutι at ei' ej'
     split at ei' <;> split at ej' <;> first | exact hR'.inj i j b wm wm' ei' ej' | (cases ei') | (cases ej')
    ·obtain ⟨h1, h2⟩ := hR'.out b x e
     refine ⟨h1, fun i wm h => ?_⟩
     have h' : cutι ι' H.length i = some (b, wm) := h
     unfold cutι at h'
     split at h'
     ·exact h2 _ _ h'
     ·cases h'
   rw [hH] at hR2; exact hR2
  ·have := hev.cut
   simp only [hH] at this; exact this
  ·have := hnon.cut
   simp only [hH] at this; exact this
structure HT (t : Trie Blk) (n : Nat) (H : List Blk) : Prop where
 len : H.length = n
 blk : ∀ id B, get t id = some B → H[id]? = some B
theorem HT.nil : HT .nil 0 [] := ⟨rfl, fun id B h => by rw [get_nil] at h; cases h⟩
theorem HT.lt {t : Trie Blk} {n : Nat} {H : List Blk} (h : HT t n H) {id : Nat} {B : Blk} (hg : get t id = some B) : id < n := by
 rw [← h.len]; exact (List.getElem?_eq_some_iff.1 (h.blk id B hg)).1
theorem HT.skip {t : Trie Blk} {n : Nat} {H : List Blk} (h : HT t n H) (B : Blk) : HT t (n + 1) (H ++ [B]) :=
 ⟨by simp [h.len], fun id B' hg => by rw [List.getElem?_append_left (by have := h.lt hg; have := h.len; omega)]; exact h.blk id B' hg⟩
theorem HT.push {t : Trie Blk} {n : Nat} {H : List Blk} (h : HT t n H) (B : Blk) : HT (set t n B) (n + 1) (H ++ [B]) := by
 refine ⟨by simp [h.len], fun id B' hg => ?_⟩
 by_cases hid : n = id
 ·subst hid; rw [get_set_same] at hg; cases hg; simp [h.len]
 ·rw [get_set_other _ _ _ _ hid] at hg
  exact (h.skip B).blk id B' hg
theorem HT.set {t : Trie Blk} {n : Nat} {H : List Blk} (h : HT t n H) {id : Nat} (hlt : id < n) (B : Blk) : HT (Vm.set t id B) n (H.set id B) := by
 refine ⟨by simp [h.len], fun j B' hg => ?_⟩
 have hl := h.len
 by_cases hid : id = j
 ·subst hid; rw [get_set_same] at hg; cases hg; simp [hl, hlt]
 ·rw [get_set_other _ _ _ _ hid] at hg
  rw [List.getElem?_set_ne hid]; exact h.blk j B' hg
structure Keep (H H' : List Blk) (lo : Nat) : Prop where
 le : H.length ≤ H'.length
 low : ∀ id, id < lo → id < H.length → H'[id]? = H[id]?
 marks : keepsD H H'
theorem Keep.refl (H : List Blk) (lo : Nat) : Keep H H lo := ⟨Nat.le_refl _, fun _ _ _ => rfl, fun _ h => h⟩
theorem Keep.trans {H H1 H2 : List Blk} {lo lo' lo'' : Nat} (h : Keep H H1 lo) (h' : Keep H1 H2 lo') (h1 : lo'' ≤ lo) (h2 : lo'' ≤ lo') : Keep H H2 lo'' :=
 ⟨Nat.le_trans h.le h'.le, fun id a b => (h'.low id (by omega) (by have := h.le; omega)).trans (h.low id (by omega) b), h.marks.trans h'.marks⟩
theorem Keep.mono {H H' : List Blk} {lo lo' : Nat} (h : Keep H H' lo) (h1 : lo' ≤ lo) : Keep H H' lo' := h.trans (Keep.refl H' lo') h1 (Nat.le_refl _)
theorem Keep.append (H H2 : List Blk) (lo : Nat) : Keep H (H ++ H2) lo :=
 ⟨by simp, fun id _ h => List.getElem?_append_left h, keepsD_append H H2⟩
theorem Keep.set {H : List Blk} {id : Nat} {B0 B : Blk} (h : H[id]? = some B0) (hd : B0 ≠ .defd) : Keep H (H.set id B) id :=
 ⟨by simp, fun j h1 _ => List.getElem?_set_ne (by omega), fun j hj => by
  rw [List.getElem?_set_ne]
  ·exact hj
  ·rintro rfl; rw [h] at hj; cases hj; exact hd rfl⟩
theorem lowT_spec {α : Type} {Q : α → Prop} {lo id : Nat} {c : Nat → α} (h : ∀ l, l ≤ lo → l ≤ id → Q (c l)) : Q (lowT lo id c) := by
 unfold lowT
 cases hb : Nat.ble lo id with
 | true => exact h lo (Nat.le_refl _) (Nat.le_of_ble_eq_true hb)
 | false =>
  refine h id ?_ (Nat.le_refl _)
  have : ¬ lo ≤ id := fun hle => by rw [Nat.ble_eq_true_of_le hle] at hb; cases hb
  omega
theorem putT_spec {α : Type} {Q : α → Prop} {k : Nat} {fail : α} {dst : Option Tmp} {v : AV} {vars : Trie AV} {c : Trie AV → α} (hf : Q fail)
  (h : ∀ vars', (∀ H H' d, putA ⟨k, vars, H, d⟩ dst v H' = some ⟨k, vars', H', d⟩) → Q (c vars')) : Q (putT k fail dst v vars c) := by
 unfold putT
 cases dst with
 | none => exact h vars fun _ _ _ => rfl
 | some x =>
  simp only
  cases hb : Nat.blt x k with
  | false => exact hf
  | true =>
   refine h _ fun H H' d => ?_
   have : x < k := Nat.le_of_ble_eq_true hb
   simp [putA, this]
theorem evalT_eq (k : Nat) (vars : Trie AV) (H : List Blk) (d : List Nat) : evalT vars = St.eval ⟨k, vars, H, d⟩ := by
 funext x; cases x <;> rfl
def CRok (P : Program) (f : FuncId) (args : List AV) (t : Trie Blk) (n : Nat) : CR → Prop
 | .fail _ => True
 | .ret v t' n' lo => ∀ H, HT t n H → ∃ H', HT t' n' H' ∧ ACall P f args H (.ret v) H' ∧ Keep H H' lo
 | .pan v t' n' lo => ∀ H, HT t n H → ∃ H', HT t' n' H' ∧ ACall P f args H (.pan v) H' ∧ Keep H H' lo
def SoundC (P : Program) (call : CallT) : Prop := ∀ f args t n, CRok P f args t n (call f args t n)
def RRok (P : Program) (id : Nat) (args : List AV) (t : Trie Blk) (n : Nat) : CR → Prop
 | .ret v t' n' lo => ∀ H, HT t n H → ∃ H', HT t' n' H' ∧ ARound P id args H (.ret v) H' ∧ Keep H H' lo
 | _ => True
def SoundR (P : Program) (round : RoundT) : Prop := ∀ id args t n, RRok P id args t n (round id args t n)
def ER.holds (k : Nat) (H0 : List Blk) (Q : AExit → St → Prop) : ER → Prop
 | .fail _ => True
 | .ok x e lo => ∃ H, HT e.t e.n H ∧ Keep H0 H lo ∧ Q x ⟨k, e.vars, H, e.defs⟩
def ER.both (k : Nat) (H0 : List Blk) (Q : St → Prop) (QP : AV → St → Prop) : ER → Prop
 | .ok .normal e lo => ∃ H, HT e.t e.n H ∧ Keep H0 H lo ∧ Q ⟨k, e.vars, H, e.defs⟩
 | .ok (.pan v) e lo => ∃ H, HT e.t e.n H ∧ Keep H0 H lo ∧ QP v ⟨k, e.vars, H, e.defs⟩
 | _ => True
inductive One (P : Program) (m : Bool) (ops : Array Oper) (o : Oper) (σ σ1 : St) : Prop
 | skip (hw : wantedA ops σ.vars o = some false) (hp : putA σ o.dst (.lit undef) σ.H = some σ1)
 | does {r : AR} {v : AV} {H' : List Blk} (hw : wantedA ops σ.vars o = some true) (ha : aop P m σ.H σ.eval o = some r) (hr : Does P r σ.H v H') (hd : keepsD σ.H H') (hp : putA σ o.dst v H' = some σ1)
theorem One.step {m : Bool} {ops : Array Oper} {i : Nat} {o : Oper} {σ σ1 : St} (ho : ops[i]? = some o) (h : One P m ops o σ σ1) : AStep P ops i σ σ1 := by
 cases h with
 | skip hw hp => exact .skip ho hw hp
 | does hw ha hr hd hp =>
  rcases hr with rfl | ⟨f, args, rfl, hc, hcall⟩ | ⟨id, args, rfl, hround⟩
  ·exact .val ho hw ha hd hp
  ·exact .call ho hw ha hc hcall hd hp
  ·exact .round ho hw ha hround hd hp
section
variable {m : Bool} {call : CallT} {round : RoundT} {k : Nat} {d : List Nat} (hc : SoundC P call) (hr : SoundR P round)
include hc hr
theorem evOp_spec {ops : Array Oper} {o : Oper} {vars : Trie AV} {t : Trie Blk} {n lo : Nat} {c : Trie AV → Trie Blk → Nat → Nat → ER} {H : List Blk} {i : Nat} (ho : ops[i]? = some o) (hH : HT t n H) {Q : ER → Prop} (hfail : ∀ w, Q (.fail w))
  (hstep : ∀ vars' t' n' lo' H', HT t' n' H' → Keep H H' lo' → lo' ≤ lo → One P m ops o ⟨k, vars, H, d⟩ ⟨k, vars', H', d⟩ → Q (c vars' t' n' lo'))
  (hpan : ∀ v t' n' lo' H', HT t' n' H' → Keep H H' lo' → lo' ≤ lo → PanOne P ops i ⟨k, vars, H, d⟩ v ⟨k, vars, H', d⟩ → Q (.ok (.pan v) ⟨vars, t', n', d⟩ lo')) :
  Q (evOp P m call round k d ops o vars t n lo c) := by
 unfold evOp
 rw [aopF_fun, wantF_fun]
 cases hw : wantedA ops vars o with
 | none => exact hfail _
 | some b =>
 cases b with
 | false =>
  simp only
  exact putT_spec (hfail _) fun vars' hp => hstep vars' t n lo H hH (Keep.refl _ _) (Nat.le_refl _) (.skip hw (hp H H d))
 | true =>
 simp only
 cases ha : aopT P m (get t) n (evalT vars) o with
 | none => exact hfail _
 | some r =>
 obtain ⟨ha', hokD⟩ := aopT_sound (H := H) hH.blk hH.len ha
 rw [evalT_eq k vars H d] at ha'
 cases r with
 | val v dl =>
  cases dl with
  | same => exact putT_spec (hfail _) fun vars' hp => hstep vars' t n lo H hH (Keep.refl _ _) (Nat.le_refl _) (.does hw ha' (.inl rfl) (fun _ h => h) (hp H H d))
  | push B => exact putT_spec (hfail _) fun vars' hp => hstep vars' _ _ lo (H ++ [B]) (hH.push B) (Keep.append _ _ _) (Nat.le_refl _) (.does hw ha' (.inl rfl) (keepsD_append _ _) (hp H _ d))
  | set id B =>
   obtain ⟨B0, hB0, hd0, _⟩ := hokD
   have hlt : id < n := by rw [← hH.len]; exact (List.getElem?_eq_some_iff.1 hB0).1
   have hk : Keep H (H.set id B) id := Keep.set hB0 hd0
   exact putT_spec (hfail _) fun vars' hp => lowT_spec fun l h1 h2 => hstep vars' _ _ l (H.set id B) (hH.set hlt B) (hk.mono h2) h1 (.does hw ha' (.inl rfl) hk.marks (hp H _ d))
 | call f args =>
  simp only
  cases hcal : callable P f with
  | false => exact hfail _
  | true =>
  simp only [cond_true]
  have hcf := hc f args t n
  cases hres : call f args t n with
  | fail w => exact hfail _
  | ret v t' n' l =>
   rw [hres] at hcf
   obtain ⟨H', hH', hcall, hk⟩ := hcf H hH
   exact putT_spec (hfail _) fun vars' hp => lowT_spec fun l h1 h2 => hstep vars' _ _ l H' hH' (hk.mono h2) h1 (.does hw ha' (.inr (.inl ⟨f, args, rfl, hcal, hcall⟩)) hk.marks (hp H _ d))
  | pan v t' n' l =>
   rw [hres] at hcf
   obtain ⟨H', hH', hcall, hk⟩ := hcf H hH
   exact lowT_spec fun l h1 h2 => hpan v t' n' l H' hH' (hk.mono h2) h1 (.call ho hw ha' hcal hcall hk.marks)
 | round id args =>
  simp only
  have hcf := hr id args t n
  cases hres : round id args t n with
  | fail w => exact hfail _
  | ret v t' n' l =>
   rw [hres] at hcf
   obtain ⟨H', hH', hcall, hk⟩ := hcf H hH
   exact putT_spec (hfail _) fun vars' hp => lowT_spec fun l h1 h2 => hstep vars' _ _ l H' hH' (hk.mono h2) h1 (.does hw ha' (.inr (.inr ⟨id, args, rfl, hcall⟩)) hk.marks (hp H _ d))
  | pan v t' n' l => exact hfail _
 | pan v => exact hpan v t n lo H hH (Keep.refl _ _) (Nat.le_refl _) (.op ho hw ha')
theorem evOps_sound {ops : Array Oper} {H0 : List Blk} : ∀ (l : List Oper) (i : Nat), (∀ j, l[j]? = ops[i + j]?) → ∀ vars t n lo H, HT t n H → Keep H0 H lo →
  (evOps P m call round k d ops l vars t n lo).holds k H0 fun x σ' => (x = .normal ∧ APath P ops (List.range' i l.length) ⟨k, vars, H, d⟩ σ') ∨ ∃ v, x = .pan v ∧ APanics P ops (List.range' i l.length) ⟨k, vars, H, d⟩ v σ'
 | [], i, _, vars, t, n, lo, H, hH, hk => ⟨H, hH, hk, .inl ⟨rfl, .nil⟩⟩
 | o :: l, i, hl, vars, t, n, lo, H, hH, hk => by
  have ho : ops[i]? = some o := by have := hl 0; simpa using this.symm
  have hl' : ∀ j, l[j]? = ops[i + 1 + j]? := fun j => by have := hl (j + 1); simpa [Nat.add_assoc, Nat.add_comm 1 j] using this
  show (evOp P m call round k d ops o vars t n lo (evOps P m call round k d ops l)).holds k H0 _
  refine evOp_spec hc hr ho hH (Q := fun r => ER.holds k H0 _ r) (fun _ => trivial) (fun vars' t' n' lo' H' hH' hk' hlo h1 => ?_) (fun v t' n' lo' H' hH' hk' hlo h1 => ?_)
  ·have ih := evOps_sound l (i + 1) hl' vars' t' n' lo' H' hH' (hk.trans hk' hlo (Nat.le_refl _))
   generalize evOps P m call round k d ops l vars' t' n' lo' = r at ih ⊢
   cases r with
   | fail w => trivial
   | ok x e lo2 =>
    obtain ⟨H2, a, b, q⟩ := ih
    refine ⟨H2, a, b, ?_⟩
    rcases q with ⟨q1, q2⟩ | ⟨v, q1, q2⟩
    ·exact .inl ⟨q1, .cons (h1.step ho) q2⟩
    ·exact .inr ⟨v, q1, .cons (h1.step ho) q2⟩
  ·exact ⟨H', hH', hk.trans hk' hlo (Nat.le_refl _), .inr ⟨v, rfl, h1.all⟩⟩
omit hc hr in
theorem HLe_of_keep {H H' : List Blk} {lo : Nat} (h : Keep H H' lo) (hn : H.length ≤ lo) : HLe H H' := fun id B hB _ => by
 have hlt := (List.getElem?_eq_some_iff.1 hB).1
 rw [h.low id (by omega) hlt]; exact hB
def Ag (W : List Nat) (tb : Trie Blk) (H : List Blk) : Prop := ∀ id B, hideT (some W) tb id = some B → H[id]? = some B
omit hc hr in
theorem hideT_get {W : List Nat} {tb : Trie Blk} {id : Nat} {B : Blk} (h : hideT (some W) tb id = some B) : get tb id = some B ∧ B.loose = false ∧ memN W id = false := by
 unfold hideT at h
 simp only at h
 cases hm : memN W id with
 | true => rw [hm] at h; cases h
 | false =>
  rw [hm] at h
  simp only [cond_false] at h
  split at h
  ·cases h
  ·rename_i hx
   refine ⟨h, ?_, rfl⟩
   cases B with
   | row g => exact absurd h (hx g)
   | _ => rfl
omit hc hr in
theorem Ag.le {W : List Nat} {tb : Trie Blk} {H H' : List Blk} (h : Ag W tb H) (hle : HLe H H') : Ag W tb H' := fun id B hB => hle id B (h id B hB) (hideT_get hB).2.1
omit hc hr in
theorem Ag.of {W : List Nat} {t : Trie Blk} {n : Nat} {H : List Blk} (h : HT t n H) : Ag W t H := fun id B hB => h.blk id B (hideT_get hB).1
omit hc hr in
theorem aopT_same {g : Nat → Option Blk} {n : Nat} (n' : Nat) {ρ : Operand → Option AV} {o : Oper} {v : AV} (hk : okind o = .plain) (h : aopT P m g n ρ o = some (.val v .same)) : aopT P m g n' ρ o = some (.val v .same) := by
 obtain ⟨dst, op, ty, pos, after, guard⟩ := o
 cases op with
 | alloc => simp [okind] at hk
 | box => simp [okind] at hk
 | makeSlice => simp [okind] at hk
 | range => simp [okind] at hk
 | next => simp [okind] at hk
 | makeMap t r => cases r <;> simp [okind] at hk
 | call c =>
  obtain ⟨callee, cargs, argTypes⟩ := c
  cases callee with
  | value f => simp [okind] at hk
  | invoke r m => simp [okind] at hk
  | builtin b => cases b <;> simp only [okind, reduceCtorEq] at hk <;> exact h
 | _ => exact h
omit hc hr in
theorem no_late {Q : Prop} {i : Nat} : noLates.lm.testBit i = true → Q := fun h => by
 have h : Nat.testBit 0 i = true := h
 rw [Nat.zero_testBit] at h; cases h
theorem evSeg_sound {ops : Array Oper} {mask n0 : Nat} {W : List Nat} {H0 : List Blk} : ∀ (l : List Oper) (i : Nat), (∀ j, l[j]? = ops[i + j]?) → ∀ tb nb vars t n lo H, Ag W tb H → HT t n H → n0 + ops.size ≤ n → Keep H0 H lo →
    ER.both k H0 (fun σ' => ∃ Hs' : List (List Blk), (∀ H1 ∈ Hs', Ag W tb H1) ∧ ∀ Hs, (∀ H1 ∈ Hs', H1 ∈ Hs) → (∀ H1 ∈ Hs, Ag W tb H1) → DPath P ops (alAt P n0 ops) mask noLates Hs (List.range' i l.length) ⟨k, vars, H, d⟩ σ') (fun v' σ' => ∃ Hs' : List (List Blk), (∀ H1 ∈ Hs', Ag W tb H1) ∧ ∀ Hs, (∀ H1 ∈ Hs', H1 ∈ Hs) → (∀ H1 ∈ Hs, Ag W tb H1) → DPan P ops (alAt P n0 ops) mask Hs (List.range' i l.length) ⟨k, vars, H, d⟩ v' σ')
      (evSeg P m call round k d ops mask n0 (some W) l i tb nb vars t n lo)
  | [], i, _, tb, nb, vars, t, n, lo, H, _, hH, _, hk => ⟨H, hH, hk, [], (fun _ h => by cases h), fun _ _ _ => .nil⟩
  | o :: l, i, hl, tb, nb, vars, t, n, lo, H, hag, hH, hn0, hk => by
    have ho : ops[i]? = some o := by have := hl 0; simpa using this.symm
    have hl' : ∀ j, l[j]? = ops[i + 1 + j]? := fun j => by have := hl (j + 1); simpa [Nat.add_assoc, Nat.add_comm 1 j] using this
    -- one step that is no barrier
    have go : ∀ vars' t' n' lo' H' (hm : mask.testBit i = false), HT t' n' H' → Ag W tb H' → Keep H H' lo' → lo' ≤ lo →
        (∀ Hs, H' ∈ Hs ∨ HLe H H' → (∀ H1 ∈ Hs, Ag W tb H1) → DStep P ops (alAt P n0 ops) Hs i ⟨k, vars, H, d⟩ ⟨k, vars', H', d⟩) →
        ER.both k H0 (fun σ' => ∃ Hs' : List (List Blk), (∀ H1 ∈ Hs', Ag W tb H1) ∧ ∀ Hs, (∀ H1 ∈ Hs', H1 ∈ Hs) → (∀ H1 ∈ Hs, Ag W tb H1) → DPath P ops (alAt P n0 ops) mask noLates Hs (List.range' i (o :: l).length) ⟨k, vars, H, d⟩ σ') (fun v' σ' => ∃ Hs' : List (List Blk), (∀ H1 ∈ Hs', Ag W tb H1) ∧ ∀ Hs, (∀ H1 ∈ Hs', H1 ∈ Hs) → (∀ H1 ∈ Hs, Ag W tb H1) → DPan P ops (alAt P n0 ops) mask Hs (List.range' i (o :: l).length) ⟨k, vars, H, d⟩ v' σ')
          (evSeg P m call round k d ops mask n0 (some W) l (i + 1) tb nb vars' t' n' lo') := by
      intro vars' t' n' lo' H' hm hH' hag' hk' hlo hs
      have ih := evSeg_sound (mask := mask) (n0 := n0) (W := W) l (i + 1) hl' tb nb vars' t' n' lo' H' hag' hH' (by have := hk'.le; have := hH.len; have := hH'.len; omega) (hk.trans hk' hlo (Nat.le_refl _))
      generalize evSeg P m call round k d ops mask n0 (some W) l (i + 1) tb nb vars' t' n' lo' = r at ih ⊢
      cases r with
      | fail w => trivial
      | ok x e lo2 =>
        cases x with
        | normal =>
          obtain ⟨H2, a, b, Hs', q1, q2⟩ := ih
          refine ⟨H2, a, b, H' :: Hs', ?_, fun Hs h1 h2 => .cons hm (hs Hs (.inl (h1 _ (by simp))) h2) no_late (q2 Hs (fun H1 h => h1 H1 (by simp [h])) h2)⟩
          intro H1 h
          rcases List.mem_cons.1 h with rfl | h
          · exact hag'
          · exact q1 H1 h
        | pan v' =>
          obtain ⟨H2, a, b, Hs', q1, q2⟩ := ih
          refine ⟨H2, a, b, H' :: Hs', ?_, fun Hs h1 h2 => .cons hm (hs Hs (.inl (h1 _ (by simp))) h2) (q2 Hs (fun H1 h => h1 H1 (by simp [h])) h2)⟩
          intro H1 h
          rcases List.mem_cons.1 h with rfl | h
          · exact hag'
          · exact q1 H1 h
        | _ => trivial
    show ER.both k H0 _ _ (bif Nat.testBit mask i then _ else _ : ER)
    cases hm : Nat.testBit mask i with
    | true =>
      simp only [cond_true]
      refine evOp_spec hc hr ho hH (Q := fun r => ER.both k H0 _ _ (panT lo r _)) (fun _ => trivial) (fun vars' t' n' l1 H' hH' hk' _ h1 => ?_) (fun v t' n' l1 H' hH' hk' _ h1 => lowT_spec (Q := fun r => ER.both k H0 _ _ r) fun lo' h2 h3 =>
        ⟨H', hH', hk.trans hk' h2 h3, [], (fun _ h => by cases h), fun Hs _ _ => .pan hm h1⟩)
      show ER.both k H0 _ _ (bif noLay P l || Nat.ble n l1 then lowT lo l1 fun lo' => evSeg P m call round k d ops mask n0 (some W) l (i + 1) t' n' vars' t' n' lo' else .fail o.pos)
      cases hcond : (noLay P l || Nat.ble n l1) with
      | false => trivial
      | true =>
      simp only [cond_true]
      refine lowT_spec (Q := fun r => ER.both k H0 _ _ r) fun lo' h2 h3 => ?_
      have ih := evSeg_sound (mask := mask) (n0 := n0) (W := W) l (i + 1) hl' t' n' vars' t' n' lo' H' (Ag.of hH') hH' (by have := hk'.le; have := hH.len; have := hH'.len; omega) (hk.trans hk' h2 h3)
      show ER.both k H0 _ _ (evSeg P m call round k d ops mask n0 (some W) l (i + 1) t' n' vars' t' n' lo')
      generalize evSeg P m call round k d ops mask n0 (some W) l (i + 1) t' n' vars' t' n' lo' = r at ih ⊢
      cases r with
      | fail w => trivial
      | ok x e lo2 =>
        cases x with
        | normal =>
          obtain ⟨H2, a, b, Hs', q1, q2⟩ := ih
          refine ⟨H2, a, b, [], (fun _ h => by cases h), fun Hs _ _ => .barrier (Hs' := H' :: Hs') hm (h1.step ho) (fun j hj id hal => ?_) ⟨H', by simp, HLe.refl _⟩ (fun e => by cases e)
            (q2 (H' :: Hs') (fun H1 h => by simp [h]) fun H1 h => ?_)⟩
          · have hal' := alAt_spec hal
            rw [Bool.or_eq_true] at hcond
            rcases hcond with hcond | hcond
            · exfalso
              unfold noLay at hcond
              rw [List.all_eq_true] at hcond
              rw [List.mem_range'_1] at hj
              have hj2 : l[j - (i + 1)]? = ops[j]? := by rw [hl']; congr 1; omega
              unfold alAt at hal
              split at hal
              · rename_i oj hoj
                rw [hoj] at hj2
                have := hcond oj (List.mem_of_getElem? hj2)
                split at hal
                · rename_i B hB; rw [hB] at this; simp at this
                · cases hal
              · cases hal
            · have hle1 := Nat.le_of_ble_eq_true hcond
              show H'[id]? = H[id]?
              exact hk'.low id (by omega) (by rw [hH.len]; omega)
          · rcases List.mem_cons.1 h with rfl | h
            · exact Ag.of hH'
            · exact q1 H1 h
        | pan v' =>
          obtain ⟨H2, a, b, Hs', q1, q2⟩ := ih
          refine ⟨H2, a, b, [], (fun _ h => by cases h), fun Hs _ _ => .barrier (Hs' := H' :: Hs') hm (h1.step ho) (fun j hj id hal => ?_) ⟨H', by simp, HLe.refl _⟩
            (q2 (H' :: Hs') (fun H1 h => by simp [h]) fun H1 h => ?_)⟩
          · have hal' := alAt_spec hal
            rw [Bool.or_eq_true] at hcond
            rcases hcond with hcond | hcond
            · exfalso
              unfold noLay at hcond
              rw [List.all_eq_true] at hcond
              rw [List.mem_range'_1] at hj
              have hj2 : l[j - (i + 1)]? = ops[j]? := by rw [hl']; congr 1; omega
              unfold alAt at hal
              split at hal
              · rename_i oj hoj
                rw [hoj] at hj2
                have := hcond oj (List.mem_of_getElem? hj2)
                split at hal
                · rename_i B hB; rw [hB] at this; simp at this
                · cases hal
              · cases hal
            · have hle1 := Nat.le_of_ble_eq_true hcond
              show H'[id]? = H[id]?
              exact hk'.low id (by omega) (by rw [hH.len]; omega)
          · rcases List.mem_cons.1 h with rfl | h
            · exact Ag.of hH'
            · exact q1 H1 h
        | _ => trivial
    | false =>
      simp only [cond_false]
      have skip : ∀ (hw : wantedA ops vars o = some false), ER.both k H0 (fun σ' => ∃ Hs' : List (List Blk), (∀ H1 ∈ Hs', Ag W tb H1) ∧ ∀ Hs, (∀ H1 ∈ Hs', H1 ∈ Hs) → (∀ H1 ∈ Hs, Ag W tb H1) → DPath P ops (alAt P n0 ops) mask noLates Hs (List.range' i (o :: l).length) ⟨k, vars, H, d⟩ σ') (fun v' σ' => ∃ Hs' : List (List Blk), (∀ H1 ∈ Hs', Ag W tb H1) ∧ ∀ Hs, (∀ H1 ∈ Hs', H1 ∈ Hs) → (∀ H1 ∈ Hs, Ag W tb H1) → DPan P ops (alAt P n0 ops) mask Hs (List.range' i (o :: l).length) ⟨k, vars, H, d⟩ v' σ')
          (putT k (.fail o.pos) o.dst (.lit undef) vars fun vars' => evSeg P m call round k d ops mask n0 (some W) l (i + 1) tb nb vars' t n lo) := fun hw =>
        putT_spec (Q := fun r => ER.both k H0 _ _ r) trivial fun vars' hp => go vars' t n lo H hm hH hag (Keep.refl _ _) (Nat.le_refl _) fun _ _ _ => ⟨o, _, H, ho, .skip hw, hp H H d⟩
      cases hok : okind o with
      | plain =>
        simp only
        cases hw : wantF ops vars o with
        | none => trivial
        | some b =>
        cases b with
        | false => exact skip (by rw [wantF_fun] at hw; exact hw)
        | true =>
          rw [wantF_fun] at hw
          simp only
          cases ha : aopF P m (hideT (some W) tb) nb (evalT vars) o with
          | none => trivial
          | some r =>
          cases r with
          | val v dl =>
            cases dl with
            | same =>
              have key : ∀ H1, Ag W tb H1 → aop P m H1 (St.eval ⟨k, vars, H, d⟩) o = some (.val v H1) := fun H1 h1 => by
                have := (aopT_sound (H := H1) h1 rfl (aopT_same H1.length hok (by rw [aopF_fun] at ha; exact ha))).1
                rw [evalT_eq k vars H d] at this
                exact this
              exact putT_spec (Q := fun r => ER.both k H0 _ _ r) trivial fun vars' hp => go vars' t n lo H hm hH hag (Keep.refl _ _) (Nat.le_refl _) fun Hs _ hall =>
                ⟨o, v, H, ho, .plain hok hw (key H hag) (fun H1 h1 => key H1 (hall H1 h1)), hp H H d⟩
            | _ => trivial
          | _ => trivial
      | lay =>
        simp only
        cases hw : wantF ops vars o with
        | none => trivial
        | some b =>
        cases b with
        | false => exact skip (by rw [wantF_fun] at hw; exact hw)
        | true =>
          rw [wantF_fun] at hw
          simp only
          cases hB : layB P o with
          | none => trivial
          | some B =>
            exact putT_spec (Q := fun r => ER.both k H0 _ _ r) trivial fun vars' hp => go vars' t n lo H hm hH hag (Keep.refl _ _) (Nat.le_refl _) fun _ _ _ =>
              ⟨o, layV o (n0 + i), H, ho, .lay hok hw hB (by simp [alAt, ho, hB]), hp H H d⟩
      | eff =>
        simp only
        have gen : ER.both k H0 (fun σ' => ∃ Hs' : List (List Blk), (∀ H1 ∈ Hs', Ag W tb H1) ∧ ∀ Hs, (∀ H1 ∈ Hs', H1 ∈ Hs) → (∀ H1 ∈ Hs, Ag W tb H1) → DPath P ops (alAt P n0 ops) mask noLates Hs (List.range' i (o :: l).length) ⟨k, vars, H, d⟩ σ') (fun v' σ' => ∃ Hs' : List (List Blk), (∀ H1 ∈ Hs', Ag W tb H1) ∧ ∀ Hs, (∀ H1 ∈ Hs', H1 ∈ Hs) → (∀ H1 ∈ Hs, Ag W tb H1) → DPan P ops (alAt P n0 ops) mask Hs (List.range' i (o :: l).length) ⟨k, vars, H, d⟩ v' σ')
            (noPanT (evOp P m call round k d ops o vars t n noLo fun vars' t' n' l1 => .ok .normal ⟨vars', t', n', d⟩ l1) fun vars' t' n' l1 => bif Nat.ble n l1 then evSeg P m call round k d ops mask n0 (some W) l (i + 1) tb nb vars' t' n' lo else .fail o.pos) := by
          refine evOp_spec hc hr ho hH (Q := fun r => ER.both k H0 _ _ (noPanT r _)) (fun _ => trivial) (fun vars' t' n' l1 H' hH' hk' hl1 h1 => ?_) (fun v t' n' lo' H' hH' hk' hlo h1 => trivial)
          show ER.both k H0 _ _ (bif Nat.ble n l1 then evSeg P m call round k d ops mask n0 (some W) l (i + 1) tb nb vars' t' n' lo else .fail o.pos)
          cases hcond : Nat.ble n l1 with
          | false => trivial
          | true =>
            simp only [cond_true]
            have hle1 := Nat.le_of_ble_eq_true hcond
            have hle2 : HLe H H' := HLe_of_keep hk' (by rw [hH.len]; exact hle1)
            have hk2 : Keep H H' lo := ⟨hk'.le, fun id _ hlt => hk'.low id (by have := hH.len; omega) hlt, hk'.marks⟩
            refine go vars' t' n' lo H' hm hH' (hag.le hle2) hk2 (Nat.le_refl _) fun Hs _ _ => ?_
            cases h1 with
            | skip hw hp => exact ⟨o, _, _, ho, .skip hw, hp⟩
            | does hw ha hr' hd hp =>
              rename_i r v H1
              have e := (putA_H hp).1
              have e' : H' = H1 := e
              subst e'
              exact ⟨o, v, _, ho, .eff hok hw ha hr' hle2, hp⟩
        split
        · rename_i v id g hw ha
          rw [wantF_fun] at hw
          rw [aopF_fun] at ha
          obtain ⟨ha', B0, hB0, hd0, hloose⟩ := aopT_sound (H := H) hH.blk hH.len ha
          rw [evalT_eq k vars H d] at ha'
          have hlt : id < n := by rw [← hH.len]; exact (List.getElem?_eq_some_iff.1 hB0).1
          have hk' : Keep H (H.set id (.row g)) id := Keep.set hB0 hd0
          have hle2 : HLe H (H.set id (.row g)) := fun j B hB hl => by
            rw [List.getElem?_set_ne]
            · exact hB
            · rintro rfl; rw [hB0] at hB; cases hB; rw [hloose rfl] at hl; cases hl
          exact putT_spec (Q := fun r => ER.both k H0 _ _ r) trivial fun vars' hp => lowT_spec (Q := fun r => ER.both k H0 _ _ r) fun lo' h2 h3 =>
            go vars' _ n lo' _ hm (hH.set hlt (.row g)) (hag.le hle2) (hk'.mono h3) h2 fun Hs _ _ => ⟨o, v, _, ho, .eff hok hw ha' (.inl rfl) hle2, hp H _ d⟩
        · exact gen
      | store =>
        simp only
        cases hw : wantF ops vars o with
        | none => trivial
        | some b =>
        cases b with
        | false => trivial
        | true =>
        rw [wantF_fun] at hw
        simp only
        cases ha : aopF P m (get t) n (evalT vars) o with
        | none => trivial
        | some r =>
        cases r with
        | val v dl =>
          cases dl with
          | set id B =>
            simp only
            cases hw2 : inW (some W) id with
            | false => trivial
            | true =>
            simp only [cond_true]
            obtain ⟨ha', B0, hB0, hd0, hloose⟩ := aopT_sound (H := H) hH.blk hH.len (by rw [aopF_fun] at ha; exact ha)
            rw [evalT_eq k vars H d] at ha'
            have hlt : id < n := by rw [← hH.len]; exact (List.getElem?_eq_some_iff.1 hB0).1
            have hk' : Keep H (H.set id B) id := Keep.set hB0 hd0
            have hag' : Ag W tb (H.set id B) := fun j Bj hj => by
              have hx := hideT_get hj
              rw [List.getElem?_set_ne]
              · exact hag j Bj hj
              · rintro rfl
                have : memN W id = true := hw2
                rw [this] at hx; cases hx.2.2
            refine putT_spec (Q := fun r => ER.both k H0 _ _ r) trivial fun vars' hp => lowT_spec (Q := fun r => ER.both k H0 _ _ r) fun lo' h2 h3 => ?_
            have ih := evSeg_sound (mask := mask) (n0 := n0) (W := W) l (i + 1) hl' tb nb vars' _ n lo' _ hag' (hH.set hlt B) hn0 (hk.trans hk' h2 h3)
            show ER.both k H0 _ _ (evSeg P m call round k d ops mask n0 (some W) l (i + 1) tb nb vars' (Vm.set t id B) n lo')
            generalize evSeg P m call round k d ops mask n0 (some W) l (i + 1) tb nb vars' (Vm.set t id B) n lo' = r at ih ⊢
            cases r with
            | fail w => trivial
            | ok x e lo2 =>
              cases x with
              | normal =>
                obtain ⟨H2, a, b, Hs', q1, q2⟩ := ih
                refine ⟨H2, a, b, (H.set id B) :: Hs', ?_, fun Hs h1 h2 => .cons hm ⟨o, v, _, ho, .store hok hw ha' ⟨H.set id B, h1 _ (by simp), HLe.refl _⟩ hk'.marks, hp H _ d⟩ no_late (q2 Hs (fun H1 h => h1 H1 (by simp [h])) h2)⟩
                intro H1 h
                rcases List.mem_cons.1 h with rfl | h
                · exact hag'
                · exact q1 H1 h
              | pan v' =>
                obtain ⟨H2, a, b, Hs', q1, q2⟩ := ih
                refine ⟨H2, a, b, (H.set id B) :: Hs', ?_, fun Hs h1 h2 => .cons hm ⟨o, v, _, ho, .store hok hw ha' ⟨H.set id B, h1 _ (by simp), HLe.refl _⟩ hk'.marks, hp H _ d⟩ (q2 Hs (fun H1 h => h1 H1 (by simp [h])) h2)⟩
                intro H1 h
                rcases List.mem_cons.1 h with rfl | h
                · exact hag'
                · exact q1 H1 h
              | _ => trivial
          | _ => trivial
        | _ => trivial
omit hc hr in
theorem hoistT_sound : ∀ (l : List Oper) (j : Nat) (t : Trie Blk) (H : List Blk), HT t j H → HT (hoistT P l j t) (j + l.length) (H ++ l.map fun o => (layB P o).getD .defd)
 | [], j, t, H, h => by
  have e : H ++ ([] : List Oper).map (fun o => (layB P o).getD .defd) = H := by simp
  rw [e]; exact h
 | o :: l, j, t, H, h => by
  have e : j + (o :: l).length = j + 1 + l.length := by simp; omega
  rw [e]
  show HT (match layB P o with | some B => hoistT P l (j + 1) (set t j B) | none => hoistT P l (j + 1) t) _ _
  cases hB : layB P o with
  | some B =>
   have := hoistT_sound l (j + 1) (set t j B) (H ++ [B]) (h.push B)
   simpa [hB] using this
  | none =>
   have := hoistT_sound l (j + 1) t (H ++ [.defd]) (h.skip .defd)
   simpa [hB] using this
theorem evDrawW_sound {ops : Array Oper} {W : List Nat} {vars : Trie AV} {t : Trie Blk} {n lo id : Nat} {H H0 : List Blk} {ro : Option Nat} (hm : P.follows .mixedOrders = true) (hd : drawOkF (maskF ops) ops = true)
  (hH : HT t n H) (hk : Keep H0 H lo) :
  ER.holds k H0 (fun x σ' => Run P ro (.region id ops true) ⟨k, vars, H, d⟩ x σ') (evDrawW P m call round k d ops (some W) vars t n lo) := by
 unfold evDrawW
 have hH1 : HT (hoistT P ops.toList n t) (n + ops.size) (H ++ hoisted P ops) := by
  have := hoistT_sound (P := P) ops.toList n t H hH
  simpa [hoisted] using this
 have hs := evSeg_sound (k := k) (d := d) (m := m) hc hr (ops := ops) (mask := maskF ops) (n0 := n) (W := W) (H0 := H0) ops.toList 0 (fun j => by simp) (hoistT P ops.toList n t) (n + ops.size) vars (hoistT P ops.toList n t) (n + ops.size) lo
  (H ++ hoisted P ops) (Ag.of hH1) hH1 (Nat.le_refl _) (hk.trans (Keep.append H _ lo) (Nat.le_refl _) (Nat.le_refl _))
 generalize evSeg P m call round k d ops (maskF ops) n (some W) ops.toList 0 (hoistT P ops.toList n t) (n + ops.size) vars (hoistT P ops.toList n t) (n + ops.size) lo = r at hs ⊢
 cases r with
 | fail w => trivial
 | ok x e lo' =>
  cases x with
  | normal =>
   obtain ⟨H2, a, b, Hs', q1, q2⟩ := hs
   refine ⟨H2, a, b, ?_⟩
   refine Run.region_draw (Hs := (H ++ hoisted P ops) :: Hs') hm hd (by simp) ?_
   have := q2 ((H ++ hoisted P ops) :: Hs') (fun H1 h => by simp [h]) (fun H1 h => by
    rcases List.mem_cons.1 h with rfl | h
    ·exact Ag.of hH1
    ·exact q1 H1 h)
   simp only [hH.len]
   simpa [List.range_eq_range'] using this
  | pan v =>
   simp only
   cases hds : drawOk (maskF ops) ops with
   | false => trivial
   | true =>
   simp only [cond_true]
   obtain ⟨H2, a, b, Hs', q1, q2⟩ := hs
   refine ⟨H2, a, b, ?_⟩
   refine Run.region_draw_pan (mask := maskF ops) (Hs := (H ++ hoisted P ops) :: Hs') hm hds (by simp) ?_
   have := q2 ((H ++ hoisted P ops) :: Hs') (fun H1 h => by simp [h]) (fun H1 h => by
    rcases List.mem_cons.1 h with rfl | h
    ·exact Ag.of hH1
    ·exact q1 H1 h)
   simp only [hH.len]
   simpa [List.range_eq_range'] using this
  | _ => trivial
omit hc hr in
theorem lbeq_eq : ∀ {a b : List UInt8}, lbeq a b = true → a = b
 | [], [], _ => rfl
 | [], _ :: _, h => by simp [lbeq] at h
 | _ :: _, [], h => by simp [lbeq] at h
 | a :: l, b :: l', h => by
  simp only [lbeq, Bool.and_eq_true] at h
  rw [lbeq_eq h.2, UInt8.toNat_inj.1 (Nat.eq_of_beq_eq_true h.1)]
omit hc hr in
theorem csame_eq {a b : AV} (h : csame a b = true) : a = b := by
 unfold csame at h
 split at h
 ·rename_i x y
  have e := lbeq_eq h
  obtain ⟨⟨x⟩⟩ := x
  obtain ⟨⟨y⟩⟩ := y
  have e : x = y := e
  rw [e]
 ·rw [Bool.and_eq_true] at h
  rw [Nat.eq_of_beq_eq_true h.1, Nat.eq_of_beq_eq_true h.2]
 ·cases h
omit hc hr in
theorem csames_eq : ∀ {a b : List AV}, csames a b = true → a = b
 | [], [], _ => rfl
 | [], _ :: _, h => by simp [csames] at h
 | _ :: _, [], h => by simp [csames] at h
 | a :: l, b :: l', h => by
  simp only [csames, Bool.and_eq_true] at h
  rw [csames_eq h.2, csame_eq h.1]
omit hc hr in
theorem blkSame_eq {a b : Option Blk} (h : blkSame a b = true) : ∃ c t, a = some (.box c t) ∧ b = some (.box c t) := by
 unfold blkSame at h
 split at h
 ·rw [Bool.and_eq_true] at h
  rw [csames_eq h.1, Nat.eq_of_beq_eq_true h.2]
  exact ⟨_, _, rfl, rfl⟩
 ·cases h
def LJ (L : List Nat) (t0 : Trie Blk) (H : List Blk) : Prop := ∀ id B, lateT L t0 id = some B → H[id]? = some B
omit hc hr in
theorem LJ.of_same {L : List Nat} {t0 t : Trie Blk} (h : sameL L t0 t = true) {H : List Blk} (hag : Ag [] t H) : LJ L t0 H := fun id B hB => by
 unfold lateT at hB
 cases hm : memN L id with
 | false => rw [hm] at hB; cases hB
 | true =>
  rw [hm, cond_true] at hB
  have hmem : id ∈ L := by
   clear hB h
   induction L with
   | nil => cases hm
   | cons a L ih =>
    have hm' : (bif Nat.beq a id then true else memN L id) = true := hm
    cases hb : Nat.beq a id with
    | true => rw [Nat.eq_of_beq_eq_true hb]; exact List.mem_cons_self
    | false => rw [hb, cond_false] at hm'; exact List.mem_cons_of_mem _ (ih hm')
  unfold sameL at h
  rw [List.all_eq_true] at h
  obtain ⟨c, u, e1, e2⟩ := blkSame_eq (h id hmem)
  rw [e1] at hB
  have hB : some (Blk.box c u) = some B := hB
  cases hB
  refine hag id _ ?_
  unfold hideT
  show (bif memN [] id then none else match get t id with | some (.row _) => none | x => x) = _
  rw [e2]
  rfl
theorem evSegL_sound {ops : Array Oper} {mask lm n0 : Nat} {L : List Nat} {t0 : Trie Blk} {H0 : List Blk} : ∀ (l : List Oper) (i : Nat), (∀ j, l[j]? = ops[i + j]?) → ∀ tb nb vars t n lo H, Ag [] tb H → HT t n H → Keep H0 H lo →
    ER.both k H0 (fun σ' => ∃ Hs' : List (List Blk), (∀ H1 ∈ Hs', Ag [] tb H1) ∧ ∀ Hs, (∀ H1 ∈ Hs', H1 ∈ Hs) → (∀ H1 ∈ Hs, Ag [] tb H1) → DPath P ops (alAt P n0 ops) mask ⟨lm, LJ L t0, needL lm ops⟩ Hs (List.range' i l.length) ⟨k, vars, H, d⟩ σ') (fun _ _ => True)
      (evSegL P m call round k d ops mask lm L t0 l i tb nb vars t n lo)
  | [], i, _, tb, nb, vars, t, n, lo, H, _, hH, hk => ⟨H, hH, hk, [], (fun _ h => by cases h), fun _ _ _ => .nil⟩
  | o :: l, i, hl, tb, nb, vars, t, n, lo, H, hag, hH, hk => by
    have ho : ops[i]? = some o := by have := hl 0; simpa using this.symm
    have hl' : ∀ j, l[j]? = ops[i + 1 + j]? := fun j => by have := hl (j + 1); simpa [Nat.add_assoc, Nat.add_comm 1 j] using this
    have go : ∀ vars' (hm : mask.testBit i = false), (∀ Hs, (∀ H1 ∈ Hs, Ag [] tb H1) → DStep P ops (alAt P n0 ops) Hs i ⟨k, vars, H, d⟩ ⟨k, vars', H, d⟩) → (lm.testBit i = true → LateStep P ops (LJ L t0) i ⟨k, vars, H, d⟩ ⟨k, vars', H, d⟩) →
        ER.both k H0 (fun σ' => ∃ Hs' : List (List Blk), (∀ H1 ∈ Hs', Ag [] tb H1) ∧ ∀ Hs, (∀ H1 ∈ Hs', H1 ∈ Hs) → (∀ H1 ∈ Hs, Ag [] tb H1) → DPath P ops (alAt P n0 ops) mask ⟨lm, LJ L t0, needL lm ops⟩ Hs (List.range' i (o :: l).length) ⟨k, vars, H, d⟩ σ') (fun _ _ => True)
          (evSegL P m call round k d ops mask lm L t0 l (i + 1) tb nb vars' t n lo) := by
      intro vars' hm hs hlate
      have ih := evSegL_sound (mask := mask) (lm := lm) (n0 := n0) (L := L) (t0 := t0) (H0 := H0) l (i + 1) hl' tb nb vars' t n lo H hag hH hk
      generalize evSegL P m call round k d ops mask lm L t0 l (i + 1) tb nb vars' t n lo = r at ih ⊢
      cases r with
      | fail w => trivial
      | ok x e lo2 =>
        cases x with
        | normal =>
          obtain ⟨H2, a, b, Hs', q1, q2⟩ := ih
          exact ⟨H2, a, b, Hs', q1, fun Hs h1 h2 => .cons hm (hs Hs h2) hlate (q2 Hs h1 h2)⟩
        | pan v' =>
          obtain ⟨H2, a, b, _⟩ := ih
          exact ⟨H2, a, b, trivial⟩
        | _ => trivial
    show ER.both k H0 _ _ (bif Nat.testBit mask i then _ else _ : ER)
    cases hm : Nat.testBit mask i with
    | true =>
      simp only [cond_true]
      refine evOp_spec hc hr ho hH (Q := fun r => ER.both k H0 _ _ (noPanT r _)) (fun _ => trivial) (fun vars' t' n' l1 H' hH' hk' _ h1 => ?_) (fun v t' n' l1 H' hH' hk' _ h1 => trivial)
      show ER.both k H0 _ _ (bif noLay P l && (!needL lm ops i || sameL L t0 t') then lowT lo l1 fun lo' => evSegL P m call round k d ops mask lm L t0 l (i + 1) t' n' vars' t' n' lo' else .fail o.pos)
      cases hcond : (noLay P l && (!needL lm ops i || sameL L t0 t')) with
      | false => trivial
      | true =>
      simp only [cond_true]
      rw [Bool.and_eq_true, Bool.or_eq_true, Bool.not_eq_true'] at hcond
      refine lowT_spec (Q := fun r => ER.both k H0 _ _ r) fun lo' h2 h3 => ?_
      have ih := evSegL_sound (mask := mask) (lm := lm) (n0 := n0) (L := L) (t0 := t0) (H0 := H0) l (i + 1) hl' t' n' vars' t' n' lo' H' (Ag.of hH') hH' (hk.trans hk' h2 h3)
      show ER.both k H0 _ _ (evSegL P m call round k d ops mask lm L t0 l (i + 1) t' n' vars' t' n' lo')
      generalize evSegL P m call round k d ops mask lm L t0 l (i + 1) t' n' vars' t' n' lo' = r at ih ⊢
      cases r with
      | fail w => trivial
      | ok x e lo2 =>
        cases x with
        | normal =>
          obtain ⟨H2, a, b, Hs', q1, q2⟩ := ih
          have hall : ∀ H1 ∈ H' :: Hs', Ag [] t' H1 := fun H1 h => by
            rcases List.mem_cons.1 h with rfl | h
            · exact Ag.of hH'
            · exact q1 H1 h
          refine ⟨H2, a, b, [], (fun _ h => by cases h), fun Hs _ _ => .barrier (Hs' := H' :: Hs') hm (h1.step ho) (fun j hj id hal => ?_) ⟨H', by simp, HLe.refl _⟩ (fun hn => ?_)
            (q2 (H' :: Hs') (fun H1 h => by simp [h]) hall)⟩
          · exfalso
            have hcond := hcond.1
            unfold noLay at hcond
            rw [List.all_eq_true] at hcond
            rw [List.mem_range'_1] at hj
            have hj2 : l[j - (i + 1)]? = ops[j]? := by rw [hl']; congr 1; omega
            unfold alAt at hal
            split at hal
            · rename_i oj hoj
              rw [hoj] at hj2
              have := hcond oj (List.mem_of_getElem? hj2)
              split at hal
              · rename_i B hB; rw [hB] at this; simp at this
              · cases hal
            · cases hal
          · have hs := hcond.2.resolve_left fun e => by
              have hn : needL lm ops i = true := hn
              rw [hn] at e; cases e
            exact ⟨LJ.of_same hs (Ag.of hH'), fun H1 h => LJ.of_same hs (hall H1 h)⟩
        | pan v' =>
          obtain ⟨H2, a, b, _⟩ := ih
          exact ⟨H2, a, b, trivial⟩
        | _ => trivial
    | false =>
      simp only [cond_false]
      cases hok : okind o with
      | plain =>
        simp only
        cases hw : wantF ops vars o with
        | none => trivial
        | some b =>
        cases b with
        | false =>
          simp only
          rw [wantF_fun] at hw
          cases hlm : Nat.testBit lm i with
          | true => trivial
          | false =>
            simp only [cond_false]
            exact putT_spec (Q := fun r => ER.both k H0 _ _ r) trivial fun vars' hp => go vars' hm (fun _ _ => ⟨o, _, H, ho, .skip hw, hp H H d⟩) fun e => by rw [hlm] at e; cases e
        | true =>
          rw [wantF_fun] at hw
          simp only
          cases ha : aopF P m (hideT (some []) tb) nb (evalT vars) o with
          | none => trivial
          | some r =>
          cases r with
          | val v dl =>
            cases dl with
            | same =>
              have key : ∀ H1, Ag [] tb H1 → aop P m H1 (St.eval ⟨k, vars, H, d⟩) o = some (.val v H1) := fun H1 h1 => by
                have := (aopT_sound (H := H1) h1 rfl (aopT_same H1.length hok (by rw [aopF_fun] at ha; exact ha))).1
                rw [evalT_eq k vars H d] at this
                exact this
              cases hlm : Nat.testBit lm i with
              | false =>
                simp only [cond_false]
                exact putT_spec (Q := fun r => ER.both k H0 _ _ r) trivial fun vars' hp => go vars' hm (fun Hs hall => ⟨o, v, H, ho, .plain hok hw (key H hag) (fun H1 h1 => key H1 (hall H1 h1)), hp H H d⟩) fun e => by rw [hlm] at e; cases e
              | true =>
                simp only [cond_true]
                cases ha2 : aopF P m (lateT L t0) nb (evalT vars) o with
                | none => trivial
                | some r2 =>
                cases r2 with
                | val v2 dl2 =>
                  cases dl2 with
                  | same =>
                    simp only
                    cases hcs : csame v v2 with
                    | false => trivial
                    | true =>
                    simp only [cond_true]
                    have ev := csame_eq hcs
                    subst ev
                    have key2 : ∀ H1, LJ L t0 H1 → aop P m H1 (St.eval ⟨k, vars, H, d⟩) o = some (.val v H1) := fun H1 h1 => by
                      have := (aopT_sound (H := H1) h1 rfl (aopT_same H1.length hok (by rw [aopF_fun] at ha2; exact ha2))).1
                      rw [evalT_eq k vars H d] at this
                      exact this
                    exact putT_spec (Q := fun r => ER.both k H0 _ _ r) trivial fun vars' hp => go vars' hm (fun Hs hall => ⟨o, v, H, ho, .plain hok hw (key H hag) (fun H1 h1 => key H1 (hall H1 h1)), hp H H d⟩) fun _ => ⟨o, v, m, ho, hok, hw, hp H H d, key2⟩
                  | _ => trivial
                | _ => trivial
            | _ => trivial
          | _ => trivial
      | _ => trivial
theorem evDrawL_sound {ops : Array Oper} {vars : Trie AV} {t : Trie Blk} {n lo id : Nat} {H H0 : List Blk} {ro : Option Nat} (hm : P.follows .mixedOrders = true)
  (hH : HT t n H) (hk : Keep H0 H lo) :
  ER.holds k H0 (fun x σ' => Run P ro (.region id ops true) ⟨k, vars, H, d⟩ x σ') (evDrawL P m call round k d ops vars t n lo) := by
 unfold evDrawL
 generalize hml : maskL ops = ml
 generalize hlm : lmOf ml ops = lm
 generalize lateIds lm vars ops.toList 0 = L
 cases hd : drawOkL ml lm ops && lateOk lm ops with
 | false => trivial
 | true =>
 simp only [cond_true]
 rw [Bool.and_eq_true] at hd
 have hH1 : HT (hoistT P ops.toList n t) (n + ops.size) (H ++ hoisted P ops) := by
  have := hoistT_sound (P := P) ops.toList n t H hH
  simpa [hoisted] using this
 have hs := evSegL_sound (k := k) (d := d) (m := m) hc hr (ops := ops) (mask := ml) (lm := lm) (n0 := n) (L := L) (t0 := hoistT P ops.toList n t) (H0 := H0) ops.toList 0 (fun j => by simp) (hoistT P ops.toList n t) (n + ops.size) vars (hoistT P ops.toList n t) (n + ops.size) lo
  (H ++ hoisted P ops) (Ag.of hH1) hH1 (hk.trans (Keep.append H _ lo) (Nat.le_refl _) (Nat.le_refl _))
 generalize evSegL P m call round k d ops ml lm L (hoistT P ops.toList n t) ops.toList 0 (hoistT P ops.toList n t) (n + ops.size) vars (hoistT P ops.toList n t) (n + ops.size) lo = r at hs ⊢
 cases r with
 | fail w => trivial
 | ok x e lo' =>
  cases x with
  | normal =>
   obtain ⟨H2, a, b, Hs', q1, q2⟩ := hs
   refine ⟨H2, a, b, ?_⟩
   refine Run.region_drawL (X := ⟨lm, LJ L (hoistT P ops.toList n t), needL lm ops⟩) (mask := ml) (Hs := (H ++ hoisted P ops) :: Hs') hm rfl hd.1 (fun j o hj ho => ?_) (by simp) ?_
   ·have h2 := hd.2
    unfold lateOk at h2
    rw [List.all_eq_true] at h2
    have h3 := h2 j (List.mem_range.2 (Array.getElem?_eq_some_iff.1 ho).1)
    rw [show lm.testBit j = true from hj, ho] at h3
    have h3 : lateOp o = true := h3
    unfold lateOp at h3
    unfold layB
    split at h3 <;> first | (rename_i e; rw [e]) | cases h3
   ·have := q2 ((H ++ hoisted P ops) :: Hs') (fun H1 h => by simp [h]) (fun H1 h => by
     rcases List.mem_cons.1 h with rfl | h
     ·exact Ag.of hH1
     ·exact q1 H1 h)
    simp only [hH.len]
    simpa [List.range_eq_range'] using this
  | _ => trivial
theorem evDrawO_sound {ops : Array Oper} {vars : Trie AV} {t : Trie Blk} {n lo id : Nat} {H H0 : List Blk} {ro : Option Nat} (hm : P.follows .mixedOrders = true)
  (hH : HT t n H) (hk : Keep H0 H lo) :
  ER.holds k H0 (fun x σ' => Run P ro (.region id ops true) ⟨k, vars, H, d⟩ x σ') (evDrawO P m call round k d ops vars t n lo) := by
 unfold evDrawO
 cases hd : drawOkF (maskF ops) ops with
 | false => trivial
 | true =>
 simp only [cond_true]
 cases hst : hasStore (maskF ops) ops.toList 0 with
 | false => exact evDrawW_sound hc hr hm hd hH hk
 | true =>
  simp only [cond_true]
  split
  ·exact evDrawW_sound hc hr hm hd hH hk
  ·trivial
theorem evDraw_sound {ops : Array Oper} {vars : Trie AV} {t : Trie Blk} {n lo id : Nat} {H H0 : List Blk} {ro : Option Nat} (hm : P.follows .mixedOrders = true)
  (hH : HT t n H) (hk : Keep H0 H lo) :
  ER.holds k H0 (fun x σ' => Run P ro (.region id ops true) ⟨k, vars, H, d⟩ x σ') (evDraw P m call round k d ops vars t n lo) := by
 have ho := evDrawO_sound (k := k) (d := d) (m := m) hc hr (ops := ops) (vars := vars) (id := id) (ro := ro) hm hH hk
 have hl := evDrawL_sound (k := k) (d := d) (m := m) hc hr (ops := ops) (vars := vars) (id := id) (ro := ro) hm hH hk
 unfold evDraw
 cases useL ops with
 | false => exact ho
 | true =>
  simp only [cond_true]
  generalize evDrawL P m call round k d ops vars t n lo = r at hl ⊢
  cases r with
  | fail w => exact ho
  | ok x e lo' => exact hl
end
end Go.Vm
