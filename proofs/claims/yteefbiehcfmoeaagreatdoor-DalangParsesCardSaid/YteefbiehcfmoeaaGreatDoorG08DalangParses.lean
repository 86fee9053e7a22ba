/-
  Texts of the proof, part 8: the machine, contracts of functions, plain laws. (Own work.)
-/
import Derived.Test.YteefbiehcfmoeaaGreatDoorG07DalangParses
import Derived.RangeFuncRecord

namespace Go.Vm
variable {P : Program}
section
variable [Outer]
mutual
theorem VRel.under {S : Sit} : ∀ (a : AV) (c : Value), VRel S a c → a.under S.H.length
 | .lit v, c, x => by simp [AV.under]
 | .agg cells, c, x => by
  simp only [VRel, AV.under] at x ⊢
  obtain ⟨C, hc, hr⟩ := x
  exact VRels.under cells _ hr
 | .tup vs, c, x => by
  simp only [VRel, AV.under] at x ⊢
  obtain ⟨C, hc, hr⟩ := x
  exact VRels.under vs _ hr
 | .ptr id off, c, x => by
  simp only [VRel, AV.under] at x ⊢
  obtain ⟨b, wm, hi, hn, hc⟩ := x
  exact hn.lt
 | .eptr cells, c, x => by
  simp only [VRel, AV.under] at x ⊢
  obtain ⟨b, o, hc, hf, hr⟩ := x
  exact VRow.under b cells o hr
 | .sl len cells tail, c, x => by
  simp only [VRel, AV.under] at x ⊢
  obtain ⟨base, cap, hc, hle, hcells, ht⟩ := x
  refine ⟨?_, ?_⟩
  ·rcases hcells with hcells | ⟨b, o, hb', hf, hr⟩
   ·subst hcells; simp [AV.unders]
   ·exact VRow.under b cells o hr
  ·cases tail with
   | unk => trivial
   | full => trivial
   | own id g sz =>
    obtain ⟨_, g0, h0, _⟩ := ht
    exact (List.getElem?_eq_some_iff.1 h0).1
 | .hsl id off len cap, c, x => by
  simp only [VRel, AV.under] at x ⊢
  obtain ⟨b, wm, hi, hn, hc⟩ := x
  exact hn.lt
 | .mp id, c, x => by
  simp only [VRel, AV.under] at x ⊢
  obtain ⟨b, wm, hi, hn, hc⟩ := x
  exact hn.lt
 | .fn f first captured, c, x => by
  simp only [VRel, AV.under] at x ⊢
  obtain ⟨F, C, hc, h1, h2⟩ := x
  exact ⟨VRels.under first _ h1, VRels.under captured _ h2⟩
 | .yld id, c, x => by
  simp only [VRel, AV.under] at x ⊢
  obtain ⟨b, wm, hi, hn, hc⟩ := x
  exact hn.lt
 | .iface t v, c, x => by
  simp only [VRel, AV.under] at x ⊢
  obtain ⟨y, hc, hr⟩ := x
  exact VRel.under v y hr
 | .msl id gen len sz, c, x => by
  simp only [VRel, AV.under] at x ⊢
  obtain ⟨base, cap, hc, hle, hsr⟩ := x
  rcases hsr with ⟨b, rfl, B, g, hB, _⟩ | ⟨rfl, rfl, B, g, hB, _⟩ <;> exact (List.getElem?_eq_some_iff.1 hB).1
 | .mptr id gen off, c, x => by
  simp only [VRel, AV.under] at x ⊢
  obtain ⟨b, o, hc, B, g, hB, _⟩ := x
  exact (List.getElem?_eq_some_iff.1 hB).1
 | .mpx, _, _ => trivial
theorem VRels.under {S : Sit} : ∀ (as : List AV) (cs : List Value), VRels S as cs → AV.unders S.H.length as
 | [], _, _ => by simp [AV.unders]
 | _ :: _, [], x => by simp [VRels] at x
 | a :: as, c :: cs, x => by
  simp only [VRels, AV.unders] at x ⊢
  exact ⟨VRel.under a c x.1, VRels.under as cs x.2⟩
theorem VRow.under {S : Sit} (b : Nat) : ∀ (as : List AV) (o : Nat), VRow S b o as → AV.unders S.H.length as
 | [], o, _ => by simp [AV.unders]
 | a :: as, o, x => by
  simp only [VRow, AV.unders] at x ⊢
  obtain ⟨⟨c, hc, hr⟩, x2⟩ := x
  exact ⟨VRel.under a c hr, VRow.under b as (o + 1) x2⟩
end
theorem BlkRel.under {S : Sit} {b wm : Nat} {B : Blk} (x : BlkRel S b wm B) : B.under S.H.length := by
 cases B with
 | box cells t => obtain ⟨C, h1, h2⟩ := x; exact VRels.under _ _ h2
 | row g => trivial
 | mrow g cells => obtain ⟨C, t, h1, h2⟩ := x; exact VRels.under _ _ h2
 | map sh es =>
  obtain ⟨E, c, h1, h2⟩ := x
  obtain ⟨es2, hp, k1, k2⟩ := h2.ents
  have := VRels.under _ _ k2
  show AV.unders _ (es.map (·.2))
  rw [AV.unders_mem] at this ⊢
  intro a ha
  exact this a ((hp.map _).mem_iff.2 ha)
 | loop l =>
  obtain ⟨L, h1, h2⟩ := x
  refine ⟨fun t v hg => ?_, ?_⟩
  ·obtain ⟨c, _, hr⟩ := h2.vars t v hg
   exact VRel.under _ _ hr
  ·obtain ⟨wm', hi, hn⟩ := h2.defers
   exact hn.lt
 | defd => trivial
 | iterS s pos => trivial
 | spent => trivial
 | obj o => trivial
end
structure Pass (O O' : Outer) (H H' : List Blk) (ι ι' : Nat → Option (Nat × Nat)) (w : World) (n : Nat) : Prop where
 heap : ∀ id, id < n → H'[id]? = H[id]?
 names : ∀ id, id < n → ι' id = ι id
 fix : ∀ b lim, @Fix O ⟨H, ι, w⟩ b lim → @Fix O' ⟨H', ι', w⟩ b lim
section
variable {O O' : Outer} {H H' : List Blk} {ι ι' : Nat → Option (Nat × Nat)} {w : World} {n : Nat}
theorem notRow.pass (p : Pass O O' H H' ι ι' w n) {id : Nat} (hlt : id < n) (h : notRow H id) : notRow H' id := by
 obtain ⟨B, hB, hr⟩ := h
 exact ⟨B, by rw [p.heap id hlt]; exact hB, hr⟩
theorem TailRel.pass (p : Pass O O' H H' ι ι' w n) {tail : Tail} {base : Option Addr} {len cap k : Nat}
  (x : TailRel ⟨H, ι, w⟩ tail base len cap k) (hb : tail.under n) : TailRel ⟨H', ι', w⟩ tail base len cap k := by
 cases tail with
 | unk => trivial
 | full => exact x
 | own id g sz =>
  have hlt : id < n := hb
  obtain ⟨hn, g0, h0, hle, hx⟩ := x
  refine ⟨hn, g0, by show H'[id]? = _; rw [p.heap id hlt]; exact h0, hle, fun hg => ?_⟩
  rcases hx hg with a | ⟨b, o, C, t, hb, hi, hC, hs⟩
  ·exact .inl a
  ·exact .inr ⟨b, o, C, t, hb, (p.names id hlt).trans hi, hC, hs⟩
theorem MRef.pass (p : Pass O O' H H' ι ι' w n) {id gen : Nat} {K : Nat → Nat → Prop} (x : MRef ⟨H, ι, w⟩ id gen K) (hb : id < n) : MRef ⟨H', ι', w⟩ id gen K := by
 obtain ⟨B, g, hB, hm, hle, k⟩ := x
 refine ⟨B, g, by show H'[id]? = _; rw [p.heap id hb]; exact hB, hm, hle, fun hg hc => ?_⟩
 obtain ⟨b, wm, C, t, hi, hC, hK⟩ := k hg hc
 exact ⟨b, wm, C, t, (p.names id hb).trans hi, hC, hK⟩
theorem SRef.pass (p : Pass O O' H H' ι ι' w n) {id gen sz cap : Nat} {base : Option Addr} (x : SRef ⟨H, ι, w⟩ id gen sz base cap) (hb : id < n) : SRef ⟨H', ι', w⟩ id gen sz base cap := by
 rcases x with ⟨b, e, hm⟩ | ⟨e, e2, B, g, hB, h1, h2⟩
 ·exact .inl ⟨b, e, hm.pass p hb⟩
 ·exact .inr ⟨e, e2, B, g, by show H'[id]? = _; rw [p.heap id hb]; exact hB, h1, h2⟩
mutual
theorem VRel.pass (p : Pass O O' H H' ι ι' w n) : ∀ (a : AV) (c : Value), a.under n → @VRel O ⟨H, ι, w⟩ a c → @VRel O' ⟨H', ι', w⟩ a c
 | .lit v, c, _, x => by simpa [VRel] using x
 | .agg cells, c, hb, x => by
  simp only [VRel, AV.under] at x hb ⊢
  obtain ⟨C, hc, hr⟩ := x
  exact ⟨C, hc, VRels.pass p cells _ hb hr⟩
 | .tup vs, c, hb, x => by
  simp only [VRel, AV.under] at x hb ⊢
  obtain ⟨C, hc, hr⟩ := x
  exact ⟨C, hc, VRels.pass p vs _ hb hr⟩
 | .ptr id off, c, hb, x => by
  simp only [VRel, AV.under] at x hb ⊢
  obtain ⟨b, wm, hi, hn, hc⟩ := x
  exact ⟨b, wm, (p.names id hb).trans hi, hn.pass p hb, hc⟩
 | .eptr cells, c, hb, x => by
  simp only [VRel, AV.under] at x hb ⊢
  obtain ⟨b, o, hc, hf, hr⟩ := x
  exact ⟨b, o, hc, p.fix _ _ hf, VRow.pass p b cells o hb hr⟩
 | .sl len cells tail, c, hb, x => by
  simp only [VRel, AV.under] at x hb ⊢
  obtain ⟨base, cap, hc, hle, hcells, ht⟩ := x
  refine ⟨base, cap, hc, hle, ?_, ht.pass p hb.2⟩
  rcases hcells with hcells | ⟨b, o, hb', hf, hr⟩
  ·exact .inl hcells
  ·exact .inr ⟨b, o, hb', p.fix _ _ hf, VRow.pass p b cells o hb.1 hr⟩
 | .hsl id off len cap, c, hb, x => by
  simp only [VRel, AV.under] at x hb ⊢
  obtain ⟨b, wm, hi, hn, hc⟩ := x
  exact ⟨b, wm, (p.names id hb).trans hi, hn.pass p hb, hc⟩
 | .mp id, c, hb, x => by
  simp only [VRel, AV.under] at x hb ⊢
  obtain ⟨b, wm, hi, hn, hc⟩ := x
  exact ⟨b, wm, (p.names id hb).trans hi, hn.pass p hb, hc⟩
 | .fn f first captured, c, hb, x => by
  simp only [VRel, AV.under] at x hb ⊢
  obtain ⟨F, C, hc, h1, h2⟩ := x
  exact ⟨F, C, hc, VRels.pass p first _ hb.1 h1, VRels.pass p captured _ hb.2 h2⟩
 | .yld id, c, hb, x => by
  simp only [VRel, AV.under] at x hb ⊢
  obtain ⟨b, wm, hi, hn, hc⟩ := x
  exact ⟨b, wm, (p.names id hb).trans hi, hn.pass p hb, hc⟩
 | .iface t v, c, hb, x => by
  simp only [VRel, AV.under] at x hb ⊢
  obtain ⟨y, hc, hr⟩ := x
  exact ⟨y, hc, VRel.pass p v y hb hr⟩
 | .msl id gen len sz, c, hb, x => by
  simp only [VRel, AV.under] at x hb ⊢
  obtain ⟨base, cap, hc, hle, hm⟩ := x
  exact ⟨base, cap, hc, hle, hm.pass p hb⟩
 | .mptr id gen off, c, hb, x => by
  simp only [VRel, AV.under] at x hb ⊢
  obtain ⟨b, o, hc, hm⟩ := x
  exact ⟨b, o, hc, hm.pass p hb⟩
 | .mpx, c, hb, x => by
  simp only [VRel] at x ⊢
  exact x
theorem VRels.pass (p : Pass O O' H H' ι ι' w n) : ∀ (as : List AV) (cs : List Value), AV.unders n as → @VRels O ⟨H, ι, w⟩ as cs → @VRels O' ⟨H', ι', w⟩ as cs
 | [], [], _, x => by simp [VRels]
 | [], _ :: _, _, x => by simp [VRels] at x
 | _ :: _, [], _, x => by simp [VRels] at x
 | a :: as, c :: cs, hb, x => by
  simp only [VRels, AV.unders] at x hb ⊢
  exact ⟨VRel.pass p a c hb.1 x.1, VRels.pass p as cs hb.2 x.2⟩
theorem VRow.pass (p : Pass O O' H H' ι ι' w n) (b : Nat) : ∀ (as : List AV) (o : Nat), AV.unders n as → @VRow O ⟨H, ι, w⟩ b o as → @VRow O' ⟨H', ι', w⟩ b o as
 | [], o, _, _ => by simp [VRow]
 | a :: as, o, hb, x => by
  simp only [VRow, AV.unders] at x hb ⊢
  obtain ⟨⟨c, hc, hr⟩, x2⟩ := x
  exact ⟨⟨c, hc, VRel.pass p a c hb.1 hr⟩, VRow.pass p b as (o + 1) hb.2 x2⟩
end
theorem VarsRel.pass (p : Pass O O' H H' ι ι' w n) {vars : Trie AV} {tmps : Array Value} (x : @VarsRel O ⟨H, ι, w⟩ vars tmps)
  (hb : ∀ t v, get vars t = some v → v.under n) : @VarsRel O' ⟨H', ι', w⟩ vars tmps := by
 intro t v hg
 obtain ⟨c, hc, hr⟩ := x t v hg
 exact ⟨c, hc, VRel.pass p v c (hb t v hg) hr⟩
theorem BlkRel.pass (p : Pass O O' H H' ι ι' w n) {b wm : Nat} {B : Blk} (x : @BlkRel O ⟨H, ι, w⟩ b wm B) (hb : B.under n) : @BlkRel O' ⟨H', ι', w⟩ b wm B := by
 cases B with
 | box cells t => obtain ⟨C, h1, h2⟩ := x; exact ⟨C, h1, VRels.pass p _ _ hb h2⟩
 | row g => exact x
 | mrow g cells => obtain ⟨C, t, h1, h2⟩ := x; exact ⟨C, t, h1, VRels.pass p _ _ hb h2⟩
 | map sh es =>
  obtain ⟨E, c, h1, ⟨es2, hp, k1, k2⟩, keys, nodup, stamps, born⟩ := x
  refine ⟨E, c, h1, ?_, keys, nodup, stamps, born⟩
  refine ⟨es2, hp, k1, VRels.pass p _ _ ?_ k2⟩
  rw [AV.unders_mem]; intro a ha; exact AV.unders_mem.1 hb a ((hp.map _).mem_iff.1 ha)
 | loop l =>
  obtain ⟨L, h1, s1, s2, s3, s4, s5, s6, s7, wm', hi, hn⟩ := x
  refine ⟨L, h1, ⟨s1, s2, s3, s4, s5, s6, VarsRel.pass p s7 hb.1, ?_⟩⟩
  exact ⟨wm', (p.names _ hb.2).trans hi, hn.pass p hb.2⟩
 | defd => exact x
 | iterS s pos => exact x
 | spent => exact x
 | obj o => exact x
def AEnd.under (n : Nat) : AEnd → Prop
 | .ret v => v.under n
 | .pan v => v.under n
theorem EndRel.pass (p : Pass O O' H H' ι ι' w n) {r : AEnd} {e : Ending} (hb : r.under n) (x : @EndRel O ⟨H, ι, w⟩ r e) : @EndRel O' ⟨H', ι', w⟩ r e := by
 cases r with
 | ret v => cases e <;> first | exact x.elim | exact VRel.pass p v _ hb x
 | pan v =>
  cases e with
  | panicked chain => obtain ⟨c, h1, h2⟩ := x; exact ⟨c, h1, VRel.pass p v _ hb h2⟩
  | _ => exact x.elim
end
theorem put_other {w : World} {r : Nat} {o : Obj} : ∀ b', b' ≠ r → (w.putObj r o).heap[b']? = w.heap[b']? := fun _ h => World.putObj_heap_other h
theorem DefRel.lt [Outer] {S : Sit} (hR : Rel S) : ∀ {ids : List Nat} {ds : List Deferred}, DefRel S ids ds → ∀ {b : Nat}, ({ target := .collected b, args := #[] } : Deferred) ∈ ds → b < S.w.heap.size
 | _, [], _, _, hm => by cases hm
 | _, d :: ds, ⟨_, x⟩, b, hm => by
  rcases List.mem_cons.1 hm with e | hm
  ·rcases x with ⟨⟨b', hk, _, e'⟩, _⟩ | ⟨id, ids', _, ⟨b', wm, hi, _, e'⟩, _⟩
   ·rw [e'] at e; cases e
    exact (Array.getElem?_eq_some_iff.1 hk.1).1
   ·rw [e'] at e; cases e
    exact hR.block hi
  ·rcases x with ⟨_, x⟩ | ⟨_, _, _, _, x⟩
   ·exact DefRel.lt hR x hm
   ·exact DefRel.lt hR x hm
theorem DefRel.ids_lt [Outer] {S : Sit} : ∀ {ids : List Nat} {ds : List Deferred}, DefRel S ids ds → ∀ i ∈ ids, i < S.H.length
 | _, [], x, i, hm => by rw [show _ = ([] : List Nat) from x] at hm; cases hm
 | _, _ :: _, ⟨_, .inl ⟨_, x⟩⟩, i, hm => DefRel.ids_lt x i hm
 | _, _ :: _, ⟨_, .inr ⟨id, ids', e, ⟨_, _, _, hB, _⟩, x⟩⟩, i, hm => by
  subst e
  rcases List.mem_cons.1 hm with rfl | hm
  ·exact (List.getElem?_eq_some_iff.1 hB).1
  ·exact DefRel.ids_lt x i hm
theorem DefRel.cut [Outer] {S : Sit} {n : Nat} (hR : Rel S) : ∀ {ids : List Nat} {ds : List Deferred}, DefRel S ids ds → DefRel ⟨S.H.take n, cutι S.ι n, S.w⟩ (ids.filter fun i => Nat.blt i n) ds
 | _, [], x => by rw [show _ = ([] : List Nat) from x]; rfl
 | _, _ :: _, ⟨hni, .inl ⟨⟨b, hm, ho, e⟩, x⟩⟩ => by
  refine ⟨hni, .inl ⟨⟨b, ⟨hm.1, fun i wm h => ?_⟩, ho, e⟩, DefRel.cut hR x⟩⟩
  have h' : cutι S.ι n i = some (b, wm) := h
  unfold cutι at h'
  split at h'
  ·exact hm.2 _ _ h'
  ·cases h'
 | _, _ :: _, ⟨hni, .inr ⟨id, ids', e, ⟨b, wm, hi, hB, hx⟩, x⟩⟩ => by
  subst e
  refine ⟨hni, ?_⟩
  by_cases hlt : id < n
  ·refine .inr ⟨id, _, List.filter_cons_of_pos (Nat.ble_eq_true_of_le hlt), ⟨b, wm, ?_, ?_, hx⟩, DefRel.cut hR x⟩
   ·show cutι S.ι n id = _
    simp [cutι, hlt, hi]
   ·show (S.H.take n)[id]? = _
    rw [List.getElem?_take_of_lt hlt]; exact hB
  ·refine .inl ⟨⟨b, ⟨?_, fun i wm' h => ?_⟩, ?_, hx⟩, ?_⟩
   ·obtain ⟨B, hB', hr⟩ := hR.blk id b wm hi
    rw [hB] at hB'; cases hB'
    exact hr
   ·have h' : cutι S.ι n i = some (b, wm') := h
    unfold cutι at h'
    split at h'
    ·rename_i hlt'
     have := hR.inj i id b wm' wm h' hi
     omega
    ·cases h'
   ·cases ho : Outer.out b with
    | none => rfl
    | some y => exact absurd hi ((hR.out b y ho).2 id wm)
   ·rw [List.filter_cons_of_neg (p := fun i => Nat.blt i n) (a := id) (l := ids') (fun h => hlt (Nat.le_of_ble_eq_true h))]
    exact DefRel.cut hR x
theorem DefRel.back [Outer] {S S' : Sit} {ids : List Nat} {ds0 ds : List Deferred} (h0 : DefRel S ids ds0) (hR : Rel S') (h1 : DefRel S' ids ds) : DefRel ⟨S'.H.take S.H.length, cutι S'.ι S.H.length, S'.w⟩ ids ds := by
 have h := DefRel.cut (n := S.H.length) hR h1
 have e : (ids.filter fun i => Nat.blt i S.H.length) = ids := List.filter_eq_self.2 fun i hi => Nat.ble_eq_true_of_le (h0.ids_lt i hi)
 rwa [e] at h
open Classical in
@[reducible] noncomputable def markO (O : Outer) (S : Sit) : Outer := ⟨fun b => if Mk S b ∧ O.out b = none then some none else O.out b⟩
section
variable {O : Outer} {S0 : Sit} {b : Nat} {x : Option Nat}
open Classical in
theorem markO_out (h : O.out b = some x) : (markO O S0).out b = some x := by
 show (if Mk S0 b ∧ O.out b = none then some none else O.out b) = some x
 rw [if_neg (fun k => by rw [h] at k; cases k.2)]; exact h
open Classical in
theorem markO_mk (h : Mk S0 b) : (markO O S0).out b ≠ none := by
 show (if Mk S0 b ∧ O.out b = none then some none else O.out b) ≠ none
 by_cases k : O.out b = none
 ·rw [if_pos ⟨h, k⟩]; simp
 ·rw [if_neg (fun z => k z.2)]; exact k
open Classical in
theorem markO_inv (h : (markO O S0).out b = some x) : O.out b = some x ∨ (Mk S0 b ∧ O.out b = none) := by
 have h' : (if Mk S0 b ∧ O.out b = none then some none else O.out b) = some x := h
 split at h'
 ·rename_i k; exact .inr k
 ·exact .inl h'
theorem pass_in (H : List Blk) (ι : Nat → Option (Nat × Nat)) (w : World) (n : Nat) : Pass O (markO O ⟨H, ι, w⟩) H H ι ι w n where
 heap := fun _ _ => rfl
 names := fun _ _ => rfl
 fix := fun b lim hF => by
  obtain ⟨C, t, f, a, hl, r, ro⟩ := hF
  refine ⟨C, t, f, a, hl, r, fun x e => ?_⟩
  rcases markO_inv e with e | ⟨hm, _⟩
  ·exact ro x e
  ·have := hm.1
   rw [show w.heap[b]? = _ from a] at this; cases this
theorem pass_out (H : List Blk) (ι : Nat → Option (Nat × Nat)) (w : World) (n : Nat) : Pass (markO O S0) O H H ι ι w n where
 heap := fun _ _ => rfl
 names := fun _ _ => rfl
 fix := fun b lim hF => by
  obtain ⟨C, t, f, a, hl, r, ro⟩ := hF
  exact ⟨C, t, f, a, hl, r, fun x e => ro x (markO_out e)⟩
theorem rel_in {S : Sit} (h : @Rel O S) : @Rel (markO O S) S := by
 refine @Rel.mk (markO O S) _ (fun id b wm e => ?_) h.inj (fun b x e => ?_) (h.tab.more fun b x e => ⟨x, markO_out e⟩)
 ·obtain ⟨B, hB, hr⟩ := h.blk id b wm e
  exact ⟨B, hB, hr.pass (pass_in S.H S.ι S.w S.H.length) hr.under⟩
 ·rcases markO_inv e with e | ⟨hm, _⟩
  ·exact h.out b x e
  ·exact ⟨(Array.getElem?_eq_some_iff.1 hm.1).1, hm.2⟩
theorem rel_out {S : Sit} (h : @Rel (markO O S0) S) (ht : @TabR O S0.w) : @Rel O S := by
 refine @Rel.mk O _ (fun id b wm e => ?_) (@Rel.inj (markO O S0) _ h) (fun b x e => @Rel.out (markO O S0) _ h b x (markO_out e)) (fun N C e => ⟨(ht N C e).1, (@Rel.tab (markO O S0) _ h N C e).2⟩)
 obtain ⟨B, hB, hr⟩ := @Rel.blk (markO O S0) _ h id b wm e
 exact ⟨B, hB, hr.pass (pass_out S.H S.ι S.w S.H.length) (@BlkRel.under (markO O S0) _ _ _ _ hr)⟩
theorem ev_out {S S' : Sit} (h : @Ev (markO O S) S S') : @Ev O S S' :=
  @Ev.mk O _ _ (@Ev.ptr (markO O S) _ _ h) (fun b lim hF => by
      obtain ⟨k1, k2⟩ := @Ev.fix (markO O S) _ _ h b lim ((pass_in S.H S.ι S.w 0).fix b lim hF)
      exact ⟨(pass_out S'.H S'.ι S'.w 0).fix b lim k1, k2⟩)
    (@Ev.tok (markO O S) _ _ h) (@Ev.mtok (markO O S) _ _ h) (fun b x e => @Ev.out (markO O S) _ _ h b x (markO_out e)) (@Ev.rest (markO O S) _ _ h) (@Ev.mark (markO O S) _ _ h)
end
section
variable [O : Outer] {H : List Blk} {ι : Nat → Option (Nat × Nat)} {w : World} {b : Nat}
theorem hid_write (hR : Rel ⟨H, ι, w⟩) (hm : Mk ⟨H, ι, w⟩ b) (ho : Outer.out b = none) :
  Rel ⟨H, ι, w.putObj b (.deferred none)⟩ ∧ ∀ v c, VRel ⟨H, ι, w⟩ v c → VRel ⟨H, ι, w.putObj b (.deferred none)⟩ v c := by
 have hK : w.heap[b]? = some (.deferred (some [])) := hm.1
 have hlt : ∀ {id : Nat} {p : Nat × Nat}, ι id = some p → id < H.length := fun hi => hR.lt hi
 have hother : ∀ {id : Nat}, id ≠ H.length → upd ι H.length (some (b, 0)) id = ι id := fun h => upd_other _ _ _ _ h
 have hlook : ∀ {id : Nat}, id < H.length → (H ++ [Blk.defd])[id]? = H[id]? := fun h => List.getElem?_append_left h
 have p1 : Pass O O H (H ++ [.defd]) ι (upd ι H.length (some (b, 0))) w H.length := by
  refine ⟨fun id h => hlook h, fun id h => hother (by omega), fun b' lim hF => ?_⟩
  obtain ⟨C, t, f, a, hl, r, ro⟩ := hF
  refine ⟨C, t, f, a, hl, fun id wm e => ?_, ro⟩
  have e' : upd ι H.length (some (b, 0)) id = some (b', wm) := e
  by_cases h : id = H.length
  ·rw [h, upd_same] at e'; cases e'
   rw [hK] at a; cases a
  ·rw [hother h] at e'
   obtain ⟨⟨g, hg⟩, hle⟩ := r id wm e'
   exact ⟨⟨g, (hlook (hlt e')).trans hg⟩, hle⟩
 have hR1 : Rel ⟨H ++ [.defd], upd ι H.length (some (b, 0)), w⟩ := by
  refine ⟨fun id b' wm e => ?_, fun i j b' wm wm' ei ej => ?_, fun b' x e => ⟨(hR.out b' x e).1, fun id wm h => ?_⟩, hR.tab⟩
  ·have e' : upd ι H.length (some (b, 0)) id = some (b', wm) := e
   by_cases h : id = H.length
   ·rw [h, upd_same] at e'; cases e'
    subst h
    exact ⟨.defd, by simp, hK⟩
   ·rw [hother h] at e'
    obtain ⟨B, hB, hr⟩ := hR.blk id b' wm e'
    exact ⟨B, (hlook (hlt e')).trans hB, hr.pass p1 hr.under⟩
  ·have ei' : upd ι H.length (some (b, 0)) i = some (b', wm) := ei
   have ej' : upd ι H.length (some (b, 0)) j = some (b', wm') := ej
   by_cases hi : i = H.length <;> by_cases hj : j = H.length
   ·omega
   ·rw [hi, upd_same] at ei'; cases ei'
    rw [hother hj] at ej'; exact absurd ej' (hm.2 j wm')
   ·rw [hj, upd_same] at ej'; cases ej'
    rw [hother hi] at ei'; exact absurd ei' (hm.2 i wm)
   ·rw [hother hi] at ei'; rw [hother hj] at ej'
    exact hR.inj i j b' wm wm' ei' ej'
  ·have h' : upd ι H.length (some (b, 0)) id = some (b', wm) := h
   by_cases hi : id = H.length
   ·rw [hi, upd_same] at h'; cases h'
    rw [ho] at e; cases e
   ·rw [hother hi] at h'; exact (hR.out b' x e).2 id wm h'
 have hev : Ev ⟨H ++ [.defd], upd ι H.length (some (b, 0)), w⟩ ⟨(H ++ [Blk.defd]).set H.length .spent, upd ι H.length (some (b, 0)), w.putObj b (.deferred none)⟩ :=
  Ev.write hR1 (B := .defd) (B' := .spent) (wm := 0) (upd_same ..) (by simp) rfl rfl put_other
 have hback : ∀ {id : Nat}, id < H.length → H[id]? = ((H ++ [Blk.defd]).set H.length .spent)[id]? := fun {id} h => by
  rw [List.getElem?_set_ne (by omega), hlook h]
 have p2 : Pass O O ((H ++ [Blk.defd]).set H.length .spent) H (upd ι H.length (some (b, 0))) ι (w.putObj b (.deferred none)) H.length := by
  refine ⟨fun id h => hback h, fun id h => (hother (by omega)).symm, fun b' lim hF => ?_⟩
  obtain ⟨C, t, f, a, hl, r, ro⟩ := hF
  refine ⟨C, t, f, a, hl, fun id wm e => ?_, ro⟩
  have hid := hlt e
  obtain ⟨⟨g, hg⟩, hle⟩ := r id wm ((hother (by omega)).trans e)
  exact ⟨⟨g, (hback hid).trans hg⟩, hle⟩
 have hlen : ((H ++ [Blk.defd]).set H.length .spent).length = H.length + 1 := by simp
 refine ⟨⟨fun id b' wm e => ?_, hR.inj, fun b' x e => ?_, hR.tab.keep fun b' x e => put_other b' (by rintro rfl; rw [ho] at e; cases e)⟩, fun v c h => ?_⟩
 ·obtain ⟨B, hB, hr⟩ := hR.blk id b' wm e
  have hne : b' ≠ b := by rintro rfl; exact hm.2 id wm e
  exact ⟨B, hB, ((hr.pass p1 hr.under).ev hev (put_other b' hne)).pass p2 hr.under⟩
 ·obtain ⟨h1, h2⟩ := hR.out b' x e
  have hne : b' ≠ b := by rintro rfl; rw [ho] at e; cases e
  exact ⟨lt_of_same (w := w) (put_other b' hne) h1, h2⟩
 ·have hu := VRel.under v c h
  exact VRel.pass p2 v c hu ((VRel.pass p1 v c hu h).ev hev)
theorem hid_ev {S0 : Sit} (hev : Ev S0 ⟨H, ι, w⟩) (hm : Mk ⟨H, ι, w⟩ b) (ho : Outer.out b = none) (hS0 : ∀ b, Mk S0 b → Outer.out b ≠ none) : Ev S0 ⟨H, ι, w.putObj b (.deferred none)⟩ where
 ptr := hev.ptr
 fix := fun b0 lim hF => by
  obtain ⟨⟨C, t, f, a, hl, r⟩, e⟩ := hev.fix b0 lim hF
  have hne : b0 ≠ b := by rintro rfl; rw [show w.heap[b0]? = _ from hm.1] at a; cases a
  exact ⟨⟨C, t, f, (put_other b0 hne).trans a, hl, r⟩, fun j hj => (heap_cell (put_other b0 hne) j).trans (e j hj)⟩
 tok := fun id g0 hg => by
  obtain ⟨g1, h1, h2, h3⟩ := hev.tok id g0 hg
  refine ⟨g1, h1, h2, fun e => ?_⟩
  obtain ⟨k1, k2⟩ := h3 e
  refine ⟨k1, fun b1 wm C t hi hC => ?_⟩
  obtain ⟨C', t', hC', hs⟩ := k2 b1 wm C t hi hC
  have hne : b1 ≠ b := by rintro rfl; rw [show w.heap[b1]? = _ from hm.1] at hC'; cases hC'
  exact ⟨C', t', (put_other b1 hne).trans hC', hs⟩
 mtok := fun id g0 c0 hg => by
  obtain ⟨B, g1, h1, h1', h2, h3⟩ := hev.mtok id g0 c0 hg
  refine ⟨B, g1, h1, h1', h2, fun e => ?_⟩
  obtain ⟨k0, k1, k2⟩ := h3 e
  refine ⟨k0, k1, fun b1 wm C t hi hC => ?_⟩
  obtain ⟨C', t', hC', hs⟩ := k2 b1 wm C t hi hC
  have hne : b1 ≠ b := by rintro rfl; rw [show w.heap[b1]? = _ from hm.1] at hC'; cases hC'
  exact ⟨C', t', (put_other b1 hne).trans hC', hs⟩
 out := fun b0 x e => by
  have hne : b0 ≠ b := by rintro rfl; rw [ho] at e; cases e
  exact (put_other b0 hne).trans (hev.out b0 x e)
 rest := hev.rest.trans ⟨rfl, rfl⟩
 mark := fun b0 h0 => by
  have hne : b0 ≠ b := by rintro rfl; exact hS0 b0 h0 ho
  obtain ⟨k1, k2⟩ := hev.mark b0 h0
  exact ⟨(put_other b0 hne).trans k1, k2⟩
end
def spend : List Nat → List Blk → List Blk
 | [], H => H
 | id :: ids, H => spend ids (H.set id .spent)
theorem leaves_marks [Outer] {fn : Func} {tmps : Array Value} {R : Ending → World → Prop} {u : FrameMode} {S0 : Sit} {ι : Nat → Option (Nat × Nat)} {vars : Trie AV} {tm : Array Value} (hu : u ≠ .run)
  (hS0 : ∀ b, Mk S0 b → Outer.out b ≠ none) : ∀ (ds : List Deferred) (ids : List Nat) (H : List Blk) (w : World), Rel ⟨H, ι, w⟩ → DefRel ⟨H, ι, w⟩ ids ds → ids.Nodup → Ev S0 ⟨H, ι, w⟩ → VarsRel ⟨H, ι, w⟩ vars tm →
  (∀ w', Rel ⟨spend ids H, ι, w'⟩ → Ev S0 ⟨spend ids H, ι, w'⟩ → VarsRel ⟨spend ids H, ι, w'⟩ vars tm → LeavesIn (Fr none) 0 P fn tmps R [] u w') → LeavesInM (Fr none) 0 P fn tmps R ds u w
 | [], ids, H, w, hR, x, _, hev, hv, h => by
  rw [show ids = [] from x] at h
  exact h w hR hev hv
 | d :: ds, ids, H, w, hR, ⟨hni, .inl ⟨⟨b, hm, ho, hx⟩, x⟩⟩, hnd, hev, hv, h => by
  refine ⟨hu, .inl ⟨b, _, by rw [hx], run_takeDeferred hm.1, ?_⟩⟩
  obtain ⟨hR', hV⟩ := hid_write hR hm ho
  refine leaves_marks hu hS0 ds ids H _ hR' ?_ hnd (hid_ev hev hm ho hS0) (fun t v hg => ?_) h
  ·have key : ∀ (ds : List Deferred) (ids : List Nat), d ∉ ds → DefRel ⟨H, ι, w⟩ ids ds → DefRel ⟨H, ι, w.putObj b (.deferred none)⟩ ids ds := by
    intro ds
    induction ds with
    | nil => intro ids _ z; exact z
    | cons d' ds ih =>
     intro ids hnm z
     obtain ⟨h1, h2⟩ := z
     refine ⟨h1, ?_⟩
     rcases h2 with ⟨⟨b', hm', ho', e'⟩, z⟩ | ⟨id, ids', e, hN, z⟩
     ·have hne : b' ≠ b := by rintro rfl; exact hnm (by rw [hx, e']; exact List.mem_cons_self)
      exact .inl ⟨⟨b', ⟨(put_other b' hne).trans hm'.1, hm'.2⟩, ho', e'⟩, ih ids (fun k => hnm (List.mem_cons_of_mem _ k)) z⟩
     ·exact .inr ⟨id, ids', e, hN, ih ids' (fun k => hnm (List.mem_cons_of_mem _ k)) z⟩
   exact key ds ids hni x
  ·obtain ⟨c, hc, hr⟩ := hv t v hg
   exact ⟨c, hc, hV v c hr⟩
 | d :: ds, ids, H, w, hR, ⟨hni, .inr ⟨id, ids', hids, ⟨b, wm, hi, hB, hx⟩, x⟩⟩, hnd, hev, hv, h => by
  subst hids
  obtain ⟨B, hB', hr⟩ := hR.blk id b wm hi
  have hB'' : H[id]? = some B := hB'
  rw [hB] at hB''; cases hB''
  have hK : w.heap[b]? = some (.deferred (some [])) := hr
  have hev1 := Ev.write hR (w' := w.putObj b (.deferred none)) (B' := .spent) hi hB rfl rfl put_other
  have hR' : Rel ⟨H.set id .spent, ι, w.putObj b (.deferred none)⟩ := Rel.write hR hi hB rfl rfl put_other ⟨_, World.putObj_heap_same (Array.getElem?_eq_some_iff.1 hK).1⟩
  refine ⟨hu, .inl ⟨b, _, by rw [hx], run_takeDeferred hK, ?_⟩⟩
  rw [List.nodup_cons] at hnd
  refine leaves_marks hu hS0 ds ids' _ _ hR' ?_ hnd.2 (hev.trans hev1) (hv.ev hev1) h
  have key : ∀ (ds : List Deferred) (ids : List Nat), d ∉ ds → id ∉ ids → DefRel ⟨H, ι, w⟩ ids ds → DefRel ⟨H.set id .spent, ι, w.putObj b (.deferred none)⟩ ids ds := by
   intro ds
   induction ds with
   | nil => intro ids _ _ z; exact z
   | cons d' ds ih =>
    intro ids hnm hni2 z
    obtain ⟨h1, h2⟩ := z
    refine ⟨h1, ?_⟩
    rcases h2 with ⟨⟨b', hm', ho', e'⟩, z⟩ | ⟨i, ids', e, ⟨b', wm', hi', hB', e'⟩, z⟩
    ·have hne : b' ≠ b := by rintro rfl; exact hnm (by rw [hx, e']; exact List.mem_cons_self)
     exact .inl ⟨⟨b', ⟨(put_other b' hne).trans hm'.1, hm'.2⟩, ho', e'⟩, ih ids (fun k => hnm (List.mem_cons_of_mem _ k)) hni2 z⟩
    ·subst e
     have hne : id ≠ i := fun e => hni2 (by simp [e])
     exact .inr ⟨i, ids', rfl, ⟨b', wm', hi', by show (H.set id .spent)[i]? = _; rw [List.getElem?_set_ne hne]; exact hB', e'⟩,
      ih ids' (fun k => hnm (List.mem_cons_of_mem _ k)) (fun k => hni2 (List.mem_cons_of_mem _ k)) z⟩
  exact key ds ids' hni hnd.1 x
theorem init_vars [Outer] {S : Sit} {args : List AV} {cs : Array Value} {n : Nat} (hargs : VRels S args cs.toList) : VarsRel S (initVars 0 args) (cs ++ Array.replicate n undef) := by
 intro t v hg
 rw [get_initVars] at hg
 simp only [Nat.not_lt_zero, if_false, Nat.sub_zero] at hg
 obtain ⟨d, hd1, hr⟩ := hargs.get hg
 refine ⟨d, ?_, hr⟩
 have ht : t < cs.size := by
  have := (List.getElem?_eq_some_iff.1 hd1).1
  simpa using this
 rw [Array.getElem?_append_left ht]
 simpa using hd1
theorem ACall.intro_marks {f : FuncId} {fn : Func} {c : Code} {args : List AV} {H : List Blk} {e : AExit} {σ' : St} {vs : List AV} (hf : P.funcs[f]? = some fn) (hb : fn.body = some c) (hn : args.length ≤ fn.ntmps)
  (hrun : Run P none c ⟨fn.ntmps, initVars 0 args, H, []⟩ e σ') (he : e = .ret ∨ e = .normal) (hnd : σ'.defs.Nodup) (hres : resA P { σ' with H := spend σ'.defs σ'.H } fn.results.toList = some vs) :
  ACall P f args H (.ret (resV vs)) (spend σ'.defs σ'.H) := by
 intro O ι w cs hR hargs
 have hlen := hargs.length
 simp only [Array.length_toList] at hlen
 have hargs' := VRels.pass (pass_in (O := O) H ι w H.length) args _ (VRels.under _ _ hargs) hargs
 refine callsIn_of_wp_marks hf hb trivial (wpIn_mono (hrun (markO O ⟨H, ι, w⟩) ι { tmps := cs ++ Array.replicate (fn.ntmps - cs.size) undef, defers := [] } w none rfl
  (@SRel.mk (markO O ⟨H, ι, w⟩) _ _ _ _ (rel_in hR) (by simp; omega) (@init_vars (markO O ⟨H, ι, w⟩) _ _ _ _ hargs') rfl)) ?_)
 rintro e' a' w' ⟨ι', hx, hs, hev, hnon⟩
 have key : LeavesInM (Fr none) 0 P fn a'.tmps (EPost ⟨H, ι, w⟩ (.ret (resV vs)) (spend σ'.defs σ'.H)) a'.defers .returning w' := by
  refine @leaves_marks P (markO O ⟨H, ι, w⟩) fn a'.tmps _ .returning ⟨H, ι, w⟩ ι' σ'.vars a'.tmps (by simp) (fun b hm => markO_mk hm) a'.defers σ'.defs σ'.H w' (@SRel.rel (markO O ⟨H, ι, w⟩) _ _ _ _ hs) (@SRel.defs (markO O ⟨H, ι, w⟩) _ _ _ _ hs) hnd hev
   (@SRel.vars (markO O ⟨H, ι, w⟩) _ _ _ _ hs) fun w'' hR'' hev'' hv'' => ?_
  have hs'' : @SRel (markO O ⟨H, ι, w⟩) { σ' with H := spend σ'.defs σ'.H, defs := [] } ι' { tmps := a'.tmps, defers := [] } w'' := @SRel.mk (markO O ⟨H, ι, w⟩) _ _ _ _ hR'' (show a'.tmps.size = σ'.n from @SRel.size (markO O ⟨H, ι, w⟩) _ _ _ _ hs) hv'' rfl
  have hres' : resA P { σ' with H := spend σ'.defs σ'.H, defs := [] } fn.results.toList = some vs := by
   rw [← hres]
   have : ∀ rs, resA P { σ' with H := spend σ'.defs σ'.H, defs := [] } rs = resA P { σ' with H := spend σ'.defs σ'.H } rs := by
    intro rs
    induction rs with
    | nil => rfl
    | cons r rs ih => cases r <;> simp only [resA, ih]
   exact this _
  obtain ⟨v, hv, hrel⟩ := @results_run P (markO O ⟨H, ι, w⟩) _ _ _ _ hs'' _ _ hres'
  exact ⟨v, hv, ι', VRel.pass (pass_out _ _ _ _) _ _ (@VRel.under (markO O ⟨H, ι, w⟩) _ _ _ hrel) hrel, rel_out hR'' hR.tab, ev_out hev'', fun id h1 h2 => hnon id h1 h2⟩
 rcases he with rfl | rfl
 ·cases e' <;> first
   | exact key
   | exact hx.elim
 ·cases e' <;> first
   | exact key
   | exact hx.elim
theorem ACall.intro_pan {f : FuncId} {fn : Func} {c : Code} {args : List AV} {H : List Blk} {v : AV} {σ' : St} (hf : P.funcs[f]? = some fn) (hb : fn.body = some c) (hn : args.length ≤ fn.ntmps)
  (hrun : Run P none c ⟨fn.ntmps, initVars 0 args, H, []⟩ (.pan v) σ') (hd : σ'.defs = []) : ACall P f args H (.pan v) σ'.H := by
 intro O ι w cs hR hargs
 have hlen := hargs.length
 simp only [Array.length_toList] at hlen
 have hargs' := VRels.pass (pass_in (O := O) H ι w H.length) args _ (VRels.under _ _ hargs) hargs
 refine callsIn_of_wp_marks hf hb trivial (wpIn_mono (hrun (markO O ⟨H, ι, w⟩) ι { tmps := cs ++ Array.replicate (fn.ntmps - cs.size) undef, defers := [] } w none rfl
  (@SRel.mk (markO O ⟨H, ι, w⟩) _ _ _ _ (rel_in hR) (by simp; omega) (@init_vars (markO O ⟨H, ι, w⟩) _ _ _ _ hargs') rfl)) ?_)
 rintro e' a' w' ⟨ι', hx, hs, hev, hnon⟩
 cases e' with
 | panic chain =>
  obtain ⟨c, hc, hr⟩ := hx
  have hdefs := @SRel.defs (markO O ⟨H, ι, w⟩) _ _ _ _ hs
  rw [hd] at hdefs
  refine @leaves_marks P (markO O ⟨H, ι, w⟩) fn a'.tmps _ (.panicking chain) ⟨H, ι, w⟩ ι' (set .nil 0 v) #[c] (by simp) (fun b hm => markO_mk hm) a'.defers [] σ'.H w' (@SRel.rel (markO O ⟨H, ι, w⟩) _ _ _ _ hs) hdefs List.nodup_nil hev
   (fun t v' hg => ?_) fun w'' hR'' hev'' hv'' => ?_
  ·by_cases ht : 0 = t
   ·subst ht
    rw [get_set_same] at hg; cases hg
    exact ⟨c, rfl, hr⟩
   ·rw [get_set_other _ _ _ _ ht, get_nil] at hg; cases hg
  ·obtain ⟨c', hc', hr'⟩ := hv'' 0 v (get_set_same ..)
   cases hc'
   exact ⟨ι', ⟨c, hc, VRel.pass (pass_out _ _ _ _) _ _ (@VRel.under (markO O ⟨H, ι, w⟩) _ _ _ hr') hr'⟩, rel_out hR'' hR.tab, ev_out hev'', fun id h1 h2 => hnon id h1 h2⟩
 | _ => exact hx.elim
end Go.Vm

namespace Go.Vm
variable {P : Program}
inductive OKind where
 | plain | lay | eff | store
 deriving DecidableEq
def okind (o : Oper) : OKind :=
 match o.op with
 | .store .. | .mapUpdate .. | .insert .. | .next .. => .store
 | .range .. => .eff
 | .alloc _ | .makeMap _ none => .lay
 | .box .. | .makeMap .. | .makeSlice .. => .eff
 | .call { callee := .builtin .len, .. } | .call { callee := .builtin .max, .. } | .call { callee := .builtin .min, .. } => .plain
 | .call _ => .eff
 | _ => .plain
def Blk.loose : Blk → Bool
 | .row _ => true
 | _ => false
theorem Blk.loose_of {B : Blk} (h : B.isRow = false) : B.loose = false := by cases B <;> first | rfl | cases h
def HLe (H H' : List Blk) : Prop := ∀ (id : Nat) (B : Blk), H[id]? = some B → B.loose = false → H'[id]? = some B
theorem HLe.refl (H : List Blk) : HLe H H := fun _ _ h _ => h
theorem HLe.trans {H H' H'' : List Blk} (h : HLe H H') (h' : HLe H' H'') : HLe H H'' := fun id B hb hr => h' id B (h id B hb hr) hr
theorem HLe.keepsD {H H' : List Blk} (h : HLe H H') : keepsD H H' := fun id hb => h id _ hb rfl
theorem HLe.append (H H2 : List Blk) : HLe H (H ++ H2) := fun id B h _ => by
 rw [List.getElem?_append_left (List.getElem?_eq_some_iff.1 h).1]; exact h
theorem cellsAt_le {H H' : List Blk} (hle : HLe H H') {x : AV} {cells : List AV} (h : cellsAt H x = some cells) : cellsAt H' x = some cells := by
 unfold cellsAt at h ⊢
 cases x with
 | ptr id off =>
  simp only at h ⊢
  cases hB : H[id]? with
  | none => simp [hB] at h
  | some B =>
   cases B with
   | box c t => rw [hle id _ hB rfl]; rw [hB] at h; exact h
   | _ => simp [hB] at h
 | eptr c => exact h
 | mptr id gen off =>
  simp only at h ⊢
  cases hB : H[id]? with
  | none => simp [hB] at h
  | some B =>
   cases B with
   | mrow g c => rw [hle id _ hB rfl]; rw [hB] at h; exact h
   | _ => simp [hB] at h
 | _ => cases h
theorem loadOp_le {H H' : List Blk} (hle : HLe H H') {t : TypeId} {x v : AV} (h : loadOp P H t x = some v) : loadOp P H' t x = some v := by
 unfold loadOp at h ⊢
 obtain ⟨c, hc, hl⟩ := bind_some h
 rw [cellsAt_le hle hc]
 exact hl
theorem lenA_le {H H' : List Blk} (hle : HLe H H') {t : TypeId} {x : AV} {n : Nat} (h : lenA P H t x = some n) : lenA P H' t x = some n := by
 have same : (∀ id, x ≠ .mp id) → lenA P H' t x = lenA P H t x := by
  intro hx
  unfold lenA
  cases hu : P.underlying t with
  | none => rfl
  | some d => cases d <;> first | rfl | (cases x <;> first | rfl | (rename_i u; cases u <;> rfl) | exact absurd rfl (hx _))
 cases x with
 | mp id =>
  unfold lenA at h ⊢
  cases hu : P.underlying t with
  | none => rw [hu] at h; cases h
  | some d =>
   rw [hu] at h
   cases d with
   | map k e =>
    simp only at h ⊢
    cases hB : H[id]? with
    | none => simp [hB] at h
    | some B =>
     cases B with
     | map sh es => rw [hle id _ hB rfl]; rw [hB] at h; exact h
     | _ => simp [hB] at h
   | array k e => exact h
   | _ => cases h
 | _ => rw [same fun id => by simp]; exact h
theorem lookupOp_le {H H' : List Blk} (hle : HLe H H') {t : TypeId} {x k v : AV} {ok : Bool} (h : lookupOp P H t x k ok = some v) : lookupOp P H' t x k ok = some v := by
 unfold lookupOp at h ⊢
 cases h1 : tmap P t with
 | none => rw [h1] at h; cases h
 | some p =>
 obtain ⟨sh, kt, e⟩ := p
 rw [h1] at h
 cases x <;> try (cases h; done)
 rename_i id
 cases h2 : conc k with
 | none => rw [h2] at h; cases h
 | some u =>
 rw [h2] at h
 simp only at h ⊢
 cases hB : H[id]? with
 | none => rw [hB] at h; cases h
 | some B =>
 cases B with
 | map sh' es => rw [hle id _ hB rfl]; rw [hB] at h; exact h
 | _ => rw [hB] at h; cases h
theorem srcCells_le {H H' : List Blk} (hle : HLe H H') {size : Nat} {x : AV} {p : Nat × List AV} (h : srcCells H size x = some p) : srcCells H' size x = some p := by
 unfold srcCells at h ⊢
 cases x with
 | hsl id off len cap =>
  simp only at h ⊢
  cases hB : H[id]? with
  | none => simp [hB] at h
  | some B =>
   cases B with
   | box c t => rw [hle id _ hB rfl]; rw [hB] at h; exact h
   | _ => simp [hB] at h
 | msl id gen len sz =>
  simp only at h ⊢
  cases hB : H[id]? with
  | none => simp [hB] at h
  | some B =>
   cases B with
   | mrow g c => rw [hle id _ hB rfl]; rw [hB] at h; exact h
   | _ => simp [hB] at h
 | lit v =>
  rw [← h]
  cases v with
  | slice a l c => cases a <;> cases l <;> rfl
  | _ => rfl
 | _ => exact h
theorem convB_le {H H' : List Blk} (hle : HLe H H') {src dst : TypeId} {x v : AV} (h : convB P H src dst x = some v) : convB P H' src dst x = some v := by
 unfold convB at h ⊢
 split at h
 ·rename_i d k hs hd
  have : convA P H' src dst x = convA P H src dst x := by
   unfold convA; rw [hd]; cases x with
   | lit u => cases u <;> rfl
   | _ => rfl
  rw [this]; exact h
 ·rename_i d hs hd
  unfold bytesA at h ⊢
  split at h
  case h_2 => cases h
  rename_i e hs'
  split at h
  case h_2 => cases h
  rename_i he
  split at h
  case isFalse => cases h
  rename_i hla
  split at h
  case h_2 => cases h
  rename_i n cells hc
  rw [srcCells_le hle hc]
  simp [hla, h]
 ·cases h
theorem plain_le {m : Bool} {H H' : List Blk} (hle : HLe H H') {ρ : Operand → Option AV} {o : Oper} (hk : okind o = .plain) {v : AV} {H1 : List Blk}
  (h : aop P m H ρ o = some (.val v H1)) : H1 = H ∧ aop P m H' ρ o = some (.val v H') := by
 obtain ⟨dst, op, type, pos, after, guard⟩ := o
 have tr : ∀ {α : Type} {x : Option α} {f : α → AV}, (x.map fun a => AR.val (f a) H) = some (.val v H1) → H1 = H ∧ (x.map fun a => AR.val (f a) H') = some (.val v H') := by
  intro α x f hx
  obtain ⟨a, ha, hx⟩ := map_some hx
  cases hx
  exact ⟨rfl, by rw [ha]; rfl⟩
 cases op with
 | alloc t => simp [okind] at hk
 | store => simp [okind] at hk
 | mapUpdate => simp [okind] at hk
 | insert => simp [okind] at hk
 | next => simp [okind] at hk
 | range => simp [okind] at hk
 | box => simp [okind] at hk
 | makeSlice => simp [okind] at hk
 | makeMap t r => cases r <;> simp [okind] at hk
 | load t x =>
  simp only [aop] at h ⊢
  obtain ⟨a, ha, h⟩ := bind_some h
  obtain ⟨u, hu, h⟩ := map_some h
  cases h
  rw [ha]
  exact ⟨rfl, by simp [loadOp_le hle hu]⟩
 | lookup t x k ok =>
  simp only [aop] at h ⊢
  split at h
  ·rename_i a b ha hb
   obtain ⟨u, hu, h⟩ := map_some h
   cases h
   exact ⟨rfl, by simp [lookupOp_le hle hu]⟩
  ·cases h
 | convert src dst x =>
  simp only [aop] at h ⊢
  obtain ⟨a, ha, h⟩ := bind_some h
  obtain ⟨u, hu, h⟩ := map_some h
  cases h
  refine ⟨rfl, ?_⟩
  simp [ha, convB_le hle hu]
 | call c =>
  obtain ⟨callee, cargs, argTypes⟩ := c
  cases callee with
  | value f => simp [okind] at hk
  | invoke r m => simp [okind] at hk
  | builtin b =>
   cases b <;> simp only [okind, reduceCtorEq] at hk
   all_goals
    simp only [aop] at h ⊢
    cases hargs : aevs ρ cargs.toList with
    | none => simp [hargs] at h
    | some args =>
     simp only [hargs] at h ⊢
     split at h
     all_goals first
      | (cases h; done)
      | (cases h; exact ⟨rfl, rfl⟩)
      | (obtain ⟨n, hn, h⟩ := map_some h; cases h; exact ⟨rfl, by simp [lenA_le hle hn]⟩)
 | pick c a b =>
  simp only [aop] at h ⊢
  split at h
  ·rename_i t ht
   first
    | exact tr (f := id) h
    | (rw [ht]; exact tr (f := id) h)
  ·cases h
 | build t parts =>
  simp only [aop] at h ⊢
  obtain ⟨a, ha, h⟩ := bind_some h
  rw [ha]; exact tr (f := id) h
 | buildSlice t n parts =>
  simp only [aop] at h ⊢
  obtain ⟨a, ha, h⟩ := bind_some h
  rw [ha]; exact tr (f := id) h
 | move x => exact tr (f := id) h
 | assign x => exact tr (f := id) h
 | binOp op t x y yt =>
  simp only [aop] at h ⊢
  split at h
  ·rename_i a b ha hb; exact tr (f := id) h
  ·cases h
 | unOp op t x =>
  simp only [aop] at h ⊢
  obtain ⟨a, ha, h⟩ := bind_some h
  rw [ha]; exact tr (f := id) h
 | makeInterface t x =>
  simp only [aop] at h ⊢
  split at h
  ·cases h
  ·cases h
  ·exact tr (f := fun v => .iface t v) h
 | makeFunc f a b =>
  simp only [aop] at h ⊢
  split at h
  ·cases h; exact ⟨rfl, rfl⟩
  ·cases h
 | slice t x lo hi mx =>
  simp only [aop] at h ⊢
  split at h
  ·split at h
   ·rename_i hg; rw [if_pos hg]; exact tr (f := id) h
   ·cases h
  ·cases h
 | nilCheck x =>
  simp only [aop] at h ⊢
  obtain ⟨a, ha, h⟩ := bind_some h
  rw [ha]; exact tr (f := id) h
 | typeAssert x xT a ok =>
  cases ok with
  | false => simp [aop] at h
  | true =>
   simp only [aop] at h ⊢
   obtain ⟨a, ha, h⟩ := bind_some h
   rw [ha]; exact tr (f := id) h
 | fieldAddr t x i =>
  simp only [aop] at h ⊢
  obtain ⟨a, ha, h⟩ := bind_some h
  rw [ha]; exact tr (f := id) h
 | field t x i =>
  simp only [aop] at h ⊢
  obtain ⟨a, ha, h⟩ := bind_some h
  rw [ha]; exact tr (f := id) h
 | indexAddr t x i =>
  simp only [aop] at h ⊢
  split at h
  ·exact tr (f := id) h
  ·cases h
 | index t x i =>
  simp only [aop] at h ⊢
  split at h
  ·exact tr (f := id) h
  ·cases h
 | extract t i =>
  simp only [aop] at h ⊢
  split at h
  ·exact tr (f := id) h
  ·cases h
 | panic x =>
  simp only [aop] at h
  split at h <;> cases h
 | _ => simp [aop] at h
theorem aevs_congr {ρ ρ' : Operand → Option AV} : ∀ {xs : List Operand}, (∀ x ∈ xs, ρ x = ρ' x) → aevs ρ xs = aevs ρ' xs
 | [], _ => rfl
 | x :: xs, h => by simp only [aevs]; rw [h x (by simp), aevs_congr fun y hy => h y (by simp [hy])]
theorem apairs_congr {ρ ρ' : Operand → Option AV} : ∀ {xs : List (Nat × Operand)}, (∀ p ∈ xs, ρ p.2 = ρ' p.2) → apairs ρ xs = apairs ρ' xs
 | [], _ => rfl
 | (i, x) :: xs, h => by simp only [apairs]; rw [h (i, x) (by simp), apairs_congr fun y hy => h y (by simp [hy])]
theorem aop_congr {m : Bool} {H : List Blk} {ρ ρ' : Operand → Option AV} {o : Oper} (h : ∀ x ∈ o.op.operands, ρ x = ρ' x) : aop P m H ρ o = aop P m H ρ' o := by
 obtain ⟨dst, op, type, pos, after, guard⟩ := o
 cases op <;> simp only [Op.operands] at h <;> simp only [aop]
 case move x => rw [h x (by simp)]
 case assign x => rw [h x (by simp)]
 case pick c a b => rw [h c (by simp), h a (by simp), h b (by simp)]
 case box t x => rw [h x (by simp)]
 case build t ps => rw [apairs_congr fun p hp => h p.2 (by simpa using ⟨p.1, by simpa using hp⟩)]
 case buildSlice t n ps => rw [apairs_congr fun p hp => h p.2 (by simpa using ⟨p.1, by simpa using hp⟩)]
 case load t x => rw [h x (by simp)]
 case store t a v => rw [h a (by simp), h v (by simp)]
 case binOp op t x y yt => rw [h x (by simp), h y (by simp)]
 case unOp op t x => rw [h x (by simp)]
 case convert a b x => rw [h x (by simp)]
 case makeInterface t x => rw [h x (by simp)]
 case makeFunc f a b => rw [aevs_congr fun x hx => h x (by simp; exact .inl (by simpa using hx)), aevs_congr fun x hx => h x (by simp; exact .inr (by simpa using hx))]
 case makeMap t r => cases r <;> rfl
 case makeSlice t l c => rw [h l (by simp), h c (by simp)]
 case range t x => rw [h x (by simp)]
 case nilCheck x => rw [h x (by simp)]
 case typeAssert x xT a ok => cases ok <;> simp only [h x (by simp)]
 case next x s => cases s <;> simp only [h x (by simp)]
 case slice t x lo hi mx =>
  rw [h x (by simp)]
  have e : ∀ y : Option Operand, (∀ z, y = some z → ρ z = ρ' z) → y.bind ρ = y.bind ρ' := by
   intro y hy; cases y with
   | none => rfl
   | some z => simpa using hy z rfl
  rw [e lo fun z hz => h z (by simp [hz]), e hi fun z hz => h z (by simp [hz]), e mx fun z hz => h z (by simp [hz])]
 case fieldAddr t x i => rw [h x (by simp)]
 case field t x i => rw [h x (by simp)]
 case indexAddr t x i => rw [h x (by simp), h i (by simp)]
 case index t x i => rw [h x (by simp), h i (by simp)]
 case lookup t x k ok => rw [h x (by simp), h k (by simp)]
 case mapUpdate t m k x => rw [h m (by simp), h k (by simp), h x (by simp)]
 case insert t m k x => rw [h m (by simp), h k (by simp), h x (by simp)]
 case extract t i => rw [h t (by simp)]
 case panic x => rw [h x (by simp)]
 case call c =>
  obtain ⟨callee, cargs, argTypes⟩ := c
  have ha : aevs ρ cargs.toList = aevs ρ' cargs.toList := aevs_congr fun x hx => h x (by simp [Call.operands]; exact .inr (by simpa using hx))
  rw [ha]
  cases callee with
  | value f => dsimp only; rw [h f (by simp [Call.operands])]
  | invoke r m => dsimp only; rw [h r (by simp [Call.operands])]
  | builtin b => cases b <;> rfl
structure St.Eqv (σ τ : St) : Prop where
 n : σ.n = τ.n
 H : σ.H = τ.H
 defs : σ.defs = τ.defs
 vars : ∀ k, get σ.vars k = get τ.vars k
theorem St.Eqv.refl (σ : St) : σ.Eqv σ := ⟨rfl, rfl, rfl, fun _ => rfl⟩
theorem St.Eqv.symm {σ τ : St} (h : σ.Eqv τ) : τ.Eqv σ := ⟨h.n.symm, h.H.symm, h.defs.symm, fun k => (h.vars k).symm⟩
theorem St.Eqv.trans {σ τ υ : St} (h : σ.Eqv τ) (h' : τ.Eqv υ) : σ.Eqv υ := ⟨h.n.trans h'.n, h.H.trans h'.H, h.defs.trans h'.defs, fun k => (h.vars k).trans (h'.vars k)⟩
theorem St.Eqv.eval {σ τ : St} (h : σ.Eqv τ) : σ.eval = τ.eval := by
 funext x
 cases x <;> first | rfl | exact h.vars _
theorem SRel.eqv [Outer] {σ τ : St} (h : σ.Eqv τ) {ι : Nat → Option (Nat × Nat)} {a : Act} {w : World} (x : SRel σ ι a w) : SRel τ ι a w := by
 have hH := h.H
 refine ⟨by rw [← hH]; exact x.rel, x.size.trans h.n, fun t v hg => ?_, by rw [← hH, ← h.defs]; exact x.defs⟩
 rw [← hH]
 exact x.vars t v ((h.vars t).trans hg)
theorem wantedA_eqv {ops : Array Oper} {v1 v2 : Trie AV} (h : ∀ k, get v1 k = get v2 k) (o : Oper) : wantedA ops v1 o = wantedA ops v2 o := by
 unfold wantedA
 cases o.guard with
 | none => rfl
 | some p =>
  obtain ⟨j, want⟩ := p
  simp only
  cases (ops[j]?).bind (·.dst) with
  | none => rfl
  | some t => simp only [h t]
theorem putA_eqv {σ τ : St} (h : σ.Eqv τ) {dst : Option Tmp} {v : AV} {H' : List Blk} {σ1 : St} (hp : putA σ dst v H' = some σ1) : ∃ τ1, putA τ dst v H' = some τ1 ∧ σ1.Eqv τ1 := by
 unfold putA at hp ⊢
 cases dst with
 | none => cases hp; exact ⟨_, rfl, ⟨h.n, rfl, h.defs, h.vars⟩⟩
 | some d =>
  simp only at hp ⊢
  split at hp
  ·rename_i hd
   cases hp
   rw [if_pos (by rw [← h.n]; exact hd)]
   refine ⟨_, rfl, ⟨h.n, rfl, h.defs, fun k => ?_⟩⟩
   simp only
   by_cases hk : d = k
   ·subst hk; rw [get_set_same, get_set_same]
   ·rw [get_set_other _ _ _ _ hk, get_set_other _ _ _ _ hk]; exact h.vars k
  ·cases hp
def Does (P : Program) (r : AR) (H : List Blk) (v : AV) (H' : List Blk) : Prop :=
 r = .val v H' ∨ (∃ f args, r = .call f args ∧ callable P f = true ∧ ACall P f args H (.ret v) H') ∨ ∃ id args, r = .round id args ∧ ARound P id args H (.ret v) H'
def layB (P : Program) (o : Oper) : Option Blk :=
 match o.op with
 | .alloc t => (tz P t).map fun z => .box (z.cells.toList.map .lit) t
 | .makeMap t none => (tmap P t).map fun p => .map p.1 []
 | _ => none
def layV (o : Oper) (id : Nat) : AV :=
 match o.op with
 | .makeMap .. => .mp id
 | _ => .ptr id 0
def light (o : Oper) : Bool := okind o == .plain || okind o == .lay
def Good (Hs : List (List Blk)) (H : List Blk) : Prop := ∃ H0 ∈ Hs, HLe H0 H
inductive Res (P : Program) (ops : Array Oper) (al : Nat → Option Nat) (Hs : List (List Blk)) (i : Nat) (o : Oper) (σ : St) : AV → List Blk → Prop
  | plain {m : Bool} {v : AV} (hk : okind o = .plain) (hw : wantedA ops σ.vars o = some true) (ha : aop P m σ.H σ.eval o = some (.val v σ.H)) (h0 : ∀ H ∈ Hs, aop P m H σ.eval o = some (.val v H)) :
      Res P ops al Hs i o σ v σ.H
  | lay {B : Blk} {id : Nat} (hk : okind o = .lay) (hw : wantedA ops σ.vars o = some true) (hB : layB P o = some B) (hal : al i = some id) : Res P ops al Hs i o σ (layV o id) σ.H
  | skip (hw : wantedA ops σ.vars o = some false) : Res P ops al Hs i o σ (.lit undef) σ.H
  | eff {m : Bool} {r : AR} {v : AV} {H' : List Blk} (hk : okind o = .eff) (hw : wantedA ops σ.vars o = some true) (ha : aop P m σ.H σ.eval o = some r) (hr : Does P r σ.H v H') (hle : HLe σ.H H') :
      Res P ops al Hs i o σ v H'
  | store {m : Bool} {v : AV} {H' : List Blk} (hk : okind o = .store) (hw : wantedA ops σ.vars o = some true) (ha : aop P m σ.H σ.eval o = some (.val v H')) (hmem : Good Hs H') (hd : keepsD σ.H H') :
      Res P ops al Hs i o σ v H'
theorem looks_eval {ops : Array Oper} {o : Oper} {σ τ : St} (h : ∀ d, d ∈ o.looksAt ops → get σ.vars d = get τ.vars d) : (∀ x ∈ o.op.operands, σ.eval x = τ.eval x) ∧ wantedA ops σ.vars o = wantedA ops τ.vars o := by
 constructor
 ·intro x hx
  cases x with
  | tmp t => exact h t (List.mem_append_left _ (List.mem_filterMap.2 ⟨.tmp t, by simpa using hx, rfl⟩))
  | _ => rfl
 ·unfold wantedA
  cases hg : o.guard with
  | none => rfl
  | some p =>
   obtain ⟨j, want⟩ := p
   simp only
   cases hd : (ops[j]?).bind (·.dst) with
   | none => rfl
   | some t =>
    simp only
    rw [h t]
    unfold Oper.looksAt
    rw [hg]
    simp [hd]
theorem Res.other {ops : Array Oper} {al : Nat → Option Nat} {Hs : List (List Blk)} {i : Nat} {o : Oper} {σ τ : St} {v : AV} {H' : List Blk} (h : Res P ops al Hs i o σ v H') (hk : light o = true)
  (hl : ∀ d, d ∈ o.looksAt ops → get σ.vars d = get τ.vars d) (hle : Good Hs τ.H) : H' = σ.H ∧ Res P ops al Hs i o τ v τ.H := by
 obtain ⟨he, hw⟩ := looks_eval hl
 unfold light at hk
 cases h with
 | plain hk' hw' ha h0 =>
  obtain ⟨H0, hH0, hle⟩ := hle
  have h0' : ∀ H ∈ Hs, aop P _ H τ.eval o = some (.val v H) := fun H hH => by rw [← aop_congr he]; exact h0 H hH
  exact ⟨rfl, .plain hk' (hw ▸ hw') (plain_le hle hk' (h0' H0 hH0)).2 h0'⟩
 | lay hk' hw' hB hal => exact ⟨rfl, .lay hk' (hw ▸ hw') hB hal⟩
 | skip hw' => exact ⟨rfl, .skip (hw ▸ hw')⟩
 | eff hk' => rw [hk'] at hk; simp at hk
 | store hk' => rw [hk'] at hk; simp at hk
theorem Res.same {ops : Array Oper} {al : Nat → Option Nat} {Hs : List (List Blk)} {i : Nat} {o : Oper} {σ τ : St} {v : AV} {H' : List Blk} (h : Res P ops al Hs i o σ v H')
  (hl : ∀ d, d ∈ o.looksAt ops → get σ.vars d = get τ.vars d) (hH : σ.H = τ.H) : Res P ops al Hs i o τ v H' := by
 obtain ⟨he, hw⟩ := looks_eval hl
 cases h with
 | plain hk' hw' ha h0 =>
  rw [aop_congr he] at ha
  rw [hH] at ha ⊢
  exact .plain hk' (hw ▸ hw') ha fun H hm => by rw [← aop_congr he]; exact h0 H hm
 | lay hk' hw' hB hal => rw [hH]; exact .lay hk' (hw ▸ hw') hB hal
 | skip hw' => rw [hH]; exact .skip (hw ▸ hw')
 | eff hk' hw' ha hr hle =>
  rw [aop_congr he, hH] at ha
  rw [hH] at hr hle
  exact .eff hk' (hw ▸ hw') ha hr hle
 | store hk' hw' ha hmem hd =>
  rw [aop_congr he, hH] at ha
  rw [hH] at hd
  exact .store hk' (hw ▸ hw') ha hmem hd
theorem Res.good {ops : Array Oper} {al : Nat → Option Nat} {Hs : List (List Blk)} {i : Nat} {o : Oper} {σ : St} {v : AV} {H' : List Blk} (h : Res P ops al Hs i o σ v H') (hg : Good Hs σ.H) : Good Hs H' := by
 cases h with
 | eff _ _ _ _ hle => obtain ⟨H0, h1, h2⟩ := hg; exact ⟨H0, h1, h2.trans hle⟩
 | store _ _ _ hmem => exact hmem
 | _ => exact hg
def DStep (P : Program) (ops : Array Oper) (al : Nat → Option Nat) (Hs : List (List Blk)) (i : Nat) (σ σ1 : St) : Prop :=
 ∃ o v H', ops[i]? = some o ∧ Res P ops al Hs i o σ v H' ∧ putA σ o.dst v H' = some σ1
structure Lates where
 lm : Nat
 J : List Blk → Prop
 need : Nat → Bool
def LateStep (P : Program) (ops : Array Oper) (J : List Blk → Prop) (i : Nat) (σ σ1 : St) : Prop :=
 ∃ o v m, ops[i]? = some o ∧ okind o = .plain ∧ wantedA ops σ.vars o = some true ∧ putA σ o.dst v σ.H = some σ1 ∧ ∀ H, J H → aop P m H σ.eval o = some (.val v H)
inductive DPath (P : Program) (ops : Array Oper) (al : Nat → Option Nat) (mask : Nat) (X : Lates) : List (List Blk) → List Nat → St → St → Prop
  | nil {Hs : List (List Blk)} {σ : St} : DPath P ops al mask X Hs [] σ σ
  | cons {Hs : List (List Blk)} {i : Nat} {l : List Nat} {σ σ1 σ2 : St} (hm : mask.testBit i = false) (h : DStep P ops al Hs i σ σ1) (hl : X.lm.testBit i = true → LateStep P ops X.J i σ σ1) (t : DPath P ops al mask X Hs l σ1 σ2) :
      DPath P ops al mask X Hs (i :: l) σ σ2
  | barrier {Hs Hs' : List (List Blk)} {i : Nat} {l : List Nat} {σ σ1 σ2 : St} (hm : mask.testBit i = true) (h : AStep P ops i σ σ1) (hf : ∀ j ∈ l, ∀ id, al j = some id → σ1.H[id]? = σ.H[id]?)
      (hg : Good Hs' σ1.H) (hj : X.need i = true → X.J σ1.H ∧ ∀ H ∈ Hs', X.J H) (t : DPath P ops al mask X Hs' l σ1 σ2) : DPath P ops al mask X Hs (i :: l) σ σ2
theorem putA_H {σ σ1 : St} {dst : Option Tmp} {v : AV} {H' : List Blk} (hp : putA σ dst v H' = some σ1) : σ1.H = H' ∧ σ1.n = σ.n ∧ σ1.defs = σ.defs ∧
  ∀ k, (∀ d, dst = some d → d ≠ k) → get σ1.vars k = get σ.vars k := by
 unfold putA at hp
 cases dst with
 | none => cases hp; exact ⟨rfl, rfl, rfl, fun _ _ => rfl⟩
 | some d =>
  simp only at hp
  split at hp
  ·cases hp
   exact ⟨rfl, rfl, rfl, fun k hk => get_set_other _ _ _ _ (hk d rfl)⟩
  ·cases hp
def comm (ops : Array Oper) (x y : Oper) : Bool :=
 x.apart ops y && ((light x || light y) && (!(okind x == .lay && okind y == .store) && !(okind x == .store && okind y == .lay)))
theorem putA_n {σ τ : St} (hn : σ.n = τ.n) {dst : Option Tmp} {v v' : AV} {H H' : List Blk} {σ1 : St} (hp : putA σ dst v H = some σ1) : ∃ τ1, putA τ dst v' H' = some τ1 := by
 unfold putA at hp ⊢
 cases dst with
 | none => exact ⟨_, rfl⟩
 | some d =>
  simp only at hp ⊢
  split at hp
  ·rename_i hd; rw [if_pos (by rw [← hn]; exact hd)]; exact ⟨_, rfl⟩
  ·cases hp
theorem putA_get {σ σ1 : St} {d : Nat} {v : AV} {H' : List Blk} (hp : putA σ (some d) v H' = some σ1) : get σ1.vars d = some v := by
 unfold putA at hp
 simp only at hp
 split at hp
 ·cases hp; exact get_set_same _ _ _
 ·cases hp
theorem swap_steps {ops : Array Oper} {al : Nat → Option Nat} {Hs : List (List Blk)} {p i : Nat} {σ σ1 σ2 : St} {op oi : Oper} (hop : ops[p]? = some op) (hoi : ops[i]? = some oi) (hc : comm ops op oi = true)
  (h1 : DStep P ops al Hs p σ σ1) (h2 : DStep P ops al Hs i σ1 σ2) (hle : Good Hs σ.H) :
  ∃ τ τ2, DStep P ops al Hs i σ τ ∧ DStep P ops al Hs p τ τ2 ∧ σ2.Eqv τ2 ∧ (∀ d, d ∈ op.looksAt ops → get σ.vars d = get τ.vars d) ∧ ∀ d, op.dst = some d → get σ1.vars d = get τ2.vars d := by
 unfold comm at hc
 rw [Bool.and_eq_true, Bool.and_eq_true, Bool.or_eq_true] at hc
 obtain ⟨hap, hne, _⟩ := hc
 obtain ⟨a1, a2, a3⟩ := Oper.apart_spec hap
 obtain ⟨o1, vp, Hp, e1, r1, p1⟩ := h1
 rw [hop] at e1; cases e1
 obtain ⟨o2, vi, Hi, e2, r2, p2⟩ := h2
 rw [hoi] at e2; cases e2
 obtain ⟨hH1, hn1, hd1, hg1⟩ := putA_H p1
 obtain ⟨hH2, hn2, hd2, hg2⟩ := putA_H p2
 -- what i looks at is the same before p
 have look_i : ∀ d, d ∈ oi.looksAt ops → get σ1.vars d = get σ.vars d := fun d hd => hg1 d fun d' hd' e => a1 d' hd' (e ▸ hd)
 -- i at σ
 have hri : ∃ Hi', Res P ops al Hs i oi σ vi Hi' ∧ (light oi = true → Hi' = σ.H ∧ Hi = σ1.H) ∧ (¬ light oi = true → Hi' = Hi ∧ Hp = σ.H) := by
  by_cases hk : light oi = true
  ·obtain ⟨e, r⟩ := r2.other hk look_i hle
   exact ⟨σ.H, r, fun _ => ⟨rfl, e⟩, fun h => absurd hk h⟩
  ·have hkp : light op = true := hne.resolve_right hk
   have hHp : Hp = σ.H := (r1.other hkp (fun _ _ => rfl) hle).1
   have := r2.same look_i (hH1.trans hHp)
   exact ⟨Hi, this, fun h => absurd h hk, fun _ => ⟨rfl, hHp⟩⟩
 obtain ⟨Hi', ri, hplain, heff⟩ := hri
 have hgi : Good Hs Hi' := ri.good hle
 obtain ⟨τ, pτ⟩ := putA_n (v' := vi) (H' := Hi') hn1 p2
 obtain ⟨hHτ, hnτ, hdτ, hgτ⟩ := putA_H pτ
 have look_p : ∀ d, d ∈ op.looksAt ops → get σ.vars d = get τ.vars d := fun d hd => (hgτ d fun d' hd' e => a3 d' hd' (e ▸ hd)).symm
 have hrp : ∃ Hp', Res P ops al Hs p op τ vp Hp' ∧ Hp' = Hi := by
  by_cases hk : light op = true
  ·obtain ⟨e, r⟩ := r1.other hk look_p (by rw [hHτ]; exact hgi)
   refine ⟨τ.H, r, ?_⟩
   rw [hHτ]
   by_cases hki : light oi = true
   ·obtain ⟨g1, g2⟩ := hplain hki
    rw [g1, g2, hH1, e]
   ·exact (heff hki).1
  ·have hki : light oi = true := hne.resolve_left hk
   obtain ⟨g1, g2⟩ := hplain hki
   exact ⟨Hp, r1.same look_p (by rw [hHτ, g1]), by rw [g2, hH1]⟩
 obtain ⟨Hp', rp, hHp'⟩ := hrp
 obtain ⟨τ2, pτ2⟩ := putA_n (v' := vp) (H' := Hp') hnτ.symm p1
 obtain ⟨hHτ2, hnτ2, hdτ2, hgτ2⟩ := putA_H pτ2
 refine ⟨τ, τ2, ⟨oi, vi, Hi', hoi, ri, pτ⟩, ⟨op, vp, Hp', hop, rp, pτ2⟩, ⟨?_, ?_, ?_, fun k => ?_⟩, look_p, fun d hd => ?_⟩
 ·rw [hn2, hn1, hnτ2, hnτ]
 ·rw [hH2, hHτ2, hHp']
 ·rw [hd2, hd1, hdτ2, hdτ]
 ·by_cases hk1 : op.dst = some k
  ·have hk2 : ∀ d, oi.dst = some d → d ≠ k := fun d hd e => a2 k hk1 (e ▸ hd)
   rw [hg2 k hk2]
   rw [hk1] at p1 pτ2
   rw [putA_get p1, putA_get pτ2]
  ·have hk1' : ∀ d, op.dst = some d → d ≠ k := fun d hd e => hk1 (e ▸ hd)
   rw [hgτ2 k hk1']
   by_cases hk2 : oi.dst = some k
   ·rw [hk2] at p2 pτ
    rw [putA_get p2, putA_get pτ]
   ·have hk2' : ∀ d, oi.dst = some d → d ≠ k := fun d hd e => hk2 (e ▸ hd)
    rw [hg2 k hk2', hg1 k hk1', hgτ k hk2']
 ·rw [hd] at p1 pτ2
  rw [putA_get p1, putA_get pτ2]
theorem DStep.eqv {ops : Array Oper} {al : Nat → Option Nat} {Hs : List (List Blk)} {i : Nat} {σ σ1 τ : St} (h : DStep P ops al Hs i σ σ1) (he : σ.Eqv τ) : ∃ τ1, DStep P ops al Hs i τ τ1 ∧ σ1.Eqv τ1 := by
 obtain ⟨o, v, H', ho, hr, hp⟩ := h
 obtain ⟨τ1, hp1, he1⟩ := putA_eqv he hp
 exact ⟨τ1, ⟨o, v, H', ho, hr.same (fun d _ => he.vars d) he.H, hp1⟩, he1⟩
theorem LateStep.same {ops : Array Oper} {J : List Blk → Prop} {al : Nat → Option Nat} {Hs : List (List Blk)} {i : Nat} {σ σ1 τ τ1 : St} (h : LateStep P ops J i σ σ1) (o : Oper) (ho : ops[i]? = some o)
  (hl : ∀ d, d ∈ o.looksAt ops → get σ.vars d = get τ.vars d) (hd' : DStep P ops al Hs i τ τ1) (hv : ∀ d, o.dst = some d → get σ1.vars d = get τ1.vars d) : LateStep P ops J i τ τ1 := by
 obtain ⟨o1, v, m, ho1, hk, hw, hp, h0⟩ := h
 rw [ho] at ho1; cases ho1
 obtain ⟨o2, v2, H2, ho2, r2, hp2⟩ := hd'
 rw [ho] at ho2; cases ho2
 obtain ⟨he, hw'⟩ := looks_eval hl
 have e2 : H2 = τ.H := by cases r2 <;> first | rfl | (rename_i hk' _ _ _ _; rw [hk] at hk'; cases hk')
 subst e2
 cases hds : o.dst with
 | none =>
  rw [hds] at hp2
  exact ⟨o, v, m, ho, hk, hw' ▸ hw, by rw [hds]; exact hp2, fun H hJ => by rw [← aop_congr he]; exact h0 H hJ⟩
 | some d =>
  rw [hds] at hp hp2
  have e := hv d hds
  rw [putA_get hp, putA_get hp2] at e
  cases e
  exact ⟨o, v, m, ho, hk, hw' ▸ hw, by rw [hds]; exact hp2, fun H hJ => by rw [← aop_congr he]; exact h0 H hJ⟩
theorem AStep.eqv {ops : Array Oper} {i : Nat} {σ σ1 τ : St} (h : AStep P ops i σ σ1) (he : σ.Eqv τ) : ∃ τ1, AStep P ops i τ τ1 ∧ σ1.Eqv τ1 := by
 have hH := he.H
 cases h with
 | val ho hw ha hd hp =>
  obtain ⟨τ1, hp1, he1⟩ := putA_eqv he hp
  exact ⟨τ1, .val ho (by rw [← wantedA_eqv he.vars]; exact hw) (by rw [← he.eval, ← hH]; exact ha) (by rw [← hH]; exact hd) hp1, he1⟩
 | skip ho hw hp =>
  rw [hH] at hp
  obtain ⟨τ1, hp1, he1⟩ := putA_eqv he hp
  exact ⟨τ1, .skip ho (by rw [← wantedA_eqv he.vars]; exact hw) hp1, he1⟩
 | call ho hw ha hcal hc hd hp =>
  obtain ⟨τ1, hp1, he1⟩ := putA_eqv he hp
  exact ⟨τ1, .call ho (by rw [← wantedA_eqv he.vars]; exact hw) (by rw [← he.eval, ← hH]; exact ha) hcal (by rw [← hH]; exact hc) (by rw [← hH]; exact hd) hp1, he1⟩
 | round ho hw ha hc hd hp =>
  obtain ⟨τ1, hp1, he1⟩ := putA_eqv he hp
  exact ⟨τ1, .round ho (by rw [← wantedA_eqv he.vars]; exact hw) (by rw [← he.eval, ← hH]; exact ha) (by rw [← hH]; exact hc) (by rw [← hH]; exact hd) hp1, he1⟩
theorem DPath.eqv {ops : Array Oper} {al : Nat → Option Nat} {mask : Nat} {X : Lates} : ∀ {Hs : List (List Blk)} {l : List Nat} {σ σ2 τ : St}, DPath P ops al mask X Hs l σ σ2 → σ.Eqv τ → ∃ τ2, DPath P ops al mask X Hs l τ τ2 ∧ σ2.Eqv τ2
 | _, _, _, _, τ, .nil, he => ⟨τ, .nil, he⟩
 | _, _, _, _, _, .cons hm h hl t, he => by
  obtain ⟨τ1, h1, he1⟩ := h.eqv he
  obtain ⟨τ2, t2, he2⟩ := DPath.eqv t he1
  refine ⟨τ2, .cons hm h1 (fun hb => ?_) t2, he2⟩
  obtain ⟨o, v, H', ho, _⟩ := id h
  exact (hl hb).same o ho (fun d _ => he.vars d) h1 fun d _ => he1.vars d
 | _, _, _, _, _, .barrier hm h hf hg hj t, he => by
  obtain ⟨τ1, h1, he1⟩ := h.eqv he
  obtain ⟨τ2, t2, he2⟩ := DPath.eqv t he1
  exact ⟨τ2, .barrier hm h1 (by rw [← he.H, ← he1.H]; exact hf) (by rw [← he1.H]; exact hg) (by rw [← he1.H]; exact hj) t2, he2⟩
theorem DPath.first {mask : Nat} {ops : Array Oper} {al : Nat → Option Nat} {X : Lates} {Hs : List (List Blk)} {i : Nat} {oi : Oper} {post : List Nat} (hoi : ops[i]? = some oi) (hmi : mask.testBit i = false) : ∀ {pre : List Nat} {σ σ' : St},
  DPath P ops al mask X Hs (pre ++ i :: post) σ σ' → (∀ p ∈ pre, mask.testBit p = false ∧ ∃ op, ops[p]? = some op ∧ comm ops op oi = true) → Good Hs σ.H →
  ∃ τ σ'', DStep P ops al Hs i σ τ ∧ DPath P ops al mask X Hs (pre ++ post) τ σ'' ∧ σ'.Eqv σ''
 | [], σ, σ', h, _, _ => by
  cases h with
  | cons hm h hl t => exact ⟨_, σ', h, t, St.Eqv.refl _⟩
  | barrier hm => rw [hmi] at hm; cases hm
 | p :: pre, σ, σ', h, hc, hle => by
  obtain ⟨hmp, op, hop, hcomm⟩ := hc p (by simp)
  rw [List.cons_append] at h
  cases h with
  | barrier hm => rw [hmp] at hm; cases hm
  | cons hm h hl t =>
   rename_i σ1
   have hle1 : Good Hs σ1.H := by
    obtain ⟨o, v, H', _, hr, hp⟩ := h
    rw [(putA_H hp).1]; exact hr.good hle
   obtain ⟨τ1, σ'', hi, ht, he⟩ := DPath.first hoi hmi t (fun q hq => hc q (by simp [hq])) hle1
   obtain ⟨τ, τ2, hi', hp', he2, hlk, hdst⟩ := swap_steps hop hoi hcomm h hi hle
   obtain ⟨σ3, ht3, he3⟩ := ht.eqv he2
   exact ⟨τ, σ3, hi', .cons hmp hp' (fun hb => (hl hb).same op hop hlk hp' hdst) ht3, he.trans he3⟩
end Go.Vm

namespace Go.Vm
variable {P : Program}
def bits (acc : List Nat) (o : Oper) : Nat := o.after.toList.foldl (fun s e => if Region.binds .any e then s ||| 2 ^ e.on ||| acc.getD e.on 0 else s) 0
def befs : List Oper → List Nat → List Nat
 | [], acc => acc
 | o :: os, acc => befs os (acc ++ [bits acc o])
theorem befs_spec : ∀ (os : List Oper) (acc : List Nat), (∃ t, befs os acc = acc ++ t ∧ t.length = os.length) ∧
  ∀ k o, os[k]? = some o → (befs os acc)[acc.length + k]? = some (bits ((befs os acc).take (acc.length + k)) o)
 | [], acc => ⟨⟨[], by simp [befs]⟩, by simp⟩
 | o :: os, acc => by
  obtain ⟨⟨t, ht, hl⟩, ih⟩ := befs_spec os (acc ++ [bits acc o])
  refine ⟨⟨bits acc o :: t, by simp [befs, ht], by simp [hl]⟩, fun k x hk => ?_⟩
  simp only [befs]
  cases k with
  | zero =>
   simp at hk; subst hk
   rw [ht]
   simp
  | succ k =>
   simp at hk
   have := ih k x hk
   simp only [List.length_append, List.length_singleton] at this
   rw [show acc.length + (k + 1) = acc.length + 1 + k by omega]
   exact this
theorem bits_spec {acc : List Nat} {o : Oper} {p : Nat} (h : (bits acc o).testBit p = true) : ∃ e ∈ o.after, Region.binds .any e = true ∧ (e.on = p ∨ (acc.getD e.on 0).testBit p = true) := by
  unfold bits at h
  have key : ∀ (l : List Edge) (s : Nat), (l.foldl (fun s e => if Region.binds .any e then s ||| 2 ^ e.on ||| acc.getD e.on 0 else s) s).testBit p = true →
      s.testBit p = true ∨ ∃ e ∈ l, Region.binds .any e = true ∧ (e.on = p ∨ (acc.getD e.on 0).testBit p = true) := by
    intro l
    induction l with
    | nil => intro s h; exact .inl h
    | cons e l ih =>
      intro s h
      simp only [List.foldl_cons] at h
      rcases ih _ h with h | ⟨e', he', hb, hx⟩
      · split at h
        · rename_i hb
          simp only [Nat.testBit_or, Bool.or_eq_true] at h
          rcases h with (h | h) | h
          · exact .inl h
          · refine .inr ⟨e, by simp, hb, .inl ?_⟩
            rw [Nat.testBit_two_pow] at h
            simpa using h
          · exact .inr ⟨e, by simp, hb, .inr h⟩
        · exact .inl h
      · exact .inr ⟨e', by simp [he'], hb, hx⟩
  rcases key _ 0 h with h | ⟨e, he, hb, hx⟩
  · simp at h
  · exact ⟨e, by simpa using he, hb, hx⟩
def drawOk (mask : Nat) (ops : Array Oper) : Bool :=
 let B := befs ops.toList []
 (List.range ops.size).all fun i => match ops[i]? with
  | none => true
  | some oi => oi.after.toList.all (fun e => !Region.binds .any e || decide (e.on < i)) &&
   (List.range i).all fun p => ((B.getD i 0).testBit p || (!mask.testBit i && (!mask.testBit p && (match ops[p]? with | some op => comm ops op oi | none => true)))) &&
    (mask.testBit p || match ops[p]? with | some op => !(okind op == .store && okind oi == .lay) | none => true)
def free (o : Oper) : Bool := match o.op with
 | .move _ => true
 | .assign _ => true
 | .build _ _ => true
 | _ => false
theorem free_heap {m : Bool} {H1 H2 : List Blk} {ρ : Operand → Option AV} {o : Oper} {v : AV} (hf : free o = true) (h : aop P m H1 ρ o = some (.val v H1)) : aop P m H2 ρ o = some (.val v H2) := by
 unfold free at hf
 split at hf
 ·rename_i x e
  simp only [aop, e] at h ⊢
  obtain ⟨u, hu, e2⟩ := map_some h
  cases e2
  rw [hu]; rfl
 ·rename_i x e
  simp only [aop, e] at h ⊢
  obtain ⟨u, hu, e2⟩ := map_some h
  cases e2
  rw [hu]; rfl
 ·rename_i t ps e
  simp only [aop, e] at h ⊢
  obtain ⟨qs, hq, h⟩ := bind_some h
  obtain ⟨u, hu, e2⟩ := map_some h
  cases e2
  rw [hq, Option.bind_some, hu]; rfl
 ·cases hf
def drawOkL (mask lm : Nat) (ops : Array Oper) : Bool :=
 let B := befs ops.toList []
 (List.range ops.size).all fun i => match ops[i]? with
  | none => true
  | some oi => oi.after.toList.all (fun e => !Region.binds .any e || decide (e.on < i)) &&
   (List.range i).all fun p => ((B.getD i 0).testBit p || (!mask.testBit p && (match ops[p]? with | some op => (!mask.testBit i && comm ops op oi) || (mask.testBit i && ((free op || lm.testBit p) && op.apart ops oi)) | none => true))) &&
    (mask.testBit p || match ops[p]? with | some op => !(okind op == .store && okind oi == .lay) | none => true)
def drawOkF (mask : Nat) (ops : Array Oper) : Bool := drawOkL mask 0 ops
def needL (lm : Nat) (ops : Array Oper) (i : Nat) : Bool := (List.range i).any fun p => lm.testBit p && !((befs ops.toList []).getD i 0).testBit p
def Closed (ops : Array Oper) (listed : Array Bool) : Prop := ∀ j, j < ops.size → listed.getD j false = true → ∀ p, ((befs ops.toList []).getD j 0).testBit p = true → listed.getD p false = true
theorem ready_bef {ops : Array Oper} {listed : Array Bool} {i : Nat} {oi : Oper} (hoi : ops[i]? = some oi) (hback : ∀ e ∈ oi.after, Region.binds .any e = true → e.on < i) (hcl : Closed ops listed)
  (hr : ∀ e ∈ oi.after, Region.binds .any e = true → listed.getD e.on false = true) {p : Nat} (hp : ((befs ops.toList []).getD i 0).testBit p = true) : listed.getD p false = true := by
 have hi := (Array.getElem?_eq_some_iff.1 hoi).1
 have hspec := (befs_spec ops.toList []).2 i oi (by simpa using hoi)
 simp only [List.length_nil, Nat.zero_add] at hspec
 rw [List.getD_eq_getElem?_getD, hspec] at hp
 simp only [Option.getD_some] at hp
 obtain ⟨e, he, hb, hx⟩ := bits_spec hp
 have hl := hr e he hb
 have hlt := hback e he hb
 rcases hx with rfl | hx
 ·exact hl
 ·refine hcl e.on (by omega) hl p ?_
  rw [List.getD_eq_getElem?_getD] at hx ⊢
  rw [List.getElem?_take_of_lt hlt] at hx
  exact hx
def Pend (P : Program) (ops : Array Oper) (al : Nat → Option Nat) (L : List Nat) (ι : Nat → Option (Nat × Nat)) (H : List Blk) : Prop :=
 ∀ i ∈ L, ∀ o B id, ops[i]? = some o → layB P o = some B → al i = some id → ι id = none ∧ H[id]? = some B
theorem layB_row {o : Oper} {B : Blk} (h : layB P o = some B) : B.isRow = false := by
 unfold layB at h
 split at h
 ·obtain ⟨z, _, rfl⟩ := map_some h; rfl
 ·obtain ⟨z, _, rfl⟩ := map_some h; rfl
 ·cases h
theorem layB_kind {o : Oper} {B : Blk} (h : layB P o = some B) : okind o = .lay := by
 unfold layB at h
 unfold okind
 split at h
 ·rename_i ho; rw [ho]
 ·rename_i ho; rw [ho]
 ·cases h
def Waits (P : Program) (ops : Array Oper) (al : Nat → Option Nat) (L : List Nat) (H H' : List Blk) : Prop :=
 ∀ i ∈ L, ∀ o B id, ops[i]? = some o → layB P o = some B → al i = some id → H[id]? = some B → H'[id]? = some B
theorem HLe.waits {H H' : List Blk} (h : HLe H H') {ops : Array Oper} {al : Nat → Option Nat} {L : List Nat} : Waits P ops al L H H' := fun _ _ _ B id _ hB _ hH => h id B hH (Blk.loose_of (layB_row hB))
theorem DStep.sound [Outer] {ops : Array Oper} {al : Nat → Option Nat} {Hs : List (List Blk)} {i : Nat} {σ σ1 : St} (h : DStep P ops al Hs i σ σ1) {n0 : Nat} {L : List Nat}
    (hal : ∀ j id, al j = some id → n0 ≤ id) (hinj : ∀ j k id, al j = some id → al k = some id → j = k) (hbox : ∀ j id, al j = some id → notRow σ.H id) (hiL : i ∈ L)
    (hst : ∀ o, ops[i]? = some o → okind o = .store → ∀ j ∈ L, ∀ o' B, ops[j]? = some o' → layB P o' = some B → False)
    {ι : Nat → Option (Nat × Nat)} {a : Act} {w : World} {cro : Option Nat} (hs : SRel σ ι a w) (hpend : Pend P ops al L ι σ.H) {Q : Exit → Act → World → Prop} {K : Act → World → Prop}
    (hK : ∀ ι' a' w', SRel σ1 ι' a' w' → Ev ⟨σ.H, ι, w⟩ ⟨σ1.H, ι', w'⟩ → (∀ id, id < n0 → notRow σ.H id → ι id = none → ι' id = none) → Pend P ops al (L.filter (· != i)) ι' σ1.H → K a' w') :
    wpOpIn (Fr cro) 0 P ops Q i K a w := by
  obtain ⟨o, v, H', ho, hr, hp⟩ := h
  have hH := (putA_H hp).1
  -- whatever is no laying of a block: by the step's own soundness
  have plainly : AStep P ops i σ σ1 → Waits P ops al L σ.H σ1.H → wpOpIn (Fr cro) 0 P ops Q i K a w := by
    intro hstep hwt
    refine hstep.sound hs fun ι' a' w' hs' hev hnon => hK ι' a' w' hs' hev (fun id _ hn hi => hnon id hn hi) fun j hj o' B id ho' hB hal' => ?_
    have hjL : j ∈ L := (List.mem_filter.1 hj).1
    obtain ⟨hni, hHB⟩ := hpend j hjL o' B id ho' hB hal'
    exact ⟨hnon id (hbox j id hal') hni, hwt j hjL o' B id ho' hB hal' hHB⟩
  cases hr with
  | plain hk hw ha h0 => exact plainly (.val ho hw ha (fun _ h => h) hp) (by rw [hH]; exact (HLe.refl _).waits)
  | skip hw => exact plainly (.skip ho hw hp) (by rw [hH]; exact (HLe.refl _).waits)
  | store hk hw ha hmem hd =>
    exact plainly (.val ho hw ha hd hp) fun j hj o' B _ ho' hB _ _ => (hst o ho hk j hj o' B ho' hB).elim
  | eff hk hw ha hd hle' =>
    have hwt : Waits P ops al L σ.H σ1.H := by rw [hH]; exact hle'.waits
    rcases hd with rfl | ⟨f, args, rfl, hcal, hc⟩ | ⟨id, args, rfl, hc⟩
    · exact plainly (.val ho hw ha hle'.keepsD hp) hwt
    · exact plainly (.call ho hw ha hcal hc hle'.keepsD hp) hwt
    · exact plainly (.round ho hw ha hc hle'.keepsD hp) hwt
  | lay hk hw hB hali =>
    rename_i B id
    obtain ⟨hni, hBσ⟩ := hpend i hiL o B id ho hB hali
    have hBr := layB_row hB
    have hR : Rel ⟨σ.H, ι, w⟩ := hs.rel
    have place : ∀ (ob : Obj) (c : Value) (w' : World), w'.heap = w.heap.push ob → Rest w w' → (execOp a.eval o).run P w = .ok (.value c) w' → (∀ c', o.op ≠ .defer c') →
        BlkRel ⟨σ.H, upd ι id (some (w.heap.size, 0)), w'⟩ w.heap.size 0 B → VRel ⟨σ.H, upd ι id (some (w.heap.size, 0)), w'⟩ (layV o id) c → wpOpIn (Fr cro) 0 P ops Q i K a w := by
      intro ob c w' hw' hos hrun hnd hblk hv
      unfold wpOpIn
      simp only [ho]
      rw [wantedA_sound hs.vars hw]
      simp only [if_true]
      refine ⟨fun _ _ => Fr_fn _ _, ?_⟩
      rw [Oper.semAt_eq _ _ _ hnd, hrun]
      have hev := Ev.place hR (w' := w') (wm := 0) hBσ hBr hni hw' hos
      have hR' := Rel.place hR (w' := w') (wm := 0) hBσ hBr hni hw' hblk hos
      refine hK (upd ι id (some (w.heap.size, 0))) _ _ (hs.put hR' hev (fun _ h => h) hv hp) (by rw [hH]; exact hev) (fun id' hlt _ hn => ?_) fun j hj o' B' id' ho' hB' hal' => ?_
      · have := hal i id hali
        rw [upd_other _ _ _ _ (by omega)]; exact hn
      · obtain ⟨hjL, hji⟩ := List.mem_filter.1 hj
        have hne : id' ≠ id := by
          rintro rfl
          have := hinj j i id' hal' hali
          simp [this] at hji
        rw [upd_other _ _ _ _ hne, hH]
        exact hpend j hjL o' B' id' ho' hB' hal'
    unfold layB at hB
    split at hB
    · rename_i t hop
      obtain ⟨z, hz, rfl⟩ := map_some hB
      refine place (.cells z.cells t) (.pointer (some ⟨w.heap.size, 0, none⟩)) { w with heap := w.heap.push (.cells z.cells t) } rfl ⟨rfl, rfl⟩ ?_ (by rw [hop]; intro c h; cases h) ⟨z.cells, by simp, VRels.map_lit _⟩ ?_
      · unfold execOp
        rw [hop]
        simp only
        rw [Sem.run_bind]
        unfold Instr.alloc
        rw [Sem.run_bind, run_tz hz]
        simp only [Result.andThen_ok]
        rfl
      · unfold layV
        rw [hop]
        simp only [VRel]
        exact ⟨w.heap.size, 0, upd_same .., ⟨_, hBσ, rfl⟩, rfl⟩
    · rename_i t hop
      obtain ⟨p, hpp, rfl⟩ := map_some hB
      refine place (.map #[] 0) (.map (some w.heap.size)) { w with heap := w.heap.push (.map #[] 0) } rfl ⟨rfl, rfl⟩ ?_ (by rw [hop]; intro c h; cases h)
        ⟨#[], 0, by simp, ⟨⟨[], List.Perm.refl _, rfl, by simp [VRels]⟩, by simp, by simp, by simp, by simp⟩⟩ ?_
      · unfold execOp
        rw [hop]
        rfl
      · unfold layV
        rw [hop]
        simp only [VRel]
        exact ⟨w.heap.size, 0, upd_same .., ⟨_, hBσ, rfl⟩, rfl⟩
    · cases hB
def left (ops : Array Oper) (listed : Array Bool) : List Nat := (List.range ops.size).filter fun j => !(listed.getD j true)
theorem mem_left {ops : Array Oper} {listed : Array Bool} {j : Nat} : j ∈ left ops listed ↔ j < ops.size ∧ listed.getD j true = false := by
 simp [left]
theorem left_split {ops : Array Oper} {listed : Array Bool} {i : Nat} (hi : i ∈ left ops listed) :
  ∃ pre post, left ops listed = pre ++ i :: post ∧ (∀ p ∈ pre, p < i) ∧ left ops (listed.setIfInBounds i true) = pre ++ post ∧ (left ops listed).filter (· != i) = pre ++ post := by
 have hs : (left ops listed).Pairwise (· < ·) := List.Pairwise.filter _ List.pairwise_lt_range
 obtain ⟨pre, post, he⟩ := List.append_of_mem hi
 rw [he] at hs
 rw [List.pairwise_append, List.pairwise_cons] at hs
 obtain ⟨_, ⟨hpost, _⟩, hcross⟩ := hs
 have hpre : ∀ p ∈ pre, p < i := fun p hp => hcross p hp i (by simp)
 have hf : (left ops listed).filter (· != i) = pre ++ post := by
  rw [he, List.filter_append, List.filter_cons]
  have h1 : pre.filter (· != i) = pre := List.filter_eq_self.2 fun p hp => by have := hpre p hp; simp; omega
  have h2 : post.filter (· != i) = post := List.filter_eq_self.2 fun p hp => by have := hpost p hp; simp; omega
  simp [h1, h2]
 refine ⟨pre, post, he, hpre, ?_, hf⟩
 rw [← hf]
 unfold left
 rw [List.filter_filter]
 refine List.filter_congr fun j hj => ?_
 have hj : j < ops.size := by simpa using hj
 by_cases h : j = i
 ·subst h
  have : listed.getD j true = false := (mem_left.1 hi).2
  have hlt : j < listed.size := by
   rcases Nat.lt_or_ge j listed.size with h | h
   ·exact h
   ·simp [Array.getD_eq_getD_getElem?, h] at this
  simp [Array.getD_eq_getD_getElem?, hlt]
 ·rw [getD_set_ne true (Ne.symm h)]
  simp [h]
theorem drawOkL_spec {mask lm : Nat} {ops : Array Oper} (h : drawOkL mask lm ops = true) {i : Nat} {oi : Oper} (hi : ops[i]? = some oi) :
  (∀ e ∈ oi.after, Region.binds .any e = true → e.on < i) ∧ ∀ p op, p < i → ops[p]? = some op →
   (((befs ops.toList []).getD i 0).testBit p = true ∨ (mask.testBit i = false ∧ mask.testBit p = false ∧ comm ops op oi = true) ∨ (mask.testBit i = true ∧ mask.testBit p = false ∧ (free op || lm.testBit p) = true ∧ op.apart ops oi = true)) ∧
   (mask.testBit p = true ∨ (okind op == .store && okind oi == .lay) = false) := by
 unfold drawOkL at h
 simp only [List.all_eq_true, List.mem_range] at h
 have := h i (Array.getElem?_eq_some_iff.1 hi).1
 rw [hi] at this
 simp only at this
 rw [Bool.and_eq_true] at this
 obtain ⟨h1, h2⟩ := this
 rw [List.all_eq_true] at h1 h2
 refine ⟨fun e he hb => ?_, fun p op hp ho => ?_⟩
 ·have := h1 e (by simpa using he)
  rw [hb] at this
  simpa using this
 ·have := h2 p (by simpa using hp)
  rw [ho, Bool.and_eq_true, Bool.or_eq_true, Bool.or_eq_true] at this
  refine ⟨this.1.imp_right fun h => ?_, this.2.imp_right fun h => by
   have h : (!(okind op == .store && okind oi == .lay)) = true := h
   rwa [Bool.not_eq_true'] at h⟩
  rw [Bool.and_eq_true, Bool.not_eq_true'] at h
  obtain ⟨g1, g2⟩ := h
  have g2 : (!mask.testBit i && comm ops op oi || (mask.testBit i && ((free op || lm.testBit p) && op.apart ops oi))) = true := g2
  rw [Bool.or_eq_true, Bool.and_eq_true, Bool.and_eq_true, Bool.and_eq_true, Bool.not_eq_true'] at g2
  exact g2.imp (fun g => ⟨g.1, g1, g.2⟩) fun g => ⟨g.1, g1, g.2.1, g.2.2⟩
theorem drawOk_F {mask : Nat} {ops : Array Oper} (h : drawOk mask ops = true) : drawOkF mask ops = true := by
 unfold drawOk at h
 unfold drawOkF drawOkL
 simp only [List.all_eq_true, List.mem_range] at h ⊢
 intro i hi
 have := h i hi
 revert this
 cases ops[i]? with
 | none => exact fun _ => rfl
 | some oi =>
  simp only
  intro h
  rw [Bool.and_eq_true] at h ⊢
  refine ⟨h.1, ?_⟩
  have h2 := h.2
  rw [List.all_eq_true] at h2 ⊢
  intro p hp
  have := h2 p hp
  revert this
  cases ops[p]? with
  | none => cases mask.testBit i <;> cases mask.testBit p <;> simp
  | some op => cases mask.testBit i <;> cases mask.testBit p <;> simp <;> (intros; simp_all)
theorem layB_free {o : Oper} (h : free o = true) : layB P o = none := by
 unfold free at h
 unfold layB
 split at h <;> first | (rename_i e; rw [e]) | cases h
theorem DStep.free {ops : Array Oper} {al : Nat → Option Nat} {Hs : List (List Blk)} {p : Nat} {σ σ1 : St} {op : Oper} (hop : ops[p]? = some op) (hf : Vm.free op = true) (h : DStep P ops al Hs p σ σ1) :
  ∃ v, putA σ op.dst v σ.H = some σ1 ∧ ∀ (τ : St) Hs', (∀ d, d ∈ op.looksAt ops → get σ.vars d = get τ.vars d) → Res P ops al Hs' p op τ v τ.H := by
 obtain ⟨o, v, H', e, r, hp⟩ := h
 rw [hop] at e; cases e
 have hk : okind op = .plain := by
  unfold Vm.free at hf
  unfold okind
  split at hf <;> first | (rename_i e; rw [e]) | cases hf
 cases r with
 | plain hk' hw ha h0 =>
  rename_i m
  refine ⟨v, hp, fun τ Hs' hl => ?_⟩
  obtain ⟨he, hw'⟩ := looks_eval hl
  have key : ∀ H, aop P m H τ.eval op = some (.val v H) := fun H => by
   rw [← aop_congr he]
   exact free_heap hf ha
  exact .plain hk (hw' ▸ hw) (key _) fun H _ => key H
 | skip hw =>
  refine ⟨_, hp, fun τ Hs' hl => ?_⟩
  exact .skip ((looks_eval hl).2 ▸ hw)
 | lay hk' => rw [hk] at hk'; cases hk'
 | eff hk' => rw [hk] at hk'; cases hk'
 | store hk' => rw [hk] at hk'; cases hk'
theorem AStep.over {ops : Array Oper} {i : Nat} {σ σ1 σ2 : St} {oi : Oper} (hoi : ops[i]? = some oi) (hl : ∀ d, d ∈ oi.looksAt ops → get σ1.vars d = get σ.vars d) (hH : σ1.H = σ.H) (hn : σ1.n = σ.n) (h : AStep P ops i σ1 σ2) :
  ∃ v τ, AStep P ops i σ τ ∧ putA σ oi.dst v σ2.H = some τ ∧ putA σ1 oi.dst v σ2.H = some σ2 := by
 obtain ⟨he, hw'⟩ := looks_eval hl
 cases h with
 | val ho hw ha hd hp =>
  rename_i m o v H'
  rw [hoi] at ho; cases ho
  obtain ⟨τ, hτ⟩ := putA_n (v' := v) (H' := H') hn hp
  have e := (putA_H hp).1
  rw [aop_congr he, hH] at ha
  exact ⟨v, τ, .val hoi (hw' ▸ hw) ha (hH ▸ hd) hτ, by rw [e]; exact hτ, by rw [e]; exact hp⟩
 | skip ho hw hp =>
  rename_i o
  rw [hoi] at ho; cases ho
  obtain ⟨τ, hτ⟩ := putA_n (v' := .lit undef) (H' := σ.H) hn hp
  have e := (putA_H hp).1
  rw [hH] at e
  exact ⟨_, τ, .skip hoi (hw' ▸ hw) hτ, by rw [e]; exact hτ, by rw [e, ← hH]; exact hp⟩
 | call ho hw ha hcal hc hd hp =>
  rename_i m o f args v H'
  rw [hoi] at ho; cases ho
  obtain ⟨τ, hτ⟩ := putA_n (v' := v) (H' := H') hn hp
  have e := (putA_H hp).1
  rw [aop_congr he, hH] at ha
  exact ⟨v, τ, .call hoi (hw' ▸ hw) ha hcal (hH ▸ hc) (hH ▸ hd) hτ, by rw [e]; exact hτ, by rw [e]; exact hp⟩
 | round ho hw ha hc hd hp =>
  rename_i m o id args v H'
  rw [hoi] at ho; cases ho
  obtain ⟨τ, hτ⟩ := putA_n (v' := v) (H' := H') hn hp
  have e := (putA_H hp).1
  rw [aop_congr he, hH] at ha
  exact ⟨v, τ, .round hoi (hw' ▸ hw) ha (hH ▸ hc) (hH ▸ hd) hτ, by rw [e]; exact hτ, by rw [e]; exact hp⟩
theorem swap_core {ops : Array Oper} {p i : Nat} {σ σ1 σ2 : St} {op oi : Oper} {vp : AV} (hoi : ops[i]? = some oi) (hap : op.apart ops oi = true)
  (p1 : putA σ op.dst vp σ.H = some σ1) (h2 : AStep P ops i σ1 σ2) : σ1.H = σ.H ∧ ∃ τ τ2, AStep P ops i σ τ ∧ τ.H = σ2.H ∧ (∀ d, d ∈ op.looksAt ops → get σ.vars d = get τ.vars d) ∧ putA τ op.dst vp τ.H = some τ2 ∧ σ2.Eqv τ2 := by
 obtain ⟨a1, a2, a3⟩ := Oper.apart_spec hap
 obtain ⟨hH1, hn1, hd1, hg1⟩ := putA_H p1
 have look_i : ∀ d, d ∈ oi.looksAt ops → get σ1.vars d = get σ.vars d := fun d hd => hg1 d fun d' hd' e => a1 d' hd' (e ▸ hd)
 obtain ⟨vi, τ, hs, pτ, p2⟩ := h2.over hoi look_i hH1 hn1
 obtain ⟨hH2, hn2, hd2, hg2⟩ := putA_H p2
 obtain ⟨hHτ, hnτ, hdτ, hgτ⟩ := putA_H pτ
 have look_p : ∀ d, d ∈ op.looksAt ops → get σ.vars d = get τ.vars d := fun d hd => (hgτ d fun d' hd' e => a3 d' hd' (e ▸ hd)).symm
 obtain ⟨τ2, pτ2⟩ := putA_n (v' := vp) (H' := τ.H) hnτ.symm p1
 obtain ⟨hHτ2, hnτ2, hdτ2, hgτ2⟩ := putA_H pτ2
 refine ⟨hH1, τ, τ2, hs, hHτ, look_p, pτ2, ⟨?_, ?_, ?_, fun k => ?_⟩⟩
 ·rw [hn2, hn1, hnτ2, hnτ]
 ·rw [hHτ2, hHτ]
 ·rw [hd2, hd1, hdτ2, hdτ]
 ·by_cases hk1 : op.dst = some k
  ·have hk2 : ∀ d, oi.dst = some d → d ≠ k := fun d hd e => a2 k hk1 (e ▸ hd)
   rw [hg2 k hk2]
   rw [hk1] at p1 pτ2
   rw [putA_get p1, putA_get pτ2]
  ·have hk1' : ∀ d, op.dst = some d → d ≠ k := fun d hd e => hk1 (e ▸ hd)
   rw [hgτ2 k hk1']
   by_cases hk2 : oi.dst = some k
   ·rw [hk2] at p2 pτ
    rw [putA_get p2, putA_get pτ]
   ·have hk2' : ∀ d, oi.dst = some d → d ≠ k := fun d hd e => hk2 (e ▸ hd)
    rw [hg2 k hk2', hg1 k hk1', hgτ k hk2']
theorem DPath.firstB {mask : Nat} {ops : Array Oper} {al : Nat → Option Nat} {X : Lates} {i : Nat} {oi : Oper} {post : List Nat} (hoi : ops[i]? = some oi) (hmi : mask.testBit i = true) : ∀ {pre : List Nat} {Hs : List (List Blk)} {σ σ' : St},
  DPath P ops al mask X Hs (pre ++ i :: post) σ σ' → (∀ p ∈ pre, mask.testBit p = false ∧ ∃ op, ops[p]? = some op ∧ (Vm.free op = true ∨ X.lm.testBit p = true ∧ X.need i = true) ∧ op.apart ops oi = true) →
  ∃ τ Hs' σ'', AStep P ops i σ τ ∧ (∀ j ∈ post, ∀ id, al j = some id → τ.H[id]? = σ.H[id]?) ∧ Good Hs' τ.H ∧ (X.need i = true → X.J τ.H ∧ ∀ H ∈ Hs', X.J H) ∧ DPath P ops al mask X Hs' (pre ++ post) τ σ'' ∧ σ'.Eqv σ''
 | [], Hs, σ, σ', h, _ => by
  cases h with
  | cons hm => rw [hmi] at hm; cases hm
  | barrier hm hst hf hg hj t => exact ⟨_, _, σ', hst, hf, hg, hj, t, St.Eqv.refl _⟩
 | p :: pre, Hs, σ, σ', h, hc => by
  obtain ⟨hmp, op, hop, hfr, hap⟩ := hc p (by simp)
  rw [List.cons_append] at h
  cases h with
  | barrier hm => rw [hmp] at hm; cases hm
  | cons hm h hl t =>
   rename_i σ1
   obtain ⟨τ1, Hs', σ'', hst, hf, hg, hj, ht, he⟩ := DPath.firstB hoi hmi t fun q hq => hc q (by simp [hq])
   have key : ∃ vp, putA σ op.dst vp σ.H = some σ1 ∧ ∀ τ : St, τ.H = τ1.H → (∀ d, d ∈ op.looksAt ops → get σ.vars d = get τ.vars d) → Res P ops al Hs' p op τ vp τ.H := by
    rcases hfr with hfr | ⟨hlm, hnd⟩
    ·obtain ⟨vp, p1, hr⟩ := h.free hop hfr
     exact ⟨vp, p1, fun τ _ hlk => hr τ Hs' hlk⟩
    ·obtain ⟨o, v, m, ho, hk, hw, hp, h0⟩ := hl hlm
     rw [hop] at ho; cases ho
     obtain ⟨j1, j2⟩ := hj hnd
     refine ⟨v, hp, fun τ hH hlk => ?_⟩
     obtain ⟨he', hw'⟩ := looks_eval hlk
     exact .plain hk (hw' ▸ hw) (by rw [← aop_congr he']; exact h0 _ (hH ▸ j1)) fun H hH' => by rw [← aop_congr he']; exact h0 _ (j2 H hH')
   obtain ⟨vp, p1, hr⟩ := key
   obtain ⟨hH1, τ, τ2, hst', hHτ, hlk, hp', he2⟩ := swap_core (p := p) hoi hap p1 hst
   have hd' : DStep P ops al Hs' p τ τ2 := ⟨op, vp, τ.H, hop, hr τ hHτ hlk, hp'⟩
   obtain ⟨σ3, ht3, he3⟩ := ht.eqv he2
   refine ⟨τ, Hs', σ3, hst', fun j hj' id hal => by rw [hHτ, ← hH1]; exact hf j hj' id hal, by rw [hHτ]; exact hg, by rw [hHτ]; exact hj, .cons hmp hd' (fun hb => (hl hb).same op hop hlk hd' fun d hd => ?_) ht3, he.trans he3⟩
   rw [hd] at p1 hp'
   rw [putA_get p1, putA_get hp']
theorem drawOk_spec {mask : Nat} {ops : Array Oper} (h : drawOk mask ops = true) {i : Nat} {oi : Oper} (hi : ops[i]? = some oi) :
  (∀ e ∈ oi.after, Region.binds .any e = true → e.on < i) ∧ ∀ p op, p < i → ops[p]? = some op →
   (((befs ops.toList []).getD i 0).testBit p = true ∨ (mask.testBit i = false ∧ mask.testBit p = false ∧ comm ops op oi = true)) ∧
   (mask.testBit p = true ∨ (okind op == .store && okind oi == .lay) = false) := by
 unfold drawOk at h
 simp only [List.all_eq_true, List.mem_range] at h
 have := h i (Array.getElem?_eq_some_iff.1 hi).1
 rw [hi] at this
 simp only at this
 rw [Bool.and_eq_true] at this
 obtain ⟨h1, h2⟩ := this
 rw [List.all_eq_true] at h1 h2
 refine ⟨fun e he hb => ?_, fun p op hp ho => ?_⟩
 ·have := h1 e (by simpa using he)
  rw [hb] at this
  simpa using this
 ·have := h2 p (by simpa using hp)
  rw [ho, Bool.and_eq_true, Bool.or_eq_true, Bool.or_eq_true] at this
  refine ⟨this.1.imp_right fun h => ?_, this.2.imp_right fun h => by
   have h : (!(okind op == .store && okind oi == .lay)) = true := h
   rwa [Bool.not_eq_true'] at h⟩
  rw [Bool.and_eq_true, Bool.and_eq_true, Bool.not_eq_true', Bool.not_eq_true'] at h
  exact h
theorem draw_sound [Outer] {mask : Nat} {ops : Array Oper} {al : Nat → Option Nat} {X : Lates} (hX : X.need = needL X.lm ops) (hd : drawOkL mask X.lm ops = true) (hlay : ∀ j o, X.lm.testBit j = true → ops[j]? = some o → layB P o = none) {n0 : Nat} {S0 : Sit} (hS0 : n0 = S0.H.length)
    (hal : ∀ j id, al j = some id → n0 ≤ id) (hinj : ∀ j k id, al j = some id → al k = some id → j = k) {cro : Option Nat} {σf : St} :
    ∀ (fuel : Nat) (listed : Array Bool) (Hs : List (List Blk)) (σ σ' : St) (ι : Nat → Option (Nat × Nat)) (a : Act) (w : World), listed.size = ops.size → Closed ops listed →
      DPath P ops al mask X Hs (left ops listed) σ σ' → σ'.Eqv σf → Good Hs σ.H → SRel σ ι a w → Pend P ops al (left ops listed) ι σ.H → (∀ j id, al j = some id → notRow σ.H id) →
      Ev S0 ⟨σ.H, ι, w⟩ → Non S0 ⟨σ.H, ι, w⟩ → (left ops listed).length ≤ fuel →
      wpAnyIn (Fr cro) 0 P .any ops (Post S0 .normal σf) fuel listed a w := by
  have empty : ∀ (listed : Array Bool) (Hs : List (List Blk)) (σ σ' : St) (ι : Nat → Option (Nat × Nat)) (a : Act) (w : World), left ops listed = [] → DPath P ops al mask X Hs (left ops listed) σ σ' → σ'.Eqv σf → SRel σ ι a w →
      Ev S0 ⟨σ.H, ι, w⟩ → Non S0 ⟨σ.H, ι, w⟩ → Region.ready .any ops listed = [] ∧ Post S0 .normal σf .normal a w := by
    intro listed Hs σ σ' ι a w hl hp he hs hev hnon
    rw [hl] at hp
    cases hp
    refine ⟨?_, ι, trivial, hs.eqv he, by rw [← he.H]; exact hev, by rw [← he.H]; exact hnon⟩
    refine List.eq_nil_iff_forall_not_mem.2 fun j hj => ?_
    obtain ⟨h0, o, ho, _⟩ := mem_ready.1 hj
    have : j ∈ left ops listed := mem_left.2 ⟨(Array.getElem?_eq_some_iff.1 ho).1, h0⟩
    rw [hl] at this
    cases this
  intro fuel
  induction fuel with
  | zero =>
    intro listed Hs σ σ' ι a w hsz hcl hp he hle hs hpend hbox hev hnon hlen
    exact empty listed Hs σ σ' ι a w (by simpa using hlen) hp he hs hev hnon
  | succ fuel ih =>
    intro listed Hs σ σ' ι a w hsz hcl hp he hle hs hpend hbox hev hnon hlen
    have conv : ∀ j, j < ops.size → listed.getD j false = listed.getD j true := fun j hj => by
      simp [Array.getD_eq_getD_getElem?, hsz ▸ hj]
    constructor
    · intro hready
      refine (empty listed Hs σ σ' ι a w ?_ hp he hs hev hnon).2
      cases hl : left ops listed with
      | nil => rfl
      | cons i rest =>
        exfalso
        have himem : i ∈ left ops listed := by rw [hl]; simp
        obtain ⟨hi1, hi2⟩ := mem_left.1 himem
        obtain ⟨oi, hoi⟩ : ∃ oi, ops[i]? = some oi := ⟨ops[i], by simp [hi1]⟩
        obtain ⟨pre, post, hsp, hpre, _⟩ := left_split himem
        have hpre0 : pre = [] := by
          rw [hl] at hsp
          cases pre with
          | nil => rfl
          | cons p pre =>
            simp only [List.cons_append, List.cons.injEq] at hsp
            have := hpre p (by simp)
            omega
        have : i ∈ Region.ready .any ops listed := by
          refine mem_ready.2 ⟨hi2, oi, hoi, fun e hemem hb => ?_⟩
          have hlt := (drawOkL_spec hd hoi).1 e hemem hb
          rw [conv _ (by omega)]
          cases hg : listed.getD e.on true with
          | true => rfl
          | false =>
            have hm : e.on ∈ left ops listed := mem_left.2 ⟨by omega, hg⟩
            rw [hsp, hpre0] at hm
            have hs' : (left ops listed).Pairwise (· < ·) := List.Pairwise.filter _ List.pairwise_lt_range
            rw [hsp, hpre0, List.nil_append, List.pairwise_cons] at hs'
            rcases List.mem_cons.1 hm with h | h
            · omega
            · have := hs'.1 _ h; omega
        rw [hready] at this
        cases this
    · intro i hi
      obtain ⟨hi0, oi, hoi, hafter⟩ := mem_ready.1 hi
      have hilt := (Array.getElem?_eq_some_iff.1 hoi).1
      have himem : i ∈ left ops listed := mem_left.2 ⟨hilt, hi0⟩
      obtain ⟨pre, post, hsp, hpre, hleft, hfil⟩ := left_split himem
      obtain ⟨hback, hcomm⟩ := drawOkL_spec hd hoi
      have getop : ∀ p, p < ops.size → ∃ op, ops[p]? = some op := fun p hp => ⟨ops[p]'hp, by simp [hp]⟩
      have hc0 : ∀ p ∈ left ops listed, p < i → (mask.testBit i = false ∧ mask.testBit p = false ∧ ∃ op, ops[p]? = some op ∧ comm ops op oi = true) ∨ (mask.testBit i = true ∧ mask.testBit p = false ∧ ∃ op, ops[p]? = some op ∧ (Vm.free op = true ∨ X.lm.testBit p = true ∧ X.need i = true) ∧ op.apart ops oi = true) := by
        intro p hpm hplt
        obtain ⟨op, hop⟩ := getop p (by omega)
        have hnb : ¬ ((befs ops.toList []).getD i 0).testBit p = true := fun hb => by
          have h1 := ready_bef hoi hback hcl hafter hb
          have h2 := (mem_left.1 hpm).2
          rw [conv p (by omega), h2] at h1
          cases h1
        have := (hcomm p op hplt hop).1.resolve_left hnb
        refine this.imp (fun h => ⟨h.1, h.2.1, op, hop, h.2.2⟩) fun h => ⟨h.1, h.2.1, op, hop, ?_, h.2.2.2⟩
        have h3 := h.2.2.1
        rw [Bool.or_eq_true] at h3
        refine h3.imp id fun h3 => ⟨h3, ?_⟩
        rw [hX]
        unfold needL
        rw [List.any_eq_true]
        exact ⟨p, List.mem_range.2 hplt, by rw [h3, (Bool.not_eq_true _).mp hnb]; rfl⟩
      have hsz' : (listed.setIfInBounds i true).size = ops.size := by simpa using hsz
      have hcl' : Closed ops (listed.setIfInBounds i true) := by
        intro j hj hlj p hb
        by_cases hpi : p = i
        · subst hpi; simp [Array.getD_eq_getD_getElem?, hsz ▸ hilt]
        · rw [getD_set_ne false (Ne.symm hpi)]
          by_cases hji : j = i
          · subst hji; exact ready_bef hoi hback hcl hafter hb
          · rw [getD_set_ne false (Ne.symm hji)] at hlj
            exact hcl j hj hlj p hb
      have hlen' : (left ops (listed.setIfInBounds i true)).length ≤ fuel := by
        rw [hleft]
        rw [hsp] at hlen
        simp at hlen ⊢
        omega
      by_cases hks : mask.testBit i = true
      · -- a barrier stands first
        have hfree : ∀ p ∈ pre, mask.testBit p = false ∧ ∃ op, ops[p]? = some op ∧ (Vm.free op = true ∨ X.lm.testBit p = true ∧ X.need i = true) ∧ op.apart ops oi = true := fun p hpm => by
          rcases hc0 p (by rw [hsp]; simp [hpm]) (hpre p hpm) with h | h
          · rw [hks] at h; cases h.1
          · exact h.2
        rw [hsp] at hp
        obtain ⟨τ, Hs', σ'', hst, hf, hg, _, hrest, heq⟩ := hp.firstB hoi hks hfree
        refine hst.sound hs fun ι' a' w' hs' hev' hnon' => ?_
        refine ih _ Hs' τ σ'' ι' a' w' hsz' hcl' (hleft ▸ hrest) (heq.symm.trans he) hg hs' ?_ (fun j id h => (hev'.ptr id (hbox j id h)).1) (hev.trans hev') (hnon.trans hev hnon') hlen'
        intro j hj o' B id ho' hB hal'
        rw [hleft] at hj
        rcases List.mem_append.1 hj with hjp | hjp
        · obtain ⟨_, op, hop, hfr, _⟩ := hfree j hjp
          rw [hop] at ho'; cases ho'
          rcases hfr with hfr | ⟨hlm, _⟩
          · rw [layB_free hfr] at hB; cases hB
          · rw [hlay j _ hlm hop] at hB; cases hB
        · have hjL : j ∈ left ops listed := by rw [hsp]; simp [hjp]
          obtain ⟨h1, h2⟩ := hpend j hjL o' B id ho' hB hal'
          exact ⟨hnon' id (hbox j id hal') h1, by rw [hf j hjp id hal']; exact h2⟩
      · have hks : mask.testBit i = false := by simpa using hks
        have hc0 : ∀ p ∈ left ops listed, p < i → mask.testBit i = false ∧ mask.testBit p = false ∧ ∃ op, ops[p]? = some op ∧ comm ops op oi = true := fun p h1 h2 => (hc0 p h1 h2).resolve_right fun h => by rw [hks] at h; cases h.1
        have hc : ∀ p ∈ pre, mask.testBit p = false ∧ ∃ op, ops[p]? = some op ∧ comm ops op oi = true := fun p hpm => (hc0 p (by rw [hsp]; simp [hpm]) (hpre p hpm)).2
        rw [hsp] at hp
        obtain ⟨τ, σ'', hst, hrest, heq⟩ := hp.first hoi hks hc hle
        have hgτ : Good Hs τ.H := by
          obtain ⟨o, v, H', _, hr, hpp⟩ := hst
          rw [(putA_H hpp).1]; exact hr.good hle
        refine hst.sound hal hinj hbox himem (fun o ho hk j hj o' B ho' hB => ?_) hs hpend fun ι' a' w' hs' hev' hnon' hpend' => ?_
        · rw [hoi] at ho; cases ho
          have hkj := layB_kind hB
          rcases Nat.lt_trichotomy j i with h | h | h
          · obtain ⟨_, _, op, hop, hcc⟩ := hc0 j hj h
            rw [hop] at ho'; cases ho'
            unfold comm at hcc
            rw [hkj, hk] at hcc
            simp at hcc
          · subst h; rw [hoi] at ho'; cases ho'; rw [hk] at hkj; cases hkj
          · have := ((drawOkL_spec hd ho').2 i oi h hoi).2
            rw [hks, hk, hkj] at this
            simp at this
        · refine ih _ Hs τ σ'' ι' a' w' hsz' hcl' (hleft ▸ hrest) (heq.symm.trans he) hgτ hs' (by rw [hleft, ← hfil]; exact hpend') (fun j id h => (hev'.ptr id (hbox j id h)).1) (hev.trans hev') ?_ hlen'
          intro id hn hi0
          exact hnon' id (by rw [hS0]; exact hn.lt) (hev.ptr id hn).1 (hnon id hn hi0)
def hoisted (P : Program) (ops : Array Oper) : List Blk := ops.toList.map fun o => (layB P o).getD .defd
def alAt (P : Program) (n : Nat) (ops : Array Oper) : Nat → Option Nat := fun j => match ops[j]? with
 | some o => match layB P o with
  | some _ => some (n + j)
  | none => none
 | none => none
theorem alAt_spec {n : Nat} {ops : Array Oper} {j id : Nat} (h : alAt P n ops j = some id) : id = n + j ∧ j < ops.size := by
 unfold alAt at h
 split at h
 ·rename_i o ho
  split at h
  ·cases h; exact ⟨rfl, (Array.getElem?_eq_some_iff.1 ho).1⟩
  ·cases h
 ·cases h
def noLates : Lates := ⟨0, fun _ => True, fun _ => false⟩
theorem Run.region_drawL {X : Lates} {ro : Option Nat} {id : Nat} {ops : Array Oper} {σ σ' : St} {mask : Nat} {Hs : List (List Blk)} (hm : P.follows .mixedOrders = true) (hX : X.need = needL X.lm ops) (hd : drawOkL mask X.lm ops = true) (hlay : ∀ j o, X.lm.testBit j = true → ops[j]? = some o → layB P o = none) (hHs : (σ.H ++ hoisted P ops) ∈ Hs)
  (h : DPath P ops (alAt P σ.H.length ops) mask X Hs (List.range ops.size) { σ with H := σ.H ++ hoisted P ops } σ') : Run P ro (.region id ops true) σ .normal σ' := by
 intro O ι a w cro hro hs
 refine wpIn_region_any hm ?_
 have hleft : left ops (Array.replicate ops.size false) = List.range ops.size := by
  unfold left
  refine List.filter_eq_self.2 fun j hj => ?_
  have : j < ops.size := by simpa using hj
  simp [Array.getD_eq_getD_getElem?, this]
 have hR : Rel ⟨σ.H, ι, w⟩ := hs.rel
 have hR1 : Rel ⟨σ.H ++ hoisted P ops, ι, { w with drawn := w.drawn + 1 }⟩ := Rel.fresh hR fun _ _ => rfl
 have hev : Ev ⟨σ.H, ι, w⟩ ⟨σ.H ++ hoisted P ops, ι, { w with drawn := w.drawn + 1 }⟩ := Ev.fresh hR fun _ _ => rfl
 have hat : ∀ j, j < ops.size → (σ.H ++ hoisted P ops)[σ.H.length + j]? = (ops[j]?).map fun o => (layB P o).getD .defd := by
  intro j hj
  rw [List.getElem?_append_right (by omega)]
  simp [hoisted]
 refine draw_sound hX hd hlay (n0 := σ.H.length) rfl (fun j id' hj => by have := alAt_spec hj; omega) (fun j k id' hj hk => by have := alAt_spec hj; have := alAt_spec hk; omega)
  ops.size _ Hs { σ with H := σ.H ++ hoisted P ops } σ' ι a _ (by simp) ?_ (hleft ▸ h) (St.Eqv.refl _) ⟨_, hHs, HLe.refl _⟩ ⟨hR1, hs.size, hs.vars.ev hev, hs.defs.ev hev fun id' hid => ?_⟩ ?_ ?_ hev (Non.same) (by rw [hleft]; simp)
 ·intro j hj hl
  have : j < ops.size := hj
  simp [Array.getD_eq_getD_getElem?, this] at hl
 ·exact HLe.append _ _ id' _ hid rfl
 ·intro j hj o B id' ho hB hal
  obtain ⟨rfl, hlt⟩ := alAt_spec hal
  refine ⟨?_, ?_⟩
  ·cases hi : ι (σ.H.length + j) with
   | none => rfl
   | some p => have h9 : σ.H.length + j < σ.H.length := hR.lt hi; omega
  ·have := hat j hlt
   rw [ho] at this
   simpa [hB] using this
 ·intro j id' hj
  obtain ⟨rfl, hlt⟩ := alAt_spec hj
  have := hat j hlt
  rw [show ops[j]? = some ops[j] by simp [hlt]] at this
  refine ⟨_, this, ?_⟩
  show ((layB P ops[j]).getD .defd).isRow = false
  cases hB : layB P ops[j] with
  | none => rfl
  | some B => exact layB_row hB
theorem Run.region_draw {ro : Option Nat} {id : Nat} {ops : Array Oper} {σ σ' : St} {mask : Nat} {Hs : List (List Blk)} (hm : P.follows .mixedOrders = true) (hd : drawOkF mask ops = true) (hHs : (σ.H ++ hoisted P ops) ∈ Hs)
  (h : DPath P ops (alAt P σ.H.length ops) mask noLates Hs (List.range ops.size) { σ with H := σ.H ++ hoisted P ops } σ') : Run P ro (.region id ops true) σ .normal σ' :=
 Run.region_drawL (X := noLates) (mask := mask) (Hs := Hs) hm (by
  funext i
  show false = needL 0 ops i
  unfold needL
  simp) (show drawOkL mask 0 ops = true from hd) (fun j o h _ => by
  have h : Nat.testBit 0 j = true := h
  rw [Nat.zero_testBit] at h; cases h) hHs h
end Go.Vm

namespace Go.Vm
variable {P : Program}
noncomputable def loop0 (σ : St) (ps : Array Tmp) (assign body : Code) (d : Nat) : ALoop := { state := .ready, pending := none, n := σ.n, vars := σ.vars, params := ps, assign, body, defers := d }
def jumpTo : Option Code → Option AExit
 | none => some .normal
 | some .ret => some .ret
 | some (.exit i) => some (.exit i)
 | _ => none
theorem LRel.same [Outer] {S S' : Sit} {l : ALoop} {L : Loop} (x : LRel S l L) (h : Ev S S') (st : LoopState) (j : Option Code) : LRel S' { l with state := st, pending := j } { L with state := st, pending := j } := by
 have y := x.ev h
 exact ⟨rfl, rfl, y.params, y.assign, y.body, y.size, y.vars, y.defers⟩
theorem write_loop [Outer] {S : Sit} (hR : Rel S) {id b wm : Nat} {l : ALoop} {L : Loop} (hi : S.ι id = some (b, wm)) (hB : S.H[id]? = some (.loop l)) (hL : S.w.heap[b]? = some (.loop L)) (hLR : LRel S l L) (st : LoopState) (j : Option Code) :
  Rel ⟨S.H.set id (.loop { l with state := st, pending := j }), S.ι, S.w.putObj b (.loop { L with state := st, pending := j })⟩ ∧
  Ev S ⟨S.H.set id (.loop { l with state := st, pending := j }), S.ι, S.w.putObj b (.loop { L with state := st, pending := j })⟩ := by
 have hev := Ev.write hR (w' := S.w.putObj b (.loop { L with state := st, pending := j })) (B' := .loop { l with state := st, pending := j }) hi hB rfl rfl put_other
 refine ⟨Rel.write hR hi hB rfl rfl put_other ⟨{ L with state := st, pending := j }, World.putObj_heap_same (Array.getElem?_eq_some_iff.1 hL).1, hLR.same hev st j⟩, hev⟩
theorem get_loop [Outer] {S : Sit} (hR : Rel S) {id b wm : Nat} {l : ALoop} (hi : S.ι id = some (b, wm)) (hB : S.H[id]? = some (.loop l)) : ∃ L, S.w.heap[b]? = some (.loop L) ∧ LRel S l L := by
 obtain ⟨B, hB', hr⟩ := hR.blk id b wm hi
 rw [hB] at hB'; cases hB'
 exact hr
theorem keepsD_set {H : List Blk} {id : Nat} {l : ALoop} {B : Blk} (hB : H[id]? = some (.loop l)) : keepsD H (H.set id B) := by
 intro j hj
 rw [List.getElem?_set_ne]
 ·exact hj
 ·rintro rfl; rw [hB] at hj; cases hj
theorem keepsD.trans {H H' H'' : List Blk} (h : keepsD H H') (h' : keepsD H' H'') : keepsD H H'' := fun id x => h' id (h id x)
theorem keepsD_append (H H2 : List Blk) : keepsD H (H ++ H2) := fun id x => by
 rw [List.getElem?_append_left (List.getElem?_eq_some_iff.1 x).1]; exact x
section
variable {g : Operand} {ps : Array Tmp} {assign body : Code} {σ : St} {f : FuncId} {first captured : List AV} {v fv : AV} {H2 : List Blk} {l' : ALoop} {e : AExit}
theorem range_end [Outer] {c : Value} {cro : Option Nat} {S0 : Sit} {idl : Nat} {ι' : Nat → Option (Nat × Nat)} {w3 : World} {a' : Act} {defs : List Nat} {b wm : Nat}
  (hR : Rel ⟨H2, ι', w3⟩) (hi : ι' idl = some (b, wm)) (hl : H2[idl]? = some (.loop l')) (hb : l'.state ≠ .busy) (hj : jumpTo l'.pending = some e)
  (hsz : a'.tmps.size = σ.n) (hvars : VarsRel ⟨H2, ι', w3⟩ σ.vars a'.tmps) (hdefs : DefRel ⟨H2, ι', w3⟩ defs a'.defers) (hev : Ev S0 ⟨H2, ι', w3⟩) (hnon : Non S0 ⟨H2, ι', w3⟩) :
  rangePost (Fr cro) 0 P b (Post S0 e { σ with H := H2.set idl (.loop { l' with state := .exhausted }), defs := defs }) a' (.returned c) w3 := by
 obtain ⟨L, hL, hLR⟩ := get_loop hR hi hl
 obtain ⟨hR4, hev4⟩ := write_loop hR hi hl hL hLR .exhausted l'.pending
 have hLp := hLR.pending
 have hLe : ({ L with state := .exhausted } : Loop) = { L with state := .exhausted, pending := l'.pending } := by rw [← hLp]
 refine ⟨L.pending, _, run_endLoop hL (by rw [hLR.state]; exact hb), ?_⟩
 have hs : SRel { σ with H := H2.set idl (.loop { l' with state := .exhausted }), defs := defs } ι' a' (w3.putObj b (.loop { L with state := .exhausted })) := by
  rw [hLe]
  exact ⟨hR4, hsz, hvars.ev hev4, hdefs.ev hev4 (keepsD_set hl)⟩
 have hev' : Ev S0 ⟨H2.set idl (.loop { l' with state := .exhausted }), ι', w3.putObj b (.loop { L with state := .exhausted })⟩ := by rw [hLe]; exact hev.trans hev4
 have hnon' : Non S0 ⟨H2.set idl (.loop { l' with state := .exhausted }), ι', w3.putObj b (.loop { L with state := .exhausted })⟩ := fun id h1 h2 => hnon id h1 h2
 unfold jumpTo at hj
 split at hj
 ·rename_i hp
  cases hj
  simp only [hLp, hp] at hs hev' hnon' ⊢
  exact ⟨ι', trivial, hs, hev', hnon'⟩
 ·rename_i hp
  cases hj
  simp only [hLp, hp] at hs hev' hnon' ⊢
  exact wpIn_ret ⟨ι', trivial, hs, hev', hnon'⟩
 ·rename_i hp
  cases hj
  simp only [hLp, hp] at hs hev' hnon' ⊢
  exact wpIn_exit ⟨ι', rfl, hs, hev', hnon'⟩
 ·cases hj
theorem range_call [Outer] {ι : Nat → Option (Nat × Nat)} {a : Act} {w : World} {cro : Option Nat} (hs : SRel σ ι a w) (hg : σ.eval g = some fv) (hf : fnOf fv = some (f, first, captured)) (hc : callable P f = true)
  {S1 : Sit} (hev : Ev ⟨σ.H, ι, w⟩ S1) (lb idl : Nat) (hi : ∃ wm, S1.ι idl = some (lb, wm)) (hn : notRow S1.H idl) :
  ∃ d cs, (resolve a.eval (rangeCall g lb) 0).run P S1.w = .ok d S1.w ∧ (∀ f', Target.leads P S1.w d.target d.args = some f' → (Fr cro).fn f') ∧
   (invoke d.target d.args).run P S1.w = .ok (.enter f cs) S1.w ∧ VRels S1 (first ++ [.yld idl] ++ captured) cs.toList := by
 have hfv := St.eval_sound hs g fv hg
 obtain ⟨F, C, hfe, h1, h2⟩ := fnOf_sound hf hfv
 refine ⟨{ target := .fn (.func f) C, args := F ++ #[.func (.yield lb) #[] #[]] }, F ++ #[.func (.yield lb) #[] #[]] ++ C, ?_, fun _ _ => Fr_fn _ _, ?_, ?_⟩
 ·simp only [resolve, hfe, Deferred.ofValue]
  simp [Act.eval]
 ·exact run_callFunc hc _ _
 ·obtain ⟨wm, hi⟩ := hi
  have hy : VRel S1 (.yld idl) (.func (.yield lb) #[] #[]) := by simp only [VRel]; exact ⟨lb, wm, hi, hn, rfl⟩
  have h1' := h1.ev hev
  have h2' := h2.ev hev
  have := (h1'.append (show VRels S1 [.yld idl] [.func (.yield lb) #[] #[]] from ⟨hy, trivial⟩)).append h2'
  simpa using this
theorem Run.rangeFunc_outer (hg : σ.eval g = some fv) (hf : fnOf fv = some (f, first, captured)) (hc : callable P f = true)
  (hcall : ACall P f (first ++ [.yld (σ.H.length + 1)] ++ captured) (σ.H ++ [.defd, .loop (loop0 σ ps assign body σ.H.length)]) (.ret v) H2)
  (hl : H2[σ.H.length + 1]? = some (.loop l')) (hb : l'.state ≠ .busy) (hd : keepsD (σ.H ++ [.defd]) H2) (hj : jumpTo l'.pending = some e) :
  Run P none (.rangeFunc g ps assign body) σ e { σ with H := H2.set (σ.H.length + 1) (.loop { l' with state := .exhausted }), defs := σ.H.length :: σ.defs } := by
 intro O ι a w cro hro hs
 have hcro : cro = none := hro
 subst hcro
 refine wpIn_rangeFunc fun fn _ => ?_
 have hR : Rel ⟨σ.H, ι, w⟩ := hs.rel
 -- the two blocks
 let w1 : World := w.alloc (.deferred (some []))
 let ι1 := upd ι σ.H.length (some (w.heap.size, 0))
 have e1 := Ev.alloc hR (w' := w1) (.defd) 0 rfl
 have hR1 : Rel ⟨σ.H ++ [.defd], ι1, w1⟩ := Rel.alloc hR (w' := w1) (.defd) 0 rfl (by show w1.heap[w.heap.size]? = _; exact World.alloc_heap_new _ _)
 have hlen : (σ.H ++ [Blk.defd]).length = σ.H.length + 1 := by simp
 have hw1 : w1.heap.size = w.heap.size + 1 := by simp [w1]
 let L : Loop := { state := .ready, pending := none, fn, tmps := a.tmps, params := ps, assign, body, defers := w.heap.size }
 let w2 : World := w1.alloc (.loop L)
 let ι2 := upd ι1 (σ.H ++ [Blk.defd]).length (some (w1.heap.size, 0))
 have e2 := Ev.alloc hR1 (w' := w2) (.loop (loop0 σ ps assign body σ.H.length)) 0 rfl
 have hd2 : ∃ wm, ι2 σ.H.length = some (w.heap.size, wm) := ⟨0, by
  show upd _ _ _ _ = _
  rw [upd_other _ _ _ _ (by rw [hlen]; omega)]; exact upd_same ..⟩
 have hR2 : Rel ⟨(σ.H ++ [.defd]) ++ [.loop (loop0 σ ps assign body σ.H.length)], ι2, w2⟩ := Rel.alloc hR1 (w' := w2) _ 0 rfl
  ⟨L, World.alloc_heap_new _ _, ⟨rfl, rfl, rfl, rfl, rfl, hs.size, (hs.vars.ev e1).ev e2, by
   obtain ⟨wm, h⟩ := hd2
   exact ⟨wm, h, ⟨.defd, by simp [loop0], rfl⟩⟩⟩⟩
 have happ : (σ.H ++ [Blk.defd]) ++ [.loop (loop0 σ ps assign body σ.H.length)] = σ.H ++ [.defd, .loop (loop0 σ ps assign body σ.H.length)] := by simp
 have hev2 : Ev ⟨σ.H, ι, w⟩ ⟨(σ.H ++ [.defd]) ++ [.loop (loop0 σ ps assign body σ.H.length)], ι2, w2⟩ := e1.trans e2
 have hnon2 : Non ⟨σ.H, ι, w⟩ ⟨(σ.H ++ [.defd]) ++ [.loop (loop0 σ ps assign body σ.H.length)], ι2, w2⟩ := Non.trans e1 Non.alloc Non.alloc
 rw [happ] at hR2 hev2 hnon2
 have hi2 : ι2 (σ.H.length + 1) = some (w.heap.size + 1, 0) := by
  show upd _ _ _ _ = _
  rw [← hlen, upd_same, hw1]
 have hn2 : notRow (σ.H ++ [.defd, .loop (loop0 σ ps assign body σ.H.length)]) (σ.H.length + 1) := ⟨.loop (loop0 σ ps assign body σ.H.length), by simp, rfl⟩
 obtain ⟨d, cs, hres, hlead, hinv, hargs⟩ := range_call (P := P) (cro := none) hs hg hf hc (S1 := ⟨_, ι2, w2⟩) hev2 (w.heap.size + 1) (σ.H.length + 1) ⟨0, hi2⟩ hn2
 refine ⟨w.heap.size + 1, [{ target := .collected w.heap.size, args := #[] }], w2, d, w2, f, cs, w2, ?_, hres, hlead, hinv, fun h => (by simp [Fr_depth] at h), ?_⟩
 ·exact run_enterLoop_outer fn a.tmps ps assign body
 ·have hcall' : CallsIn (Fr none) 0 P f cs w2 (EPost ⟨_, ι2, w2⟩ (.ret v) H2) := hcall _ ι2 w2 cs hR2 hargs
  refine hcall'.mono ?_
  rintro e' w3 ⟨ι', hend, hR3, hev3, hnon3⟩
  cases e' with
  | panicked chain => exact hend.elim
  | outgrown => exact hend.elim
  | returned c =>
   obtain ⟨wm', hi3⟩ := (hev3.ptr _ hn2).2 _ _ hi2
   refine range_end hR3 hi3 hl hb hj hs.size ((hs.vars.ev hev2).ev hev3) ?_ (hev2.trans hev3) (hnon2.trans hev2 hnon3)
   obtain ⟨wmd, hid⟩ := hd2
   have hnd : notRow (σ.H ++ [.defd, .loop (loop0 σ ps assign body σ.H.length)]) σ.H.length := ⟨.defd, by simp, rfl⟩
   obtain ⟨wmd', hid3⟩ := (hev3.ptr _ hnd).2 _ _ hid
   refine ⟨fun hm => ?_, .inr ⟨_, _, rfl, ⟨w.heap.size, wmd', hid3, hd _ (by simp), rfl⟩, ?_⟩⟩
   ·exact Nat.lt_irrefl _ (DefRel.lt hs.rel hs.defs hm)
   ·exact hs.defs.ev (hev2.trans hev3) fun id hid => hd id (keepsD_append _ _ id hid)
theorem Run.rangeFunc_inner {ido : Nat} {lo : ALoop} (ho : σ.H[ido]? = some (.loop lo)) (hg : σ.eval g = some fv) (hf : fnOf fv = some (f, first, captured)) (hc : callable P f = true)
  (hcall : ACall P f (first ++ [.yld σ.H.length] ++ captured) (σ.H ++ [.loop (loop0 σ ps assign body lo.defers)]) (.ret v) H2)
  (hl : H2[σ.H.length]? = some (.loop l')) (hb : l'.state ≠ .busy) (hd : keepsD σ.H H2) (hj : jumpTo l'.pending = some e) :
  Run P (some ido) (.rangeFunc g ps assign body) σ e { σ with H := H2.set σ.H.length (.loop { l' with state := .exhausted }) } := by
 intro O ι a w cro hro hs
 obtain ⟨bo, wmo, hio, hno, hcro⟩ := hro
 subst hcro
 refine wpIn_rangeFunc fun fn _ => ?_
 have hR : Rel ⟨σ.H, ι, w⟩ := hs.rel
 obtain ⟨Lo, hLo, hLRo⟩ := get_loop hR hio ho
 obtain ⟨wmd, hid, hnd⟩ := hLRo.defers
 let L : Loop := { state := .ready, pending := none, fn, tmps := a.tmps, params := ps, assign, body, defers := Lo.defers }
 let w2 : World := w.alloc (.loop L)
 let ι2 := upd ι σ.H.length (some (w.heap.size, 0))
 have hev2 := Ev.alloc hR (w' := w2) (.loop (loop0 σ ps assign body lo.defers)) 0 rfl
 have hnon2 : Non ⟨σ.H, ι, w⟩ ⟨σ.H ++ [.loop (loop0 σ ps assign body lo.defers)], ι2, w2⟩ := Non.alloc
 have hR2 : Rel ⟨σ.H ++ [.loop (loop0 σ ps assign body lo.defers)], ι2, w2⟩ := Rel.alloc hR (w' := w2) _ 0 rfl
  ⟨L, World.alloc_heap_new _ _, ⟨rfl, rfl, rfl, rfl, rfl, hs.size, hs.vars.ev hev2, by
   obtain ⟨hnd', hh⟩ := hev2.ptr _ hnd
   obtain ⟨wm', h⟩ := hh _ _ hid
   exact ⟨wm', h, hnd'⟩⟩⟩
 have hi2 : ι2 σ.H.length = some (w.heap.size, 0) := upd_same ..
 have hn2 : notRow (σ.H ++ [.loop (loop0 σ ps assign body lo.defers)]) σ.H.length := ⟨.loop (loop0 σ ps assign body lo.defers), by simp, rfl⟩
 obtain ⟨d, cs, hres, hlead, hinv, hargs⟩ := range_call (P := P) (cro := some bo) hs hg hf hc (S1 := ⟨_, ι2, w2⟩) hev2 w.heap.size σ.H.length ⟨0, hi2⟩ hn2
 refine ⟨w.heap.size, [], w2, d, w2, f, cs, w2, ?_, hres, hlead, hinv, fun h => (by simp [Fr_depth] at h), ?_⟩
 ·show (Instr.enterLoop fn a.tmps ps assign body (some bo)).run P w = _
  unfold Instr.enterLoop
  simp only [Sem.run_bind, run_getLoop hLo, Result.andThen, run_newObj_alloc, Sem.run_pure]
  rfl
 ·have hcall' : CallsIn (Fr (some bo)) 0 P f cs w2 (EPost ⟨_, ι2, w2⟩ (.ret v) H2) := hcall _ ι2 w2 cs hR2 hargs
  refine hcall'.mono ?_
  rintro e' w3 ⟨ι', hend, hR3, hev3, hnon3⟩
  cases e' with
  | panicked chain => exact hend.elim
  | outgrown => exact hend.elim
  | returned c =>
   obtain ⟨wm', hi3⟩ := (hev3.ptr _ hn2).2 _ _ hi2
   exact range_end (a' := { a with defers := [] ++ a.defers }) hR3 hi3 hl hb hj hs.size ((hs.vars.ev hev2).ev hev3) (hs.defs.ev (hev2.trans hev3) hd) (hev2.trans hev3) (hnon2.trans hev2 hnon3)
end
noncomputable def putParams : Trie AV → List Nat → List AV → Trie AV
 | vars, t :: ts, a :: as => putParams (set vars t a) ts as
 | vars, _, _ => vars
theorem putParams_rel [Outer] {S : Sit} : ∀ (ts : List Nat) (as : List AV) (cs : List Value) (vars : Trie AV) (tmps : Array Value), VRels S as cs → VarsRel S vars tmps → (∀ t ∈ ts, t < tmps.size) → ts.length = as.length →
  VarsRel S (putParams vars ts as) ((ts.zip cs).foldl (fun tmps (t, a) => tmps.setIfInBounds t a) tmps) ∧ ((ts.zip cs).foldl (fun tmps (t, a) => tmps.setIfInBounds t a) tmps).size = tmps.size
 | [], as, cs, vars, tmps, _, hv, _, _ => by simp [putParams, hv]
 | t :: ts, [], _, _, _, _, _, _, hl => by simp at hl
 | t :: ts, a :: as, [], _, _, h, _, _, _ => by simp [VRels] at h
 | t :: ts, a :: as, c :: cs, vars, tmps, h, hv, ht, hl => by
  simp only [VRels] at h
  have := putParams_rel ts as cs (set vars t a) (tmps.setIfInBounds t c) h.2 (hv.set (ht t (by simp)) h.1) (fun t' h' => by rw [Array.size_setIfInBounds]; exact ht t' (by simp [h'])) (by simpa using hl)
  refine ⟨this.1, ?_⟩
  have h2 := this.2
  rw [Array.size_setIfInBounds] at h2
  simpa using h2
def jumpOf : AExit → Option (Option Code)
 | .normal => some none
 | .ret => some (some .ret)
 | .exit i => some (some (.exit i))
 | .pan _ => none
theorem ARound.intro {id : Nat} {l l1 l2 : ALoop} {args : List AV} {H : List Blk} {σ1 σ2 : St} {e : AExit} {j : Option Code} (hl : H[id]? = some (.loop l)) (hlen : args.length = l.params.size) (hp : ∀ t ∈ l.params, t < l.n)
    (ha : Run P (some id) l.assign ⟨l.n, putParams l.vars l.params.toList args, H, []⟩ .normal σ1) (hl1 : σ1.H[id]? = some (.loop l1)) (hst : l1.state = .ready)
    (hb : Run P (some id) l.body { σ1 with H := σ1.H.set id (.loop { l1 with state := .busy }) } e σ2) (hl2 : σ2.H[id]? = some (.loop l2)) (hj : jumpOf e = some j) :
    ARound P id args H (.ret (.lit (.bool j.isNone))) (σ2.H.set id (.loop { l2 with state := if j.isNone then .ready else .done, pending := j })) := by
  intro O ι w b wm L cs hR hi hn hL hcs hargs
  obtain ⟨L', hL', hLR⟩ := get_loop hR hi hl
  have hL'' : w.heap[b]? = some (.loop L') := hL'
  rw [hL] at hL''; cases hL''
  refine roundIn_of_wpIn (Fr_fn _ _) ?_
  have hpar := putParams_rel (S := ⟨H, ι, w⟩) l.params.toList args cs.toList l.vars L.tmps hargs hLR.vars (fun t ht => by rw [hLR.size]; exact hp t (by simpa using ht)) (by simpa using hlen.symm)
  have hfold : (L.params.zip cs).foldl (fun tmps (x : Tmp × Value) => tmps.setIfInBounds x.1 x.2) L.tmps = (l.params.toList.zip cs.toList).foldl (fun tmps (x : Tmp × Value) => tmps.setIfInBounds x.1 x.2) L.tmps := by
    rw [hLR.params, ← Array.foldl_toList, Array.toList_zip]
  have hs0 : SRel ⟨l.n, putParams l.vars l.params.toList args, H, []⟩ ι { tmps := (L.params.zip cs).foldl (fun tmps (x : Tmp × Value) => tmps.setIfInBounds x.1 x.2) L.tmps, defers := [] } w := by
    rw [hfold]
    exact ⟨hR, hpar.2.trans hLR.size, hpar.1, rfl⟩
  have hro0 : RoRel ⟨H, ι, w⟩ (some id) (some b) := ⟨b, wm, hi, hn, rfl⟩
  have h1 := ha _ ι _ w (some b) hro0 hs0
  rw [← hLR.assign] at h1
  refine wpIn_mono h1 ?_
  rintro e1 a1 w1 ⟨ι1, hx, hs1, hev1, hnon1⟩
  cases e1 <;> try exact hx.elim
  obtain ⟨hn1, hi1⟩ := hev1.ptr id hn
  obtain ⟨wm1, hi1⟩ := hi1 b wm hi
  obtain ⟨L1, hL1, hLR1⟩ := get_loop hs1.rel hi1 hl1
  obtain ⟨hRb, hevb⟩ := write_loop hs1.rel hi1 hl1 hL1 hLR1 .busy l1.pending
  have hLb : ({ L1 with state := .busy } : Loop) = { L1 with state := .busy, pending := l1.pending } := by rw [← hLR1.pending]
  refine ⟨_, run_beginRound hL1 (by rw [hLR1.state]; exact hst), ?_⟩
  rw [hLb]
  have hsb : SRel { σ1 with H := σ1.H.set id (.loop { l1 with state := .busy }) } ι1 a1 (w1.putObj b (.loop { L1 with state := .busy, pending := l1.pending })) :=
    ⟨hRb, hs1.size, hs1.vars.ev hevb, hs1.defs.ev hevb (keepsD_set hl1)⟩
  have hnb := (hevb.ptr id hn1).1
  have h2 := hb _ ι1 a1 _ (some b) ⟨b, wm1, hi1, hnb, rfl⟩ hsb
  have hLbody : L.body = l.body := hLR.body
  rw [hLbody]
  refine wpIn_mono h2 ?_
  rintro e2 a2 w2 ⟨ι2, hx2, hs2, hev2, hnon2⟩
  obtain ⟨wm2, hi2⟩ := (hev2.ptr id hnb).2 b wm1 hi1
  obtain ⟨L2, hL2, hLR2⟩ := get_loop hs2.rel hi2 hl2
  have fin : ∀ j : Option Code, ∃ v w', (Instr.endRound b j).run P w2 = .ok v w' ∧
      EPost ⟨H, ι, w⟩ (.ret (.lit (.bool j.isNone))) (σ2.H.set id (.loop { l2 with state := if j.isNone then .ready else .done, pending := j })) (.returned v) w' := by
    intro j
    obtain ⟨hR3, hev3⟩ := write_loop hs2.rel hi2 hl2 hL2 hLR2 (if j.isNone then .ready else .done) j
    refine ⟨_, _, run_endRound j hL2, ι2, by simp [EndRel, VRel], hR3, ((hev1.trans hevb).trans hev2).trans hev3, ?_⟩
    intro id' h1 h2
    exact hnon2 id' (hevb.ptr id' (hev1.ptr id' h1).1).1 (hnon1 id' h1 h2)
  cases e with
  | normal => cases e2 <;> first | exact hx2.elim | (cases hj; exact fin _)
  | ret => cases e2 <;> first | exact hx2.elim | (cases hj; exact fin _)
  | exit i =>
    cases e2 <;> first | exact hx2.elim | skip
    have hx2 : i = _ := hx2
    subst hx2
    cases hj; exact fin _
  | pan v => cases hj
theorem ACall.cut {f : FuncId} {args : List AV} {H H' : List Blk} {r : AV} (h : ACall P f args H (.ret r) H') (hr : r.under H.length) (hb : ∀ B ∈ H'.take H.length, B.under H.length) :
  ACall P f args H (.ret r) (H'.take H.length) := by
 intro O ι w cs hR hargs
 have hcall : CallsIn (Fr none) 0 P f cs w (EPost ⟨H, ι, w⟩ (.ret r) H') := h _ ι w cs hR hargs
 refine hcall.mono ?_
 rintro e w' ⟨ι', hend, hR', hev, hnon⟩
 cases e with
 | panicked chain => exact hend.elim
 | outgrown => exact hend.elim
 | returned c => exact ⟨cutι ι' H.length, VRel.cut (S := ⟨H', ι', w'⟩) r c hr hend, Rel.cut hR' hb, hev.cut, hnon.cut⟩
theorem stepR_scope {b : Frame} {a : Act} {k : List Item} {cs : List Frame} {w : World} {c : Code} : step P (lone (b.atR a (.code (.scope c) :: k)) cs w) = .next (lone (b.atR a (.code c :: .inScope c :: k)) cs w) :=
 step_lone_go (by simp [stepG, stepG.exec, Frame.atR])
theorem stepR_inScope {b : Frame} {a : Act} {k : List Item} {cs : List Frame} {w : World} {c : Code} : step P (lone (b.atR a (.inScope c :: k)) cs w) = .next (lone (b.atR a k) cs w) :=
 step_lone_go (by simp [stepG, stepG.exec, Frame.atR])
theorem Run.scope {ro : Option Nat} {σ σ' : St} {e : AExit} {c : Code} (h : Run P ro c σ e σ') : Run P ro (.scope c) σ e σ' := by
 intro O ι a w cro hro hs b k cs hbro hb hr
 have h0 : (lone (b.atR a (.code (.scope c) :: k)) cs w).fenced P (Fr cro) := fenced_calm hb hr rfl
 obtain ⟨e1, a1, w1, hp, harr⟩ := h _ ι a w cro hro hs b (.inScope c :: k) cs hbro hb hr
 refine ⟨e1, a1, w1, hp, ?_⟩
 obtain ⟨ι1, hx, _⟩ := hp
 cases e1 with
 | normal => exact StepsIn.trans (.one h0 stepR_scope) (StepsIn.trans harr (.one (fenced_calm hb hr rfl) stepR_inScope))
 | goto l => cases e <;> exact hx.elim
 | exit id => exact .of_steps (e := .exit id) (.one h0 stepR_scope) ⟨fun k' hk => harr.1 k' (by simp [exitTo, hk]), fun hr' hk => harr.2 hr' (by simp [exitTo, hk])⟩
 | ret => exact .of_steps (e := .ret) (.one h0 stepR_scope) harr
 | panic ch => exact .of_steps (e := .panic ch) (.one h0 stepR_scope) harr
 | outgrown => exact .of_steps (e := .outgrown) (.one h0 stepR_scope) harr
end Go.Vm
