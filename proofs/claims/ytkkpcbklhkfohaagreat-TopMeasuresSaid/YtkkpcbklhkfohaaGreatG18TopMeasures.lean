/-
  Texts of the proof, part 18: the machine, contracts of functions, plain laws. (Own work.)
-/
import Derived.Test.YtkkpcbklhkfohaaGreatG17TopMeasures
import Derived.Test.YtkkpcbklhkfohaaGreatG15TopMeasures
import Derived.Test.YtkkpcbklhkfohaaGreatG16TopMeasures
import Derived.Test.YtkkpcbklhkfohaaGreatG11TopMeasures
import Derived.Test.YtkkpcbklhkfohaaGreatG12TopMeasures

namespace Go.Vm
open Go.Proofs
theorem defs_nil {S S' : Sit} {ds : List Deferred} (h : DefRel S [] ds) : DefRel S' [] ds := by
 cases ds with
 | nil => trivial
 | cons _ _ => exact h.elim
theorem Rel.add [Outer] {H : List Blk} {ι : Nat → Option (Nat × Nat)} {w : World} {b wm : Nat} {sh : KeyShape} {es : List (Value × AV)} (hR : Rel ⟨H, ι, w⟩) (hb : ∀ id wm', ι id ≠ some (b, wm')) (ho : ∀ x, Outer.out b ≠ some x)
  (hB : BlkRel ⟨H, ι, w⟩ b wm (.map sh es)) (hes : ∀ p ∈ es, ∃ v, p.2 = .lit v) :
  Rel ⟨H ++ [.map sh es], fun id => if id = H.length then some (b, wm) else ι id, w⟩ ∧ Ev ⟨H, ι, w⟩ ⟨H ++ [.map sh es], fun id => if id = H.length then some (b, wm) else ι id, w⟩ ∧ Non ⟨H, ι, w⟩ ⟨H ++ [.map sh es], fun id => if id = H.length then some (b, wm) else ι id, w⟩ := by
 obtain ⟨ι2, hι2⟩ : ∃ ι2 : Nat → Option (Nat × Nat), ι2 = fun id => if id = H.length then some (b, wm) else ι id := ⟨_, rfl⟩
 rw [← hι2]
 have at_n : ι2 H.length = some (b, wm) := by rw [hι2]; simp
 have at_o : ∀ {id}, id ≠ H.length → ι2 id = ι id := fun {id} h => by rw [hι2]; simp [h]
 have look : ∀ {id : Nat} {B : Blk}, H[id]? = some B → (H ++ [Blk.map sh es])[id]? = some B ∧ id ≠ H.length := fun {id B} h => by
  have := (List.getElem?_eq_some_iff.1 h).1
  exact ⟨by rw [List.getElem?_append_left this]; exact h, by omega⟩
 have isMap : ∃ E cl, w.heap[b]? = some (.map E cl) := by
  obtain ⟨E, cl, h, _⟩ := hB
  exact ⟨E, cl, h⟩
 have hev : Ev ⟨H, ι, w⟩ ⟨H ++ [.map sh es], ι2, w⟩ := by
  refine ⟨fun id hn => ?_, fun b' lim hF => ⟨?_, fun _ _ => rfl⟩, fun id g0 hg => ?_, fun id g0 c0 hg => ?_, fun _ _ _ => rfl, Rest.refl _⟩
  ·obtain ⟨B, hB', hr⟩ := hn
   obtain ⟨h1, h2⟩ := look hB'
   exact ⟨⟨B, h1, hr⟩, fun b wm e => ⟨wm, (at_o h2).trans e⟩⟩
  ·obtain ⟨C, t, f, hC, hl, r, ro⟩ := hF
   refine ⟨C, t, f, hC, hl, fun id wm' e => ?_, ro⟩
   have e : ι2 id = some (b', wm') := e
   by_cases hid : id = H.length
   ·subst hid
    rw [at_n] at e
    cases e
    obtain ⟨E, cl, hm⟩ := isMap
    have hC : w.heap[b]? = some (.cells C t f) := hC
    rw [hm] at hC
    cases hC
   ·rw [at_o hid] at e
    obtain ⟨⟨g, hg⟩, h2⟩ := r id wm' e
    exact ⟨⟨g, (look hg).1⟩, h2⟩
  ·obtain ⟨h1, h2⟩ := look hg
   exact ⟨g0, h1, Nat.le_refl _, fun _ => ⟨at_o h2, fun b wm C t _ h => ⟨C, t, h, rfl⟩⟩⟩
  ·obtain ⟨h1, h2⟩ := look hg
   exact ⟨_, g0, h1, rfl, Nat.le_refl _, fun _ => ⟨⟨c0, rfl⟩, at_o h2, fun b wm C t _ h => ⟨C, t, h, rfl⟩⟩⟩
 refine ⟨⟨fun id b' wm' e => ?_, fun i j b' wm1 wm2 ei ej => ?_, fun b' x e => ⟨(hR.out b' x e).1, fun id wm' hi => ?_⟩⟩, hev, fun id hn hnone => ?_⟩
 ·have e : ι2 id = some (b', wm') := e
  by_cases hid : id = H.length
  ·subst hid
   rw [at_n] at e
   cases e
   exact ⟨_, by simp, map_moved hB hes rfl⟩
  ·rw [at_o hid] at e
   obtain ⟨B, hB', hr⟩ := hR.blk id b' wm' e
   exact ⟨B, (look hB').1, hr.ev hev rfl⟩
 ·have ei : ι2 i = some (b', wm1) := ei
  have ej : ι2 j = some (b', wm2) := ej
  by_cases hi : i = H.length
  ·by_cases hj : j = H.length
   ·rw [hi, hj]
   ·rw [hi, at_n] at ei
    cases ei
    rw [at_o hj] at ej
    exact absurd ej (hb j wm2)
  ·by_cases hj : j = H.length
   ·rw [hj, at_n] at ej
    cases ej
    rw [at_o hi] at ei
    exact absurd ei (hb i wm1)
   ·rw [at_o hi] at ei
    rw [at_o hj] at ej
    exact hR.inj i j b' wm1 wm2 ei ej
 ·have hi : ι2 id = some (b', wm') := hi
  by_cases hid : id = H.length
  ·rw [hid, at_n] at hi
   cases hi
   exact ho x e
  ·rw [at_o hid] at hi
   exact (hR.out b' x e).2 id wm' hi
 ·obtain ⟨B, hB', _⟩ := hn
  exact (at_o (look hB').2).trans hnone
theorem take_low {H H1 : List Blk} (h : ∀ id, id < H.length → H1[id]? = H[id]?) : H1.take H.length = H := by
 refine List.ext_getElem? fun i => ?_
 by_cases hi : i < H.length
 ·rw [List.getElem?_take_of_lt hi]; exact h i hi
 ·rw [List.getElem?_eq_none (by rw [List.length_take]; omega), List.getElem?_eq_none (by omega)]
@[reducible] def hide1 (O : Outer) (b0 : Nat) : Outer := ⟨fun b => if b = b0 then some none else O.out b⟩
theorem Post.toMap [Outer] {H H1 : List Blk} {ι : Nat → Option (Nat × Nat)} {w : World} {k j r0 : Nat} {V : Trie AV} {sh : KeyShape} {es : List (Value × AV)} {e' : Go.Exit} {a' : Act} {w' : World} (hR : Rel ⟨H, ι, w⟩)
  (hp : Post ⟨H, ι, w⟩ .ret ⟨k, V, H1, []⟩ e' a' w') (hlow : ∀ id, id < H.length → H1[id]? = H[id]?) (hv : get V r0 = some (.mp j)) (hj : H.length ≤ j) (hg : H1[j]? = some (.map sh es)) (hes : ∀ p ∈ es, ∃ v, p.2 = .lit v) :
  Post ⟨H, ι, w⟩ .ret ⟨k, set .nil r0 (.mp H.length), H ++ [.map sh es], []⟩ e' a' w' := by
 obtain ⟨ι1, hx, hs1, hev, hnon⟩ := hp
 have hcut := take_low hlow
 have h1 := Rel.back hR hs1.rel hev hnon (fun id hlt => .inl (hlow id hlt))
 have h2 := hev.cut
 have h3 := hnon.cut
 simp only [hcut] at h1 h2 h3
 obtain ⟨c, hc, hr⟩ := hs1.vars r0 _ hv
 simp only [VRel] at hr
 obtain ⟨b, wm, hi, _, hcv⟩ := hr
 obtain ⟨B, hB, hrel⟩ := hs1.rel.blk j b wm hi
 have hB : H1[j]? = some B := hB
 rw [hg] at hB
 cases hB
 have nb : ∀ id wm', cutι ι1 H.length id ≠ some (b, wm') := fun id wm' e => by
  unfold cutι at e
  split at e
  ·have := hs1.rel.inj id j b wm' wm e hi
   omega
  ·cases e
 obtain ⟨q1, q2, q3⟩ := Rel.add (wm := wm) h1 nb (fun x e => (hs1.rel.out b x e).2 j wm hi) (map_moved hrel hes rfl) hes
 refine ⟨_, ?_, ⟨q1, hs1.size, fun s v hg' => ?_, defs_nil hs1.defs⟩, h2.trans q2, Non.trans h2 h3 q3⟩
 ·cases e' <;> first | trivial | exact hx.elim
 ·by_cases hs : r0 = s
  ·subst hs
   have hg' : get (set .nil r0 (AV.mp H.length)) r0 = some v := hg'
   rw [get_set_same] at hg'
   cases hg'
   refine ⟨c, hc, ?_⟩
   simp only [VRel]
   exact ⟨b, wm, by simp, ⟨.map sh es, by simp, rfl⟩, hcv⟩
  ·have hg' : get (set .nil r0 (AV.mp H.length)) s = some v := hg'
   rw [get_set_other _ _ _ _ hs, get_nil] at hg'
   cases hg'
def SwR {α : Type} (S : α → List (Nat × AV)) (es : α → List (Value × AV)) (μ : α → Nat) (sh : KeyShape) (s r0 i0 : Nat) (Pr : List (Value × AV) → Prop) (a : α) : CodeQ := fun x e lo' => i0 + 1 ≤ lo' ∧ e.defs = [] ∧ match x with
 | .normal => ∃ a', μ a' < μ a ∧ (∃ j, i0 + 1 ≤ j ∧ get e.vars s = some (.mp j) ∧ get e.t j = some (.map sh (es a'))) ∧ Slots (get e.vars) e.t i0 (S a')
 | .ret => ∃ j es', i0 + 1 ≤ j ∧ get e.vars r0 = some (.mp j) ∧ get e.t j = some (.map sh es') ∧ Pr es'
 | _ => False
theorem sw_core {P : Program} {m : Bool} {k : Nat} {c : Code} {α : Type} (hm : P.follows .mixedOrders = true) (S : α → List (Nat × AV)) (es : α → List (Value × AV)) (T : List (Nat × Blk)) (μ : α → Nat) (sh : KeyShape) (s r0 i0 : Nat) (Pr : List (Value × AV) → Prop)
    (hT : ∀ id, id < i0 → ∃ B, get (ofL T) id = some B ∧ B.under i0) (hes : ∀ a, ∀ p ∈ es a, ∃ v, p.2 = .lit v) (hPr : ∀ e, Pr e → ∀ p ∈ e, ∃ v, p.2 = .lit v)
    (body : ∀ a, gCode P m k none c (ofL ((s, .mp i0) :: S a)) (ofL ((i0, .map sh (es a)) :: T)) (i0 + 1) [] noLo (SwR S es μ sh s r0 i0 Pr a)) :
    ∀ j a, μ a = j → ∀ H, HT (ofL ((i0, .map sh (es a)) :: T)) (i0 + 1) H → ∃ es', Pr es' ∧ InL P none c ⟨k, ofL ((s, .mp i0) :: S a), H, []⟩ .ret ⟨k, set .nil r0 (.mp (i0 + 1)), H ++ [.map sh es'], []⟩ := by
  intro j
  induction j using Nat.strongRecOn with
  | _ j ih =>
  intro a hj H hH
  have hlen := hH.len
  obtain ⟨x, e, lo', H1, hH1, hk1, hrun, hlo, hd, hq⟩ := gCode_spec hm c _ _ _ _ _ _ (body a) H H hH (Keep.refl _ _)
  rw [hd] at hrun
  have hlow : ∀ id, id < H.length → H1[id]? = H[id]? := fun id hlt => hk1.low id (by omega) hlt
  have hTl : ∀ id, id < i0 → ∃ B, H[id]? = some B ∧ B.under i0 := fun id hlt => by
    obtain ⟨B, h1, h2⟩ := hT id hlt
    refine ⟨B, hH.blk id B ?_, h2⟩
    show get (set (ofL T) i0 _) id = some B
    rw [get_set_other _ _ _ _ (by omega)]
    exact h1
  have hM : H[i0]? = some (.map sh (es a)) := hH.blk _ _ (by
    show get (set (ofL T) i0 _) i0 = _
    rw [get_set_same])
  cases x with
  | exit i => exact hq.elim
  | pan v => exact hq.elim
  | ret =>
    obtain ⟨jj, es', h1, h2, h3, h4⟩ := hq
    refine ⟨es', h4, ?_⟩
    have hout : InL P none c ⟨k, ofL ((s, .mp i0) :: S a), H, []⟩ .ret ⟨k, e.vars, H1, []⟩ := .out hrun rfl
    intro O ι a w cro hro hs b kk cs hbro hb hr
    obtain ⟨e', a', w', hp, harr⟩ := hout O ι a w cro hro hs b kk cs hbro hb hr
    have := Post.toMap hs.rel hp hlow h2 (Nat.le_trans (Nat.le_of_eq hlen) h1) (hH1.blk _ _ h3) (hPr _ h4)
    rw [hlen] at this
    exact ⟨e', a', w', this, harr⟩
  | normal =>
    obtain ⟨a', hμ, ⟨jj, h1, h2, h3⟩, hS⟩ := hq
    obtain ⟨H2, hH2d⟩ : ∃ H2, H2 = H.take i0 ++ [Blk.map sh (es a')] := ⟨_, rfl⟩
    have tl : (H.take i0).length = i0 := by rw [List.length_take]; omega
    have low2 : ∀ id, id < i0 → H2[id]? = H[id]? := fun id hlt => by
      rw [hH2d, List.getElem?_append_left (by omega), List.getElem?_take_of_lt hlt]
    have top2 : H2[i0]? = some (.map sh (es a')) := by
      rw [hH2d, List.getElem?_append_right (by omega), tl, Nat.sub_self]
      rfl
    have len2 : H2.length = i0 + 1 := by rw [hH2d, List.length_append, tl]; rfl
    have hH2 : HT (ofL ((i0, .map sh (es a')) :: T)) (i0 + 1) H2 := by
      refine ⟨len2, fun id B hg => ?_⟩
      have hg : get (set (ofL T) i0 (.map sh (es a'))) id = some B := hg
      by_cases hid : i0 = id
      · subst hid
        rw [get_set_same] at hg
        cases hg
        exact top2
      · rw [get_set_other _ _ _ _ hid] at hg
        have hg' : get (ofL ((i0, .map sh (es a)) :: T)) id = some B := by
          show get (set (ofL T) i0 _) id = some B
          rw [get_set_other _ _ _ _ hid]
          exact hg
        have := hH.lt hg'
        rw [low2 id (by omega)]
        exact hH.blk id B hg'
    obtain ⟨es', hP, hin⟩ := ih (μ a') (by omega) a' rfl H2 hH2
    refine ⟨es', hP, ?_⟩
    intro O ι a0 w cro hro hs b kk cs hbro hb hr
    obtain ⟨e1, a1, w1, ⟨ι1, hx, hs1, hev, hnon⟩, harr⟩ := hrun O ι a0 w cro hro hs b (.inLoop c :: kk) cs hbro hb hr
    have e1n : e1 = .normal := by cases e1 <;> first | rfl | exact hx.elim
    subst e1n
    have hR1 : @Rel O ⟨H1, ι1, w1⟩ := hs1.rel
    -- names
    obtain ⟨c0, hc0, hr0⟩ := hs.vars s (.mp i0) (by show get (set _ s _) s = _; rw [get_set_same])
    simp only [VRel] at hr0
    obtain ⟨b0, wm0, hi0, hn0, _⟩ := hr0
    obtain ⟨wm1, hi1⟩ := (hev.ptr i0 hn0).2 b0 wm0 hi0
    have hi1 : ι1 i0 = some (b0, wm1) := hi1
    obtain ⟨cj, hcj, hrj⟩ := hs1.vars s _ h2
    simp only [VRel] at hrj
    obtain ⟨bj, wmj, hij, _, hcvj⟩ := hrj
    have hij : ι1 jj = some (bj, wmj) := hij
    obtain ⟨Bj, hBj, hrelj⟩ := hR1.blk jj bj wmj hij
    have hBj : H1[jj]? = some Bj := hBj
    rw [hH1.blk _ _ h3] at hBj
    cases hBj
    obtain ⟨B0, hB0, hrel0⟩ := hR1.blk i0 b0 wm1 hi1
    have hB0 : H1[i0]? = some B0 := hB0
    rw [hlow i0 (by omega), hM] at hB0
    cases hB0
    have map0 : ∃ E cl, w1.heap[b0]? = some (.map E cl) := by obtain ⟨E, cl, h, _⟩ := hrel0; exact ⟨E, cl, h⟩
    have mapj : ∃ E cl, w1.heap[bj]? = some (.map E cl) := by obtain ⟨E, cl, h, _⟩ := hrelj; exact ⟨E, cl, h⟩
    have hne : bj ≠ b0 := fun e => by
      subst e
      have := hR1.inj jj i0 bj wmj wm1 hij hi1
      omega
    have out0 : ∀ x, O.out b0 ≠ some x := fun x e => (hR1.out b0 x e).2 i0 wm1 hi1
    -- the other outside
    have o0 : (hide1 O b0).out b0 = some none := if_pos rfl
    have oo : ∀ {b}, b ≠ b0 → (hide1 O b0).out b = O.out b := fun {b} h => if_neg h
    have same1 : ∀ id, id < i0 → (H.take i0)[id]? = H1[id]? := fun id hlt => by rw [List.getElem?_take_of_lt hlt, hlow id (by omega)]
    have p0 : Pass O (hide1 O b0) H1 (H.take i0) ι1 (cutι ι1 i0) w1 i0 := by
      refine ⟨same1, fun id hlt => by simp [cutι, hlt], fun b' lim hF => ?_⟩
      obtain ⟨C, t, f, hC, hl, r, ro⟩ := hF
      refine ⟨C, t, f, hC, hl, fun id wm' e => ?_, fun y e => ?_⟩
      · have e : cutι ι1 i0 id = some (b', wm') := e
        unfold cutι at e
        split at e
        · rename_i hlt
          obtain ⟨⟨g, hg⟩, hw⟩ := r id wm' e
          exact ⟨⟨g, (same1 id hlt).trans hg⟩, hw⟩
        · cases e
      · by_cases hb' : b' = b0
        · subst hb'
          obtain ⟨E, cl, hm0⟩ := map0
          have hC : w1.heap[b']? = some (.cells C t f) := hC
          rw [hm0] at hC
          cases hC
        · rw [oo hb'] at e
          exact ro y e
    have cutS : ∀ {id p}, cutι ι1 i0 id = some p → id < i0 ∧ ι1 id = some p := fun {id p} e => by
      unfold cutι at e
      split at e
      · rename_i hlt; exact ⟨hlt, e⟩
      · cases e
    have hRc : @Rel (hide1 O b0) ⟨H.take i0, cutι ι1 i0, w1⟩ := by
      refine @Rel.mk (hide1 O b0) _ (fun id b' wm' e => ?_) (fun i j b' wma wmb ei ej => ?_) (fun b' y e => ?_)
      · obtain ⟨hlt, e⟩ := cutS e
        obtain ⟨B, hB, hrel⟩ := hR1.blk id b' wm' e
        obtain ⟨B', hB', hu⟩ := hTl id hlt
        have hB : H1[id]? = some B := hB
        rw [hlow id (by omega), hB'] at hB
        obtain rfl := Option.some.inj hB
        exact ⟨_, by show (H.take i0)[id]? = _; rw [List.getElem?_take_of_lt hlt]; exact hB', BlkRel.pass p0 hrel hu⟩
      · exact hR1.inj i j b' wma wmb (cutS ei).2 (cutS ej).2
      · by_cases hb' : b' = b0
        · subst hb'
          obtain ⟨E, cl, hm0⟩ := map0
          refine ⟨(Array.getElem?_eq_some_iff.1 hm0).1, fun id wm' h => ?_⟩
          obtain ⟨hlt, h⟩ := cutS h
          have := hR1.inj id i0 b' wm' wm1 h hi1
          omega
        · rw [oo hb'] at e
          obtain ⟨k1, k2⟩ := hR1.out b' y e
          exact ⟨k1, fun id wm' h => k2 id wm' (cutS h).2⟩
    obtain ⟨hR2, hev2, hnon2⟩ := @Rel.add (hide1 O b0) (H.take i0) (cutι ι1 i0) w1 bj wmj sh (es a') hRc (fun id wm' e => by
        obtain ⟨hlt, e⟩ := cutS e
        have := hR1.inj id jj bj wm' wmj e hij
        omega) (fun y e => by
        rw [oo hne] at e
        exact (hR1.out bj y e).2 jj wmj hij) (map_moved hrelj (hes a') rfl) (hes a')
    rw [tl] at hR2 hev2 hnon2
    rw [← hH2d] at hR2 hev2 hnon2
    obtain ⟨ι2, hι2⟩ : ∃ ι2 : Nat → Option (Nat × Nat), ι2 = fun id => if id = i0 then some (bj, wmj) else cutι ι1 i0 id := ⟨_, rfl⟩
    rw [← hι2] at hR2 hev2 hnon2
    have n2 : ι2 i0 = some (bj, wmj) := by rw [hι2]; simp
    have l2 : ∀ {id}, id < i0 → ι2 id = ι1 id := fun {id} hlt => by
      rw [hι2]
      show (if id = i0 then some (bj, wmj) else cutι ι1 i0 id) = _
      rw [if_neg (by omega)]
      simp [cutι, hlt]
    have hs2 : @SRel (hide1 O b0) ⟨k, ofL ((s, .mp i0) :: S a'), H2, []⟩ ι2 a1 w1 := by
      refine @SRel.mk (hide1 O b0) _ _ _ _ hR2 hs1.size (fun t v hg => ?_) (defs_nil hs1.defs)
      have hg : get (set (ofL (S a')) s (.mp i0)) t = some v := hg
      by_cases ht : s = t
      · subst ht
        rw [get_set_same] at hg
        cases hg
        refine ⟨cj, hcj, ?_⟩
        simp only [VRel]
        exact ⟨bj, wmj, n2, ⟨_, top2, rfl⟩, hcvj⟩
      · rw [get_set_other _ _ _ _ ht] at hg
        obtain ⟨v1, g1, g2, g3⟩ := hS.mem _ (get_ofL hg)
        obtain ⟨c1, hc1, hr1⟩ := hs1.vars t v1 g1
        refine ⟨c1, hc1, @VRel.ev (hide1 O b0) _ _ hev2 v c1 (VRel.pass p0 v c1 g3 (g2 _ _ hH1 O ι1 w1 c1 hr1))⟩
    obtain ⟨e2, a2, w2, ⟨ι3, hx3, hs3, hev3, hnon3⟩, harr2⟩ := hin (hide1 O b0) ι2 a1 w1 cro hro hs2 b kk cs hbro hb hr
    refine ⟨e2, a2, w2, ?_, .of_steps (StepsIn.trans harr (.one (fenced_calm hb hr rfl) stepR_inLoop)) harr2⟩
    have hR3 : @Rel (hide1 O b0) ⟨H2 ++ [.map sh es'], ι3, w2⟩ := @SRel.rel (hide1 O b0) _ _ _ _ hs3
    have hsize : a2.tmps.size = k := @SRel.size (hide1 O b0) ⟨k, set .nil r0 (.mp (i0 + 1)), H2 ++ [.map sh es'], []⟩ ι3 a2 w2 hs3
    have hrest : Rest w1 w2 := @Ev.rest (hide1 O b0) ⟨H2, ι2, w1⟩ ⟨H2 ++ [.map sh es'], ι3, w2⟩ hev3
    have heap0 : w2.heap[b0]? = w1.heap[b0]? := @Ev.out (hide1 O b0) _ _ hev3 b0 none o0
    -- back
    have hA := Rel.back hs.rel hR1 hev hnon (fun id hlt => .inl (hlow id hlt))
    have hevA := hev.cut
    have hnonA := hnon.cut
    simp only [take_low hlow] at hA hevA hnonA
    rw [hlen] at hA hevA hnonA
    refine Post.trans hevA hnonA _ _ _ ?_
    obtain ⟨ιf, hιf⟩ : ∃ ιf : Nat → Option (Nat × Nat), ιf = fun id => if id = i0 then some (b0, wm1) else if id ≤ i0 + 1 then ι3 id else none := ⟨_, rfl⟩
    have f0 : ιf i0 = some (b0, wm1) := by rw [hιf]; simp
    have fl : ∀ {id}, id < i0 → ιf id = ι3 id := fun {id} hlt => by
      rw [hιf]
      show (if id = i0 then some (b0, wm1) else if id ≤ i0 + 1 then ι3 id else none) = _
      rw [if_neg (by omega), if_pos (by omega)]
    have fn : ιf (i0 + 1) = ι3 (i0 + 1) := by
      rw [hιf]
      show (if i0 + 1 = i0 then some (b0, wm1) else if i0 + 1 ≤ i0 + 1 then ι3 (i0 + 1) else none) = _
      rw [if_neg (by omega), if_pos (by omega)]
    have fg : ∀ {id}, i0 + 1 < id → ιf id = none := fun {id} hlt => by
      rw [hιf]
      show (if id = i0 then some (b0, wm1) else if id ≤ i0 + 1 then ι3 id else none) = _
      rw [if_neg (by omega), if_neg (by omega)]
    have lowF : ∀ id, id < i0 + 1 → (H ++ [Blk.map sh es'])[id]? = H[id]? := fun id hlt => List.getElem?_append_left (by omega)
    have topF : (H ++ [Blk.map sh es'])[i0 + 1]? = some (.map sh es') := by rw [List.getElem?_append_right (by omega), hlen, Nat.sub_self]; rfl
    have low3 : ∀ id, id < i0 → (H2 ++ [Blk.map sh es'])[id]? = H[id]? := fun id hlt => by rw [List.getElem?_append_left (by omega)]; exact low2 id hlt
    have top3 : (H2 ++ [Blk.map sh es'])[i0 + 1]? = some (.map sh es') := by rw [List.getElem?_append_right (by omega), len2, Nat.sub_self]; rfl
    have cutT : ∀ {id p}, cutι ι1 (i0 + 1) id = some p → id < i0 + 1 ∧ ι1 id = some p := fun {id p} e => by
      unfold cutι at e
      split at e
      · rename_i hlt; exact ⟨hlt, e⟩
      · cases e
    -- what is fixed in the other situation is so in the last one
    have fixF : ∀ b' lim, @Fix (hide1 O b0) ⟨H2 ++ [.map sh es'], ι3, w2⟩ b' lim → @Fix O ⟨H ++ [.map sh es'], ιf, w2⟩ b' lim := fun b' lim hF => by
      obtain ⟨C, t, f, hC, hl, r, ro⟩ := hF
      have hb' : b' ≠ b0 := fun e => by
        subst e
        obtain ⟨l, hl', _⟩ := ro none o0
        cases hl'
      refine ⟨C, t, f, hC, hl, fun id wm' e => ?_, fun y e => ro y (by rw [oo hb']; exact e)⟩
      have e : ιf id = some (b', wm') := e
      rcases Nat.lt_trichotomy id i0 with hlt | he | hgt
      · rw [fl hlt] at e
        obtain ⟨⟨g, hg⟩, hw⟩ := r id wm' e
        have hg : (H2 ++ [Blk.map sh es'])[id]? = some (.row g) := hg
        exact ⟨⟨g, by show (H ++ [Blk.map sh es'])[id]? = _; rw [lowF id (by omega), ← low3 id hlt]; exact hg⟩, hw⟩
      · rw [he, f0] at e
        cases e
        exact absurd rfl hb'
      · by_cases h' : id = i0 + 1
        · rw [h', fn] at e
          obtain ⟨⟨g, hg⟩, _⟩ := r _ wm' e
          have hg : (H2 ++ [Blk.map sh es'])[i0 + 1]? = some (.row g) := hg
          rw [top3] at hg
          cases hg
        · rw [fg (by omega)] at e
          cases e
    have fix2 : ∀ b' lim, @Fix O ⟨H, cutι ι1 (i0 + 1), w1⟩ b' lim → @Fix (hide1 O b0) ⟨H2, ι2, w1⟩ b' lim := fun b' lim hF => by
      obtain ⟨C, t, f, hC, hl, r, ro⟩ := hF
      have hC : w1.heap[b']? = some (.cells C t f) := hC
      have hb0 : b' ≠ b0 := fun e => by
        subst e
        obtain ⟨E, cl, hm0⟩ := map0
        rw [hm0] at hC
        cases hC
      have hbj : b' ≠ bj := fun e => by
        subst e
        obtain ⟨E, cl, hm0⟩ := mapj
        rw [hm0] at hC
        cases hC
      refine ⟨C, t, f, hC, hl, fun id wm' e => ?_, fun y e => ro y (by rw [← oo hb0]; exact e)⟩
      have e : ι2 id = some (b', wm') := e
      rcases Nat.lt_trichotomy id i0 with hlt | he | hgt
      · rw [l2 hlt] at e
        obtain ⟨⟨g, hg⟩, hw⟩ := r id wm' (by show cutι ι1 (i0 + 1) id = _; simp only [cutι]; rw [if_pos (by omega)]; exact e)
        exact ⟨⟨g, (low2 id hlt).trans hg⟩, hw⟩
      · rw [he, n2] at e
        cases e
        exact absurd rfl hbj
      · rw [hι2] at e
        have e : (if id = i0 then some (bj, wmj) else cutι ι1 i0 id) = some (b', wm') := e
        rw [if_neg (by omega)] at e
        have := (cutS e).1
        omega
    have hevF : @Ev O ⟨H, cutι ι1 (i0 + 1), w1⟩ ⟨H ++ [.map sh es'], ιf, w2⟩ := by
      refine @Ev.mk O _ _ (fun id hn => ?_) (fun b' lim hF => ?_) (fun id g0 hg => ?_) (fun id g0 g1 hg => ?_) (fun b' y e => ?_) hrest
      · obtain ⟨B, hB, hr'⟩ := hn
        have hB : H[id]? = some B := hB
        have hlt := (List.getElem?_eq_some_iff.1 hB).1
        rw [hlen] at hlt
        refine ⟨⟨B, (lowF id hlt).trans hB, hr'⟩, fun b' wm' e => ?_⟩
        have e : ι1 id = some (b', wm') := (cutT e).2
        by_cases hid : id = i0
        · rw [hid, hi1] at e
          cases e
          exact ⟨wm1, by rw [hid]; exact f0⟩
        · obtain ⟨wm3, h3⟩ := (@Ev.ptr (hide1 O b0) _ _ hev3 id ⟨B, (low2 id (by omega)).trans hB, hr'⟩).2 b' wm' ((l2 (by omega)).trans e)
          exact ⟨wm3, (fl (by omega)).trans h3⟩
      · obtain ⟨k1, k2⟩ := @Ev.fix (hide1 O b0) _ _ hev3 b' lim (fix2 b' lim hF)
        exact ⟨fixF b' lim k1, k2⟩
      · have hg : H[id]? = some (.row g0) := hg
        have hlt := (List.getElem?_eq_some_iff.1 hg).1
        rw [hlen] at hlt
        have hid : id < i0 := by
          by_cases h' : id = i0
          · subst h'; rw [hM] at hg; cases hg
          · omega
        obtain ⟨g1, k1, k2, k3⟩ := @Ev.tok (hide1 O b0) _ _ hev3 id g0 ((low2 id hid).trans hg)
        have k1 : (H2 ++ [Blk.map sh es'])[id]? = some (.row g1) := k1
        rw [low3 id hid, hg] at k1
        cases k1
        obtain ⟨k4, k5⟩ := k3 rfl
        have k4 : ι3 id = ι2 id := k4
        refine ⟨g0, (lowF id hlt).trans hg, Nat.le_refl _, fun _ => ⟨?_, fun b' wm' C t hi hC => k5 b' wm' C t ?_ hC⟩⟩
        · show ιf id = cutι ι1 (i0 + 1) id
          rw [fl hid, k4, l2 hid]
          simp [cutι, hlt]
        · show ι2 id = _
          rw [l2 hid]
          exact (cutT hi).2
      · have hg : H[id]? = some (.mrow g0 g1) := hg
        have hlt := (List.getElem?_eq_some_iff.1 hg).1
        rw [hlen] at hlt
        have hid : id < i0 := by
          by_cases h' : id = i0
          · subst h'; rw [hM] at hg; cases hg
          · omega
        obtain ⟨B', gg, k1, km, k2, k3⟩ := @Ev.mtok (hide1 O b0) _ _ hev3 id g0 g1 ((low2 id hid).trans hg)
        have k1 : (H2 ++ [Blk.map sh es'])[id]? = some B' := k1
        rw [low3 id hid, hg] at k1
        cases k1
        simp only [Blk.mgen, Option.some.injEq] at km
        subst km
        obtain ⟨k6, k4, k5⟩ := k3 rfl
        have k4 : ι3 id = ι2 id := k4
        refine ⟨_, g0, (lowF id hlt).trans hg, rfl, Nat.le_refl _, fun _ => ⟨⟨g1, rfl⟩, ?_, fun b' wm' C t hi hC => k5 b' wm' C t ?_ hC⟩⟩
        · show ιf id = cutι ι1 (i0 + 1) id
          rw [fl hid, k4, l2 hid]
          simp [cutι, hlt]
        · show ι2 id = _
          rw [l2 hid]
          exact (cutT hi).2
      · have hb' : b' ≠ b0 := fun h => out0 y (h ▸ e)
        exact @Ev.out (hide1 O b0) _ _ hev3 b' y (by rw [oo hb']; exact e)
    have pF : Pass (hide1 O b0) O (H2 ++ [.map sh es']) (H ++ [.map sh es']) ι3 ιf w2 i0 := ⟨fun id hlt => by rw [lowF id (by omega), low3 id hlt], fun id hlt => fl hlt, fixF⟩
    have hRF : @Rel O ⟨H ++ [.map sh es'], ιf, w2⟩ := by
      refine @Rel.mk O _ (fun id b' wm' e => ?_) (fun i j b' wma wmb ei ej => ?_) (fun b' y e => ?_)
      · have e : ιf id = some (b', wm') := e
        rcases Nat.lt_trichotomy id i0 with hlt | he | hgt
        · rw [fl hlt] at e
          obtain ⟨B, hB, hrel⟩ := @Rel.blk (hide1 O b0) _ hR3 id b' wm' e
          have hB : (H2 ++ [Blk.map sh es'])[id]? = some B := hB
          obtain ⟨B', hB', hu⟩ := hTl id hlt
          rw [low3 id hlt, hB'] at hB
          obtain rfl := Option.some.inj hB
          exact ⟨_, (lowF id (by omega)).trans hB', BlkRel.pass pF hrel hu⟩
        · rw [he, f0] at e
          cases e
          obtain ⟨B, hB, hrel⟩ := hA.blk i0 b0 wm1 (by show cutι ι1 (i0 + 1) i0 = _; simp [cutι, hi1])
          have hB : H[i0]? = some B := hB
          rw [hM] at hB
          cases hB
          exact ⟨_, by rw [he]; exact (lowF i0 (by omega)).trans hM, hrel.ev hevF heap0⟩
        · by_cases h' : id = i0 + 1
          · rw [h', fn] at e
            obtain ⟨B, hB, hrel⟩ := @Rel.blk (hide1 O b0) _ hR3 (i0 + 1) b' wm' e
            have hB : (H2 ++ [Blk.map sh es'])[i0 + 1]? = some B := hB
            rw [top3] at hB
            cases hB
            exact ⟨_, by rw [h']; exact topF, map_moved hrel (hPr _ hP) rfl⟩
          · rw [fg (by omega)] at e
            cases e
      · have ei : ιf i = some (b', wma) := ei
        have ej : ιf j = some (b', wmb) := ej
        have key : ∀ {i p}, ιf i = some p → i = i0 ∧ p = (b0, wm1) ∨ i ≠ i0 ∧ ι3 i = some p := fun {i p} h => by
          rcases Nat.lt_trichotomy i i0 with hlt | he | hgt
          · exact .inr ⟨by omega, (fl hlt).symm.trans h⟩
          · rw [he, f0] at h
            cases h
            exact .inl ⟨he, rfl⟩
          · by_cases h' : i = i0 + 1
            · subst h'
              exact .inr ⟨by omega, fn.symm.trans h⟩
            · rw [fg (by omega)] at h
              cases h
        rcases key ei with ⟨i1, i2⟩ | ⟨i1, i2⟩
        · rcases key ej with ⟨j1, j2⟩ | ⟨j1, j2⟩
          · omega
          · cases i2
            exact absurd j2 ((@Rel.out (hide1 O b0) _ hR3 b0 none o0).2 j wmb)
        · rcases key ej with ⟨j1, j2⟩ | ⟨j1, j2⟩
          · cases j2
            exact absurd i2 ((@Rel.out (hide1 O b0) _ hR3 b0 none o0).2 i wma)
          · exact @Rel.inj (hide1 O b0) _ hR3 i j b' wma wmb i2 j2
      · have hb' : b' ≠ b0 := fun h => out0 y (h ▸ e)
        obtain ⟨k1, k2⟩ := @Rel.out (hide1 O b0) _ hR3 b' y (by rw [oo hb']; exact e)
        refine ⟨k1, fun id wm' h => ?_⟩
        have h : ιf id = some (b', wm') := h
        rcases Nat.lt_trichotomy id i0 with hlt | he | hgt
        · exact k2 id wm' ((fl hlt).symm.trans h)
        · rw [he, f0] at h
          cases h
          exact hb' rfl
        · by_cases h' : id = i0 + 1
          · subst h'
            exact k2 _ wm' (fn.symm.trans h)
          · rw [fg (by omega)] at h
            cases h
    refine ⟨ιf, ?_, @SRel.mk O _ _ _ _ hRF hsize (fun t v hg => ?_) (defs_nil (@SRel.defs (hide1 O b0) _ _ _ _ hs3)), hevF, fun id hn hnone => ?_⟩
    · cases e2 <;> first | trivial | exact hx3.elim
    · have hg : get (set .nil r0 (AV.mp (i0 + 1))) t = some v := hg
      by_cases ht : r0 = t
      · subst ht
        obtain ⟨c3, hc3, hr3⟩ := @SRel.vars (hide1 O b0) _ _ _ _ hs3 r0 (.mp (i0 + 1)) (by show get (set .nil r0 _) r0 = _; rw [get_set_same])
        rw [get_set_same] at hg
        cases hg
        refine ⟨c3, hc3, ?_⟩
        simp only [VRel] at hr3 ⊢
        obtain ⟨b3, wm3, k1, _, k3⟩ := hr3
        exact ⟨b3, wm3, fn.trans k1, ⟨_, topF, rfl⟩, k3⟩
      · rw [get_set_other _ _ _ _ ht, get_nil] at hg
        cases hg
    · have hnone : cutι ι1 (i0 + 1) id = none := hnone
      obtain ⟨B, hB, hr'⟩ := hn
      have hB : H[id]? = some B := hB
      have hlt := (List.getElem?_eq_some_iff.1 hB).1
      rw [hlen] at hlt
      have hnone : ι1 id = none := by
        simp only [cutι, hlt, if_true] at hnone
        exact hnone
      have hid : id < i0 := by
        by_cases h' : id = i0
        · rw [h', hi1] at hnone; cases hnone
        · omega
      show ιf id = none
      rw [fl hid]
      exact hnon3 id ⟨B, (low2 id hid).trans hB, hr'⟩ ((l2 hid).trans hnone)
theorem loop_sw {P : Program} {m : Bool} {k : Nat} {c : Code} {α : Type} (hm : P.follows .mixedOrders = true) {vars : Trie AV} {t : Trie Blk} {n lo : Nat} {Q : CodeQ} (S : α → List (Nat × AV)) (es : α → List (Value × AV)) (T : List (Nat × Blk)) (μ : α → Nat) (sh : KeyShape) (s r0 i0 : Nat) (Pr : List (Value × AV) → Prop)
  (a0 : α) (hn : n = i0 + 1) (hv : Slots (get vars) t noLo ((s, .mp i0) :: S a0)) (ht : Blks (get t) noLo ((i0, .map sh (es a0)) :: T))
  (hT : ∀ id, id < i0 → ∃ B, get (ofL T) id = some B ∧ B.under i0) (hes : ∀ a, ∀ p ∈ es a, ∃ v, p.2 = .lit v) (hPr : ∀ e, Pr e → ∀ p ∈ e, ∃ v, p.2 = .lit v)
  (body : ∀ a, gCode P m k none c (ofL ((s, .mp i0) :: S a)) (ofL ((i0, .map sh (es a)) :: T)) (i0 + 1) [] noLo (SwR S es μ sh s r0 i0 Pr a))
  (hQ : ∀ es', Pr es' → Q .ret ⟨set .nil r0 (.mp (i0 + 1)), set .nil (i0 + 1) (.map sh es'), i0 + 2, []⟩ lo) : LoopG P none c k vars t n [] lo Q := by
 subst hn
 refine ⟨fun H H0 hH hk => ?_⟩
 have hlen := hH.len
 obtain ⟨es', hP, hin⟩ := sw_core hm S es T μ sh s r0 i0 Pr hT hes hPr body _ a0 rfl H ⟨hlen, fun id B hg => hH.blk _ _ (ht.mem _ (get_ofL hg)).1⟩
 refine ⟨.ret, _, lo, H ++ [.map sh es'], ?_, hk.trans (Keep.append H _ lo) (Nat.le_refl _) (Nat.le_refl _), hin.fewer fun s v hg => ?_, hQ es' hP⟩
 ·have := (HT.nil.push (.map sh es'))
  refine ⟨by rw [List.length_append, hlen]; rfl, fun id B hg => ?_⟩
  by_cases hid : i0 + 1 = id
  ·subst hid
   have hg : get (set .nil (i0 + 1) (Blk.map sh es')) (i0 + 1) = some B := hg
   rw [get_set_same] at hg
   cases hg
   rw [List.getElem?_append_right (by omega), hlen, Nat.sub_self]
   rfl
  ·have hg : get (set .nil (i0 + 1) (Blk.map sh es')) id = some B := hg
   rw [get_set_other _ _ _ _ hid, get_nil] at hg
   cases hg
 ·obtain ⟨v1, g1, g2, _⟩ := hv.mem _ (get_ofL hg)
  exact ⟨v1, g1, g2 _ _ hH⟩
end Go.Vm

namespace Go.Vm
open Go.Proofs
theorem ixS_le {S : Type} [DecidableEq S] (x : S) : ∀ D : List S, ixS x D ≤ D.length
 | [] => Nat.le_refl _
 | y :: D => by
  have ih := ixS_le x D
  unfold ixS
  split
  ·omega
  ·rw [List.length_cons]; omega
theorem vAt_of {vs : List Vers} {n : Nat} (h : n < vs.length) : vs[n]? = some (vAt vs n) ∧ vAt vs n ∈ vs := by
 have e : vAt vs n = vs[n] := by simp [vAt, List.getD, List.getElem?_eq_getElem h]
 rw [e]
 exact ⟨List.getElem?_eq_getElem h, List.getElem_mem h⟩
theorem allP_small {vs : List Vers} (hn : vs.length ≤ 4) (hv : ∀ v ∈ vs, v.length ≤ 4) : (allP vs).length ≤ 16 := by
 have key : ∀ m, m ≤ vs.length → ((List.range m).flatMap (rowS vs)).length ≤ m * 4 := fun m => by
  induction m with
  | zero => intro _; simp
  | succ m ih =>
   intro hm
   have := ih (by omega)
   rw [List.range_succ, List.flatMap_append, List.flatMap_cons, List.flatMap_nil, List.append_nil, List.length_append]
   have hl : (rowS vs m).length ≤ 4 := by
    unfold rowS
    rw [List.length_map, List.length_range]
    exact hv _ (vAt_of (by omega)).2
   omega
 have := key vs.length (Nat.le_refl _)
 have e : allP vs = (List.range vs.length).flatMap (rowS vs) := rfl
 rw [e]
 omega
theorem clR_small {vs : List Vers} {K : Nat} (h : (allP vs).length ≤ 16) : ∀ (r : Nat) (p : Sta), clR vs K r p ≤ 16
 | 0, _ => Nat.zero_le _
 | r + 1, p => by
  have h1 := ixS_le (sgn vs K (clR vs K r) p) (ddS ((allP vs).map (sgn vs K (clR vs K r))))
  have h2 := ddS_length ((allP vs).map (sgn vs K (clR vs K r)))
  rw [List.length_map] at h2
  show ixS _ _ ≤ 16
  omega
theorem sgn_length (vs : List Vers) (K : Nat) (cl : Sta → Nat) (p : Sta) : (sgn vs K cl p).length = 9 := by
 unfold sgn
 simp [sgC_length]
theorem sgn_small {vs : List Vers} {K : Nat} {cl : Sta → Nat} {p : Sta} (h1 : ∀ q, cl q ≤ 16) (h2 : ∀ c, c < K → 0 ≤ ouS vs p c ∧ ouS vs p c ≤ 1000) : ∀ x ∈ sgn vs K cl p, -1 ≤ x ∧ x ≤ 1000 := by
 have key : ∀ c, ∀ x ∈ sgC vs cl p K c, -1 ≤ x ∧ x ≤ 1000 := fun c x hx => by
  unfold sgC at hx
  by_cases hc : c < K
  ·rw [if_pos hc] at hx
   have := h1 (stS vs p c)
   have := h2 c hc
   simp only [List.mem_cons, List.mem_nil_iff, or_false] at hx
   rcases hx with rfl | rfl <;> omega
  ·rw [if_neg hc] at hx
   simp only [List.mem_cons, List.mem_nil_iff, or_false] at hx
   rcases hx with rfl | rfl <;> omega
 intro x hx
 have := h1 p
 unfold sgn at hx
 rcases List.mem_cons.1 hx with rfl | hx
 ·omega
 ·simp only [List.mem_append] at hx
  rcases hx with hx | hx | hx | hx
  ·exact key 0 x hx
  ·exact key 1 x hx
  ·exact key 2 x hx
  ·exact key 3 x hx
theorem ouS_small {b : Book} (hB : BOk b) {p : Sta} (hp : p ∈ allP b.vs) {c : Nat} (hc : c < b.cues.toNat) : 0 ≤ ouS b.vs p c ∧ ouS b.vs p c ≤ 1000 := by
 obtain ⟨h1, h2⟩ := allP_mem.1 hp
 have hV := hB.2 _ (vAt_of h1).2
 obtain ⟨x, k1, k2, _, _⟩ := mv_at hV.vers.1 h2 hc
 have := (hV.1 x (List.mem_of_getElem? k1)).2 _ (List.mem_of_getElem? k2)
 have ht := hB.1.2.1
 unfold inI at this ht
 show 0 ≤ (mv (vAt b.vs p.1) p.2 c).2 ∧ (mv (vAt b.vs p.1) p.2 c).2 ≤ 1000
 omega
theorem under_kE {n N : Nat} (es : List (List Int × Int)) : (Blk.map (.arr N) (kE es)).under n := by
 show AV.unders n ((kE es).map (·.2))
 unfold kE
 rw [List.map_map]
 exact unders_map (f := fun p : List Int × Int => n' p.2) (fun _ => by unfold n'; trivial) es
theorem kE_lits {es : List (List Int × Int)} : ∀ p ∈ kE es, ∃ v, p.2 = .lit v := fun p hp => by
 obtain ⟨q, _, rfl⟩ := List.mem_map.1 hp
 exact ⟨_, rfl⟩
theorem kE_length (es : List (List Int × Int)) : (kE es).length = es.length := List.length_map _
def mapB (vs : List Vers) (n s : Nat) (cl : Sta → Nat) : Blk := .map (.arr 2) (kE (cE (preP vs n s) cl))
def numB (vs : List Vers) (K r n s : Nat) : Blk := .map (.arr 9) (kE (nE (ddS ((preP vs n s).map (sgn vs K (clR vs K r)))) 0))
def nine (l : List Int) : List Int := [l.getD 0 0, l.getD 1 0, l.getD 2 0, l.getD 3 0, l.getD 4 0, l.getD 5 0, l.getD 6 0, l.getD 7 0, l.getD 8 0]
theorem nine_eq {l : List Int} (h : l.length = 9) : nine l = l := by
 match l, h with
 | [_, _, _, _, _, _, _, _, _], _ => rfl
def xB (vs : List Vers) (K r n s c : Nat) : Blk := .box [n' ((sgn vs c (clR vs K r) (n, s)).getD 0 0), n' ((sgn vs c (clR vs K r) (n, s)).getD 1 0), n' ((sgn vs c (clR vs K r) (n, s)).getD 2 0), n' ((sgn vs c (clR vs K r) (n, s)).getD 3 0), n' ((sgn vs c (clR vs K r) (n, s)).getD 4 0), n' ((sgn vs c (clR vs K r) (n, s)).getD 5 0), n' ((sgn vs c (clR vs K r) (n, s)).getD 6 0), n' ((sgn vs c (clR vs K r) (n, s)).getD 7 0), n' ((sgn vs c (clR vs K r) (n, s)).getD 8 0)] 204
theorem xB_under (vs : List Vers) (K r n s c m : Nat) : (xB vs K r n s c).under m := ⟨trivial, trivial, trivial, trivial, trivial, trivial, trivial, trivial, trivial, trivial⟩
def clN (b : Book) (r nw nu nx : Nat) (n : Nat) : List (Nat × AV) := [(1, .ptr 0 0), (3, .mp nw), (7, n' (manyR b.vs b.cues.toNat r : Nat)), (8, .mp nu), (9, .mp nx), (43, eVersions b.vs), (44, n' b.vs.length), (45, n' n)]
def clS (b : Book) (r nw nu nx vid : Nat) (n s : Nat) : List (Nat × AV) := (10, n' n) :: (11, .ptr vid 0) :: (52, n' (vAt b.vs n).length) :: (53, n' s) :: clN b r nw nu nx n
def clC (b : Book) (r nw nu nx vid xid : Nat) (n s c : Nat) : List (Nat × AV) := (12, n' s) :: (13, .ptr xid 0) :: (63, n' b.cues) :: (64, n' c) :: clS b r nw nu nx vid n s
def blN (b : Book) (r nw nu nx n s : Nat) : List (Nat × Blk) := [(0, bBox b), (nw, mapB b.vs b.vs.length 0 (clR b.vs b.cues.toNat r)), (nu, numB b.vs b.cues.toNat r n s), (nx, mapB b.vs n s (clR b.vs b.cues.toNat (r + 1)))]
theorem next_value {vs : List Vers} {K r n s : Nat} (hn : n < vs.length) (hs : s < (vAt vs n).length) : clR vs K (r + 1) (n, s) = ixS (sgn vs K (clR vs K r) (n, s)) (ddS ((preP vs n (s + 1)).map (sgn vs K (clR vs K r)))) := by
 obtain ⟨R, hR⟩ := preP_more (s := s + 1) hn (by omega)
 show ixS _ (ddS ((allP vs).map _)) = _
 rw [hR, List.map_append]
 refine ddS_ix (List.mem_map.2 ⟨(n, s), ?_, rfl⟩)
 rw [preP_succ]
 simp
theorem mapB_next {vs : List Vers} {n s : Nat} {cl : Sta → Nat} {v : Int} (hv : v = (cl (n, s) : Nat)) : Blk.map (.arr 2) (kE (cE (preP vs n s) cl ++ [([(n : Int), (s : Int)], v)])) = mapB vs n (s + 1) cl := by
 subst hv
 unfold mapB
 rw [preP_succ, cE_snoc]
theorem mapB_row {vs : List Vers} {n : Nat} {cl : Sta → Nat} : mapB vs n (vAt vs n).length cl = mapB vs (n + 1) 0 cl := by
 unfold mapB
 rw [preP_row]
theorem numB_row {vs : List Vers} {K r n : Nat} : numB vs K r n (vAt vs n).length = numB vs K r (n + 1) 0 := by
 unfold numB
 rw [preP_row]
theorem numB_old {vs : List Vers} {K r n s : Nat} (h : sgn vs K (clR vs K r) (n, s) ∈ ddS ((preP vs n s).map (sgn vs K (clR vs K r)))) : ddS ((preP vs n (s + 1)).map (sgn vs K (clR vs K r))) = ddS ((preP vs n s).map (sgn vs K (clR vs K r))) := by
 rw [preP_succ, List.map_append]
 show ddS (_ ++ [_]) = _
 rw [ddS_snoc]
 exact if_pos h
theorem numB_new {vs : List Vers} {K r n s : Nat} (h : sgn vs K (clR vs K r) (n, s) ∉ ddS ((preP vs n s).map (sgn vs K (clR vs K r)))) : ddS ((preP vs n (s + 1)).map (sgn vs K (clR vs K r))) = ddS ((preP vs n s).map (sgn vs K (clR vs K r))) ++ [sgn vs K (clR vs K r) (n, s)] := by
 rw [preP_succ, List.map_append]
 show ddS (_ ++ [_]) = _
 rw [ddS_snoc]
 exact if_neg h
theorem now_look {vs : List Vers} {n s : Nat} {cl : Sta → Nat} {i : Int} (hi : i = s) (h : (n, s) ∈ allP vs) : lookI (cE (preP vs vs.length 0) cl) [(n : Int), i] = some ((cl (n, s) : Nat) : Int) := by
 subst hi
 rw [preP_all]
 exact cE_look h
def ClassOk (b : Book) (es : List (Value × AV)) : Prop := ∃ cl : Sta → Nat, es = kE (cE (allP b.vs) cl) ∧ (∀ p, cl p ≤ 16) ∧ ∀ p ∈ allP b.vs, ∀ q ∈ allP b.vs, (cl p = cl q ↔ ∀ l, OkL b.cues.toNat l → trM (stS b.vs) (ouS b.vs) p l = trM (stS b.vs) (ouS b.vs) q l)
set_option maxHeartbeats 40000000 in
set_option maxRecDepth 100000 in
theorem c_classes {b : Book} (hB : BOk b) : ∃ es, ClassOk b es ∧ ∀ H, ACall Tryz.prog 68 [eBook b] H (.ret (.mp H.length)) (H ++ [.map (.arr 2) es]) := by
 have hbc := hB.1.1
 have hvn4 := hB.1.2.2
 unfold inI at hbc hvn4
 have hsm := allP_small (vs := b.vs) (by omega) (fun v hv => by have := (hB.2 v hv).2; unfold inI at this; omega)
 have hcs := clR_small (K := b.cues.toNat) hsm
 refine fn_ruleN (m := false) (fn := Tryz.f68) (c := (Tryz.f68.body).getD .skip) (sh := .arr 2) _ mixed (by kernel_rfl) (by kernel_rfl) (of_decide_eq_true (by kernel_rfl)) ?_ ?_
 ·exact ⟨under_eBook 0 _, trivial⟩
 ·refine LoopG.at (n0 := 2) rfl (loop_up mixed (m := false) (fun n => [(1, .ptr 0 0), (3, .mp 1), (21, eVersions b.vs), (22, n' b.vs.length), (23, n' n)]) (fun n => [(0, bBox b), (1, mapB b.vs n 0 (clR b.vs b.cues.toNat 0))]) (fun _ => True) b.vs.length 1 (leb rfl) trivial ?_ ?_ ?_)
  ·repeat first | exact trivial | refine ⟨⟨_, rfl, Weak.refl _ _, by first | exact trivial | exact ltb rfl | exact under_eVersions _ _⟩, ?_⟩
  ·repeat first | exact trivial | refine ⟨bk rfl rfl, ?_⟩
  intro n hn _
  refine If.mk (fun h1 => ?_) (fun h1 => ?_)
  ·refine ifY ?_
   have hn' : n < b.vs.length := by omega
   obtain ⟨hvn, hvm⟩ := vAt_of hn'
   have hv4 := (hB.2 _ hvm).2
   unfold inI at hv4
   refine Ex.mk _ (jx_versions (r := n) rfl hvn) ?_
   refine Ex.mk _ rfl ?_
   refine LoopG.at (n0 := 3) rfl (loop_up mixed (m := false) (fun s => [(1, .ptr 0 0), (3, .mp 1), (4, n' n), (21, eVersions b.vs), (22, n' b.vs.length), (23, n' n), (30, n' (vAt b.vs n).length), (31, n' s)]) (fun s => [(0, bBox b), (1, mapB b.vs n s (clR b.vs b.cues.toNat 0)), (2, vBox (vAt b.vs n))]) (fun _ => True) (vAt b.vs n).length 1 (leb rfl) trivial ?_ ?_ ?_)
   ·repeat first | exact trivial | refine ⟨⟨_, rfl, Weak.refl _ _, by first | exact trivial | exact ltb rfl | exact under_eVersions _ _⟩, ?_⟩
   ·repeat first | exact trivial | refine ⟨bk rfl rfl, ?_⟩
   ·intro s hs _
    refine If.mk (fun h2 => ?_) (fun h2 => ?_)
    ·refine ifY ?_
     refine Ex.mk _ (aop_setK (kt := 139) (et := 3) (key := [(n : Int), (s : Int)]) rfl rfl rfl rfl rfl (by kernel_rfl) rfl (fun x hx => by simp at hx; omega) (cE_new preP_new) (v := ((clR b.vs b.cues.toNat 0 (n, s) : Nat) : Int))) ?_
     refine Side.mk (fits64 (by omega)) ?_
     refine ⟨leb rfl, rfl, by omega, trivial, ?_, ⟨bk rfl rfl, ⟨congrArg some (mapB_next rfl), ltb rfl⟩, bk rfl rfl, trivial⟩, ?_⟩
     ·repeat first | exact trivial | refine ⟨⟨_, rfl, Weak.refl _ _, by first | exact trivial | exact ltb rfl | exact under_eVersions _ _⟩, ?_⟩
     ·repeat first | exact trivial | refine ⟨⟨_, rfl, by first | exact under_kE _ | exact vBox_under _ _ | exact xB_under _ _ _ _ _ _ _⟩, ?_⟩
    ·refine ifN ?_
     obtain rfl : s = (vAt b.vs n).length := by omega
     refine ⟨leb rfl, ?_⟩
     refine Side.mk (fits64 (by omega)) ?_
     refine ⟨leb rfl, rfl, by omega, trivial, ?_, ⟨bk rfl rfl, ⟨congrArg some mapB_row, ltb rfl⟩, trivial⟩, ?_⟩
     ·repeat first | exact trivial | refine ⟨⟨_, rfl, Weak.refl _ _, by first | exact trivial | exact ltb rfl | exact under_eVersions _ _⟩, ?_⟩
     ·repeat first | exact trivial | refine ⟨⟨_, rfl, by first | exact under_kE _ | exact vBox_under _ _ | exact xB_under _ _ _ _ _ _ _⟩, ?_⟩
  refine ifN ?_
  obtain rfl : n = b.vs.length := by omega
  refine ⟨leb rfl, ?_⟩
  have hv : ∀ v ∈ b.vs, VersOk v b.cues.toNat := fun v hv => (hB.2 v hv).vers.1
  have hne : allP b.vs ≠ [] := fun e => by
   have : ((0, 0) : Sta) ∈ allP b.vs := allP_mem.2 ⟨by omega, (hB.2 _ (vAt_of (show 0 < b.vs.length by omega)).2).vers.2⟩
   rw [e] at this
   cases this
  refine LoopG.at (n0 := 2) rfl (loop_sw (m := false) (α := { r : Nat // ∀ q, q < r → manyR b.vs b.cues.toNat (q + 1) ≠ manyR b.vs b.cues.toNat q }) mixed (fun a => [(1, .ptr 0 0), (7, n' (manyR b.vs b.cues.toNat a.1 : Nat))]) (fun a => kE (cE (allP b.vs) (clR b.vs b.cues.toNat a.1))) [(0, bBox b)] (fun a => 17 - a.1) (.arr 2) 3 2 1 (ClassOk b) ⟨0, fun q h => by omega⟩ rfl ?_ ?_ ?_ ?_ ?_ ?_ ?_)
  ·exact ⟨wp rfl (ltb rfl), wp rfl (ltb rfl), wp rfl trivial, trivial⟩
  ·refine ⟨⟨?_, ltb rfl⟩, bk rfl rfl, trivial⟩
   show some (mapB b.vs b.vs.length 0 (clR b.vs b.cues.toNat 0)) = _
   unfold mapB
   rw [preP_all]
  ·intro id hid
   obtain rfl : id = 0 := by omega
   exact ⟨bBox b, rfl, bBox_under _ _⟩
  ·exact fun a => kE_lits
  ·rintro e ⟨cl, rfl, _⟩
   exact kE_lits
  ·rintro ⟨r, hr⟩
   refine LoopG.at (n0 := 4) rfl (loop_up mixed (m := false) (clN b r 1 2 3) (fun n => blN b r 1 2 3 n 0) (fun _ => True) b.vs.length 2 (leb rfl) trivial ?_ ?_ ?_)
   ·repeat first | exact trivial | refine ⟨⟨_, rfl, Weak.refl _ _, by first | exact trivial | exact ltb rfl | exact under_eVersions _ _⟩, ?_⟩
   ·refine ⟨bk rfl rfl, ⟨?_, ltb rfl⟩, bk rfl rfl, bk rfl rfl, trivial⟩
    show some (Blk.map (.arr 2) (kE (cE (allP b.vs) (clR b.vs b.cues.toNat r)))) = some (mapB b.vs b.vs.length 0 (clR b.vs b.cues.toNat r))
    unfold mapB
    rw [preP_all]
   intro n hn _
   refine If.mk (fun h1 => ?_) (fun h1 => ?_)
   ·refine ifY ?_
    have hn' : n < b.vs.length := by omega
    obtain ⟨hvn, hvm⟩ := vAt_of hn'
    have hV := hB.2 _ hvm
    have hv4 := hV.2
    unfold inI at hv4
    refine Ex.mk _ (jx_versions (r := n) rfl hvn) ?_
    refine Ex.mk _ rfl ?_
    refine LoopG.at (n0 := 5) rfl (loop_up mixed (m := false) (clS b r 1 2 3 4 n) (fun s => (4, vBox (vAt b.vs n)) :: blN b r 1 2 3 n s) (fun _ => True) (vAt b.vs n).length 2 (leb rfl) trivial ?_ ?_ ?_)
    ·repeat first | exact trivial | refine ⟨⟨_, rfl, Weak.refl _ _, by first | exact trivial | exact ltb rfl | exact under_eVersions _ _⟩, ?_⟩
    ·repeat first | exact trivial | refine ⟨bk rfl rfl, ?_⟩
    intro s hs _
    refine If.mk (fun h2 => ?_) (fun h2 => ?_)
    ·refine ifY ?_
     have hs' : s < (vAt b.vs n).length := by omega
     have hp : (n, s) ∈ allP b.vs := allP_mem.2 ⟨hn', hs'⟩
     have hcp := hcs r (n, s)
     refine Ex.mk _ (aop_lookK (kt := 139) (et := 3) (key := [(n : Int), (s : Int)]) rfl rfl rfl rfl (by kernel_rfl) (by kernel_rfl) rfl (fun x hx => by simp at hx; omega) (now_look rfl hp)) ?_
     refine LoopG.at (n0 := 6) rfl (loop_up mixed (m := false) (clC b r 1 2 3 4 5 n s) (fun c => (5, xB b.vs b.cues.toNat r n s c) :: (4, vBox (vAt b.vs n)) :: blN b r 1 2 3 n s) (fun _ => True) b.cues.toNat 5 (leb rfl) trivial ?_ ?_ ?_)
     ·repeat first | exact trivial | refine ⟨⟨_, rfl, Weak.refl _ _, by first | exact trivial | exact ltb rfl | exact under_eVersions _ _⟩, ?_⟩
     ·repeat first | exact trivial | refine ⟨bk rfl rfl, ?_⟩
     ·intro c hc _
      refine If.mk (fun h3 => ?_) (fun h3 => ?_)
      ·refine ifY ?_
       obtain ⟨y, hy1, hy2, hy3, hy4⟩ := mv_at hV.vers.1 hs' (show c < b.cues.toNat by omega)
       have hq : (n, (mv (vAt b.vs n) s c).1.toNat) ∈ allP b.vs := allP_mem.2 ⟨hn', hy3⟩
       refine CallG.pure _ (c_hears hy1 hy2) ?_
       rcases (show c = 0 ∨ c = 1 ∨ c = 2 ∨ c = 3 by omega) with rfl | rfl | rfl | rfl
       all_goals
        refine PickW.mk [5] ?_
        iterate 4 refine Side.mk (by unfold fitsK; kernel_rfl) ?_
        refine Ex.mk _ (aop_lookK (kt := 139) (et := 3) (key := [(n : Int), _]) rfl rfl rfl rfl (by kernel_rfl) (by kernel_rfl) rfl (fun x hx => by simp at hx; omega) (now_look hy4.symm hq)) ?_
        refine Side.mk (by unfold fitsK; kernel_rfl) ?_
        refine ⟨leb rfl, rfl, by omega, trivial, ?_, ?_, ?_⟩
        ·repeat first | exact trivial | refine ⟨⟨_, rfl, Weak.refl _ _, by first | exact trivial | exact ltb rfl | exact under_eVersions _ _⟩, ?_⟩
        ·repeat first | exact trivial | refine ⟨bk rfl rfl, ?_⟩
        ·first
          | exact ⟨⟨xB b.vs b.cues.toNat r n s 1, rfl, xB_under _ _ _ _ _ _ _⟩, trivial⟩
          | exact ⟨⟨xB b.vs b.cues.toNat r n s 2, rfl, xB_under _ _ _ _ _ _ _⟩, trivial⟩
          | exact ⟨⟨xB b.vs b.cues.toNat r n s 3, rfl, xB_under _ _ _ _ _ _ _⟩, trivial⟩
          | exact ⟨⟨xB b.vs b.cues.toNat r n s 4, rfl, xB_under _ _ _ _ _ _ _⟩, trivial⟩
      ·refine ifN ?_
       obtain rfl : c = b.cues.toNat := by omega
       refine ⟨leb rfl, ?_⟩
       have hxs : ∀ x ∈ sgn b.vs b.cues.toNat (clR b.vs b.cues.toNat r) (n, s), -1 ≤ x ∧ x ≤ 1000 := sgn_small (hcs r) (fun c hc => ouS_small hB hp hc)
       have hnv : lookI (nE (ddS ((preP b.vs n (s + 1)).map (sgn b.vs b.cues.toNat (clR b.vs b.cues.toNat r)))) 0) (sgn b.vs b.cues.toNat (clR b.vs b.cues.toNat r) (n, s)) = some ((clR b.vs b.cues.toNat (r + 1) (n, s) : Nat) : Int) := by
        rw [nE_look (ddS_mem.2 (List.mem_map.2 ⟨(n, s), by rw [preP_succ]; simp, rfl⟩)), Nat.zero_add, next_value hn' hs']
       have h9 := nine_eq (sgn_length b.vs b.cues.toNat (clR b.vs b.cues.toNat r) (n, s))
       by_cases hm : sgn b.vs b.cues.toNat (clR b.vs b.cues.toNat r) (n, s) ∈ ddS ((preP b.vs n s).map (sgn b.vs b.cues.toNat (clR b.vs b.cues.toNat r)))
       ·have hold := numB_old hm
        refine Ex.mk _ (aop_lookK2 (kt := 204) (et := 3) (key := nine (sgn b.vs b.cues.toNat (clR b.vs b.cues.toNat r) (n, s))) rfl rfl rfl rfl (by kernel_rfl) (by kernel_rfl) rfl (by rw [h9]; exact hxs) (by rw [h9]; exact nE_look hm)) ?_
        refine ifN ?_
        rw [hold] at hnv
        refine Ex.mk _ (aop_lookK (kt := 204) (et := 3) (key := nine (sgn b.vs b.cues.toNat (clR b.vs b.cues.toNat r) (n, s))) rfl rfl rfl rfl (by kernel_rfl) (by kernel_rfl) rfl (by rw [h9]; exact hxs) (by rw [h9]; exact hnv)) ?_
        refine Ex.mk _ (aop_setK (kt := 139) (et := 3) (key := [(n : Int), (s : Int)]) rfl rfl rfl rfl rfl (by kernel_rfl) rfl (fun x hx => by simp at hx; omega) (cE_new preP_new)) ?_
        refine Side.mk (fits64 (by omega)) ?_
        refine ⟨leb rfl, rfl, by omega, trivial, ?_, ⟨bk rfl rfl, bk rfl rfl, bk rfl rfl, ⟨(by show some (numB b.vs b.cues.toNat r n s) = some (numB b.vs b.cues.toNat r n (s + 1)); unfold numB; rw [hold]), ltb rfl⟩, ⟨congrArg some (mapB_next rfl), ltb rfl⟩, trivial⟩, ?_⟩
        ·repeat first | exact trivial | refine ⟨⟨_, rfl, Weak.refl _ _, by first | exact trivial | exact ltb rfl | exact under_eVersions _ _⟩, ?_⟩
        ·repeat first | exact trivial | refine ⟨⟨_, rfl, by first | exact under_kE _ | exact vBox_under _ _ | exact xB_under _ _ _ _ _ _ _⟩, ?_⟩
       ·have hnew := numB_new hm
        refine Ex.mk _ (aop_lookN2 (kt := 204) (et := 3) (key := nine (sgn b.vs b.cues.toNat (clR b.vs b.cues.toNat r) (n, s))) rfl rfl rfl rfl (by kernel_rfl) (by kernel_rfl) rfl (by rw [h9]; exact hxs) (by rw [h9]; exact lookI_none (nE_keys hm))) ?_
        refine ifY ?_
        have hset : Blk.map (.arr 9) (kE (nE (ddS ((preP b.vs n s).map (sgn b.vs b.cues.toNat (clR b.vs b.cues.toNat r)))) 0 ++ [(nine (sgn b.vs b.cues.toNat (clR b.vs b.cues.toNat r) (n, s)), (((kE (nE (ddS ((preP b.vs n s).map (sgn b.vs b.cues.toNat (clR b.vs b.cues.toNat r)))) 0)).length : Nat) : Int))])) = numB b.vs b.cues.toNat r n (s + 1) := by
         unfold numB
         rw [h9, hnew, nE_snoc, kE_length, nE_length, Nat.zero_add]
        refine Ex.mk _ ((aop_setK (kt := 204) (et := 3) (N := 9) (key := nine (sgn b.vs b.cues.toNat (clR b.vs b.cues.toNat r) (n, s))) (es := nE (ddS ((preP b.vs n s).map (sgn b.vs b.cues.toNat (clR b.vs b.cues.toNat r)))) 0) (v := (((kE (nE (ddS ((preP b.vs n s).map (sgn b.vs b.cues.toNat (clR b.vs b.cues.toNat r)))) 0)).length : Nat) : Int)) rfl rfl rfl rfl rfl (by kernel_rfl) rfl (by rw [h9]; exact hxs) (by rw [h9]; exact nE_keys hm)).trans (congrArg (fun B => some (DR.val (.lit undef) (Dl.set 2 B))) hset)) ?_
        refine Ex.mk _ (aop_lookK (kt := 204) (et := 3) (key := nine (sgn b.vs b.cues.toNat (clR b.vs b.cues.toNat r) (n, s))) rfl rfl rfl rfl (by kernel_rfl) (by kernel_rfl) rfl (by rw [h9]; exact hxs) (by rw [h9]; exact hnv)) ?_
        refine Ex.mk _ (aop_setK (kt := 139) (et := 3) (key := [(n : Int), (s : Int)]) rfl rfl rfl rfl rfl (by kernel_rfl) rfl (fun x hx => by simp at hx; omega) (cE_new preP_new)) ?_
        refine Side.mk (fits64 (by omega)) ?_
        refine ⟨leb rfl, rfl, by omega, trivial, ?_, ⟨bk rfl rfl, bk rfl rfl, bk rfl rfl, bk rfl rfl, ⟨congrArg some (mapB_next rfl), ltb rfl⟩, trivial⟩, ?_⟩
        ·repeat first | exact trivial | refine ⟨⟨_, rfl, Weak.refl _ _, by first | exact trivial | exact ltb rfl | exact under_eVersions _ _⟩, ?_⟩
        ·repeat first | exact trivial | refine ⟨⟨_, rfl, by first | exact under_kE _ | exact vBox_under _ _ | exact xB_under _ _ _ _ _ _ _⟩, ?_⟩
    ·refine ifN ?_
     obtain rfl : s = (vAt b.vs n).length := by omega
     refine ⟨leb rfl, ?_⟩
     refine Side.mk (fits64 (by omega)) ?_
     refine ⟨leb rfl, rfl, by omega, trivial, ?_, ⟨bk rfl rfl, bk rfl rfl, ⟨congrArg some numB_row, ltb rfl⟩, ⟨congrArg some mapB_row, ltb rfl⟩, trivial⟩, ?_⟩
     ·repeat first | exact trivial | refine ⟨⟨_, rfl, Weak.refl _ _, by first | exact trivial | exact ltb rfl | exact under_eVersions _ _⟩, ?_⟩
     ·repeat first | exact trivial | refine ⟨⟨_, rfl, by first | exact under_kE _ | exact vBox_under _ _ | exact xB_under _ _ _ _ _ _ _⟩, ?_⟩
   ·refine ifN ?_
    obtain rfl : n = b.vs.length := by omega
    refine ⟨leb rfl, ?_⟩
    have hlen : (kE (nE (ddS ((preP b.vs b.vs.length 0).map (sgn b.vs b.cues.toNat (clR b.vs b.cues.toNat r)))) 0)).length = manyR b.vs b.cues.toNat (r + 1) := by
     rw [kE_length, nE_length, preP_all]
     rfl
    have hmap : mapB b.vs b.vs.length 0 (clR b.vs b.cues.toNat (r + 1)) = Blk.map (.arr 2) (kE (cE (allP b.vs) (clR b.vs b.cues.toNat (r + 1)))) := by
     unfold mapB
     rw [preP_all]
    refine If.mk (fun he => ?_) (fun he => ?_)
    ·refine ifY ?_
     rw [hlen] at he
     have he' : manyR b.vs b.cues.toNat (r + 1) = manyR b.vs b.cues.toNat r := by omega
     refine ⟨leb rfl, rfl, 3, _, leb rfl, rfl, congrArg some hmap, clR b.vs b.cues.toNat (r + 1), rfl, hcs (r + 1), fun p hp q hq => stable hv (by omega) hne he' hp hq⟩
    ·refine ifN ?_
     rw [hlen] at he
     have hr' : ∀ q, q < r + 1 → manyR b.vs b.cues.toNat (q + 1) ≠ manyR b.vs b.cues.toNat q := fun q hq e => by
      by_cases hqr : q = r
      ·subst hqr
       exact he (by omega)
      ·exact hr q (by omega) e
     have h16 := many_grows hne (r + 1) hr'
     have h17 := many_le (vs := b.vs) (K := b.cues.toNat) r
     refine ⟨leb rfl, rfl, ⟨r + 1, hr'⟩, ?_, ⟨3, leb rfl, rfl, congrArg some hmap⟩, wp rfl (ltb rfl), ⟨_, rfl, Weak.of_eq (?_), trivial⟩, trivial⟩
     ·show 17 - (r + 1) < 17 - r
      omega
     ·exact congrArg n' (congrArg Int.ofNat hlen)
  ·intro es' hes
   exact ⟨.inl rfl, rfl, _, _, rfl, rfl, (by obtain ⟨cl, rfl, _⟩ := hes; exact kE_lits), hes⟩
end Go.Vm

namespace Go.Vm
open Go.Proofs
def clMap (b : Book) (cl : Sta → Nat) : Blk := .map (.arr 2) (kE (cE (allP b.vs) cl))
def joiH (b : Book) (cl : Sta → Nat) : List Blk := [bBox b, clMap b cl, .box [.mp 1] 136]
noncomputable def joiL (b : Book) (cl : Sta → Nat) : List (Nat × Blk) := [(0, bBox b), (1, clMap b cl), (2, .box [.mp 1] 136)]
theorem joiH_under (b : Book) (cl : Sta → Nat) : ∀ B ∈ joiH b cl, B.under 3 := fun B hB => by
 rcases List.mem_cons.1 hB with rfl | hB
 ·exact bBox_under _ _
 ·rcases List.mem_cons.1 hB with rfl | hB
  ·exact under_kE _
  ·rw [List.mem_singleton] at hB; subst hB; exact ⟨ltb rfl, trivial⟩
end Go.Vm

namespace Go.Vm
open Go.Proofs
theorem HT.first3 {t : Trie Blk} {n : Nat} {H : List Blk} {b : Book} {cl : Sta → Nat} (hH : HT t n H) (hb : Blks (get t) noLo (joiL b cl)) : ∃ H2, H = joiH b cl ++ H2 := by
 have e0 : H.take 3 = hp (joiL b cl) := take_full (l := joiL b cl) ⟨rfl, rfl, rfl, trivial⟩ fun q hq => hH.blk _ _ (hb.mem q hq).1
 exact ⟨H.drop 3, by show H = hp (joiL b cl) ++ H.drop 3; rw [← e0, List.take_append_drop]⟩
def stpG (nx : Pos → Nat → Pos) (x : Pos) (l : List Nat) (s : Bf) : Nat → Bf
 | 0 => s
 | r + 1 => if nx x r ∈ (stpG nx x l s r).met then stpG nx x l s r else ⟨(stpG nx x l s r).q ++ [(nx x r, l ++ [r])], (stpG nx x l s r).met ++ [nx x r], (stpG nx x l s r).g + 1⟩
end Go.Vm

namespace Go.Vm
open Go.Proofs
abbrev alC : AV := .fn (.func 69) [] [.ptr 2 0]
def setlH (b : Book) (cl : Sta → Nat) : List Blk := [bBox b, clMap b cl, .box [.mp 1] 136, .box [alC] 121]
noncomputable def setlL (b : Book) (cl : Sta → Nat) : List (Nat × Blk) := [(0, bBox b), (1, clMap b cl), (2, .box [.mp 1] 136), (3, .box [alC] 121)]
theorem setlH_under (b : Book) (cl : Sta → Nat) : ∀ B ∈ setlH b cl, B.under 4 := fun B hB => by
 rcases List.mem_cons.1 hB with rfl | hB
 ·exact bBox_under _ _
 ·rcases List.mem_cons.1 hB with rfl | hB
  ·exact under_kE _
  ·rcases List.mem_cons.1 hB with rfl | hB
   ·exact ⟨ltb rfl, trivial⟩
   ·rw [List.mem_singleton] at hB; subst hB; exact ⟨⟨trivial, ltb rfl, trivial⟩, trivial⟩
theorem HT.first4 {t : Trie Blk} {n : Nat} {H : List Blk} {b : Book} {cl : Sta → Nat} (hH : HT t n H) (hb : Blks (get t) noLo (setlL b cl)) : ∃ H2, H = setlH b cl ++ H2 := by
 have e0 : H.take 4 = hp (setlL b cl) := take_full (l := setlL b cl) ⟨rfl, rfl, rfl, rfl, trivial⟩ fun q hq => hH.blk _ _ (hb.mem q hq).1
 exact ⟨H.drop 4, by show H = hp (setlL b cl) ++ H.drop 4; rw [← e0, List.take_append_drop]⟩
set_option maxRecDepth 100000 in
theorem c_setNext {b : Book} {cl : Sta → Nat} {k c : Nat} (hv : ∀ v ∈ b.vs, VersOk v k) (hc : c < k) (hn : b.vs.length ≤ 4) {p : Pos} (hp : PosK b.vs p) (H2 : List Blk) :
  ACall Tryz.prog 70 [.agg (posA p), n' c, .ptr 0 0] (setlH b cl ++ H2) (.ret (.agg (posA (nextP b.vs p c)))) (setlH b cl ++ H2) := by
 obtain ⟨h0, h1, h2, h3⟩ := hp
 refine fn_pre (m := false) (fn := Tryz.f70) (c := (Tryz.f70.body).getD .skip) (t0 := ofL (setlL b cl)) (n0 := 4) mixed (by kernel_rfl) (by kernel_rfl) (of_decide_eq_true (by kernel_rfl)) (HT.full (l := setlL b cl) ⟨rfl, rfl, rfl, rfl, trivial⟩ rfl) ?_ (setlH_under b cl) rfl ?_ H2
 ·exact ⟨under_posA 4 _, trivial, ltb rfl, trivial⟩
 refine CallG.pure _ (c_posAfter hv hc hn h0 h1 h2 h3 _ _ _ _ _ _) ?_
 exact ⟨.inl rfl, leb rfl, FinF.mk _ rfl rfl rfl⟩
theorem key0 {n : Nat} (hn : n ≤ 3) : ∀ x ∈ [((n : Nat) : Int), 0], -1 ≤ x ∧ x ≤ 1000 := fun x hx => by
 rcases List.mem_cons.1 hx with h1 | h1
 ·omega
 ·rw [List.mem_singleton] at h1
  omega
theorem cl_zero {vs : List Vers} {cl : Sta → Nat} {n : Nat} {p : Int} (h : PosOk vs n p) (h0 : 0 ≤ p) : lookI (cE (allP vs) cl) [((n : Nat) : Int), 0] = some ((cl (n, 0) : Nat) : Int) := by
 rcases h with rfl | ⟨_, h2, h3⟩
 ·omega
 ·refine cE_look (s := 0) (allP_mem.2 ⟨h2, ?_⟩)
  show 0 < (vs.getD n []).length
  omega
set_option maxRecDepth 100000 in
theorem c_al {b : Book} {cl : Sta → Nat} {n m : Nat} {p q : Int} (hn : n ≤ 3) (hm : m ≤ 3) (hp : PosOk b.vs n p) (hp0 : 0 ≤ p) (hq : PosOk b.vs m q) (hq0 : 0 ≤ q) (H2 : List Blk) :
  ACall Tryz.prog 69 [n' (n : Nat), n' (m : Nat), .ptr 2 0] (joiH b cl ++ H2) (.ret (nb (decide (cl (n, 0) = cl (m, 0))))) (joiH b cl ++ H2) := by
 refine fn_pre (m := false) (fn := Tryz.f69) (c := (Tryz.f69.body).getD .skip) (t0 := ofL (joiL b cl)) (n0 := 3) mixed (by kernel_rfl) (by kernel_rfl) (of_decide_eq_true (by kernel_rfl)) (HT.full (l := joiL b cl) ⟨rfl, rfl, rfl, trivial⟩ rfl) ?_ (joiH_under b cl) rfl ?_ H2
 ·exact ⟨trivial, trivial, ltb rfl, trivial⟩
 refine Ex.mk _ (aop_lookK (kt := 139) (et := 3) (key := [((n : Nat) : Int), 0]) rfl rfl rfl rfl (by kernel_rfl) (by kernel_rfl) rfl (key0 hn) (cl_zero hp hp0)) ?_
 refine Ex.mk _ (aop_lookK (kt := 139) (et := 3) (key := [((m : Nat) : Int), 0]) rfl rfl rfl rfl (by kernel_rfl) (by kernel_rfl) rfl (key0 hm) (cl_zero hq hq0)) ?_
 refine If.mk (fun he => ?_) (fun he => ?_)
 ·have he' : cl (n, 0) = cl (m, 0) := by
   have h9 : ((cl (n, 0) : Nat) : Int) = ((cl (m, 0) : Nat) : Int) := he
   omega
  rw [decide_eq_true he']
  exact ⟨.inl rfl, leb rfl, FinF.mk _ rfl rfl rfl⟩
 ·have he' : ¬ cl (n, 0) = cl (m, 0) := fun h9 => he (by rw [h9])
  rw [decide_eq_false he']
  exact ⟨.inl rfl, leb rfl, FinF.mk _ rfl rfl rfl⟩
theorem c_alY {b : Book} {cl : Sta → Nat} {n m : Nat} {p q : Int} (hn : n ≤ 3) (hm : m ≤ 3) (hp : PosOk b.vs n p) (hp0 : 0 ≤ p) (hq : PosOk b.vs m q) (hq0 : 0 ≤ q) (h : cl (n, 0) = cl (m, 0)) (H2 : List Blk) : ACall Tryz.prog 69 [n' (n : Nat), n' (m : Nat), .ptr 2 0] (joiH b cl ++ H2) (.ret (.lit (.bool true))) (joiH b cl ++ H2) := by
 have := c_al (cl := cl) hn hm hp hp0 hq hq0 H2
 rwa [decide_eq_true h] at this
theorem c_alN {b : Book} {cl : Sta → Nat} {n m : Nat} {p q : Int} (hn : n ≤ 3) (hm : m ≤ 3) (hp : PosOk b.vs n p) (hp0 : 0 ≤ p) (hq : PosOk b.vs m q) (hq0 : 0 ≤ q) (h : ¬ cl (n, 0) = cl (m, 0)) (H2 : List Blk) : ACall Tryz.prog 69 [n' (n : Nat), n' (m : Nat), .ptr 2 0] (joiH b cl ++ H2) (.ret (.lit (.bool false))) (joiH b cl ++ H2) := by
 have := c_al (cl := cl) hn hm hp hp0 hq hq0 H2
 rwa [decide_eq_false h] at this
def andI (a b c d e f : Bool) (k : Int) : Int := IntKind.i64.wrap (BitVec.ofInt IntKind.i64.bits (maskI a b c d e f) &&& BitVec.ofInt IntKind.i64.bits k).toNat
theorem mz0 : ∀ a b c d e f : Bool, andI a b c d e f 1 = 0 ↔ a = false := by
 intro a b c d e f; cases a <;> cases b <;> cases c <;> cases d <;> cases e <;> cases f <;> decide
theorem mz1 : ∀ a b c d e f : Bool, andI a b c d e f 2 = 0 ↔ b = false := by
 intro a b c d e f; cases a <;> cases b <;> cases c <;> cases d <;> cases e <;> cases f <;> decide
theorem mz2 : ∀ a b c d e f : Bool, andI a b c d e f 4 = 0 ↔ c = false := by
 intro a b c d e f; cases a <;> cases b <;> cases c <;> cases d <;> cases e <;> cases f <;> decide
theorem mz3 : ∀ a b c d e f : Bool, andI a b c d e f 8 = 0 ↔ d = false := by
 intro a b c d e f; cases a <;> cases b <;> cases c <;> cases d <;> cases e <;> cases f <;> decide
theorem mz4 : ∀ a b c d e f : Bool, andI a b c d e f 16 = 0 ↔ e = false := by
 intro a b c d e f; cases a <;> cases b <;> cases c <;> cases d <;> cases e <;> cases f <;> decide
theorem mz5 : ∀ a b c d e f : Bool, andI a b c d e f 32 = 0 ↔ f = false := by
 intro a b c d e f; cases a <;> cases b <;> cases c <;> cases d <;> cases e <;> cases f <;> decide
def okS (cl : Sta → Nat) (m : Bool) (a b : Nat) (p q : Int) : Bool := m || (!(decide (0 ≤ p) && decide (0 ≤ q)) || decide (cl (a, 0) = cl (b, 0)))
def skB (cl : Sta → Nat) (p0 p1 p2 p3 : Int) (m0 m1 m2 m3 m4 m5 : Bool) (k : Nat) : Bool :=
 (decide (k ≤ 0) || okS cl m0 1 0 p1 p0) && ((decide (k ≤ 1) || okS cl m1 2 0 p2 p0) && ((decide (k ≤ 2) || okS cl m2 2 1 p2 p1) && ((decide (k ≤ 3) || okS cl m3 3 0 p3 p0) && ((decide (k ≤ 4) || okS cl m4 3 1 p3 p1) && (decide (k ≤ 5) || okS cl m5 3 2 p3 p2)))))
noncomputable def sdB (st : LoopState) : Blk := lpB Tryz.f62 st [(2, .ptr 3 0), (3, .ptr 4 0), (4, .ptr 5 0), (8, .fn (.func 164) [] [.ptr 6 0])] 7
theorem under_sdB (st : LoopState) : (sdB st).under 9 := under_lpB ⟨ltb rfl, ltb rfl, ltb rfl, ⟨trivial, ltb rfl, trivial⟩, trivial⟩ (ltb rfl)
noncomputable def sdL (b : Book) (cl : Sta → Nat) (p0 p1 p2 p3 : Int) (m0 m1 m2 m3 m4 m5 : Bool) (st : LoopState) : List (Nat × Blk) :=
 joiL b cl ++ [(3, .box (posC p0 p1 p2 p3 m0 m1 m2 m3 m4 m5) 123), (4, .box [alC] 121), (5, .box [.lit (.bool false)] 4), (6, .box (posC p0 p1 p2 p3 m0 m1 m2 m3 m4 m5) 123), (7, .defd), (8, sdB st)]
set_option maxHeartbeats 8000000 in
set_option maxRecDepth 100000 in
theorem c_setTold {b : Book} {cl : Sta → Nat} {p0 p1 p2 p3 : Int} (h0 : PosOk b.vs 0 p0) (h1 : PosOk b.vs 1 p1) (h2 : PosOk b.vs 2 p2) (h3 : PosOk b.vs 3 p3) (m0 m1 m2 m3 m4 m5 : Bool) (H2 : List Blk) :
  ACall Tryz.prog 62 [.agg (posC p0 p1 p2 p3 m0 m1 m2 m3 m4 m5), alC] (joiH b cl ++ H2) (.ret (nb (skB cl p0 p1 p2 p3 m0 m1 m2 m3 m4 m5 6))) (joiH b cl ++ H2) := by
 refine fn_preM (m := false) (fn := Tryz.f62) (c := (Tryz.f62.body).getD .skip) (t0 := ofL (joiL b cl)) (n0 := 3) mixed (by kernel_rfl) (by kernel_rfl) (of_decide_eq_true (by kernel_rfl)) (HT.full (l := joiL b cl) ⟨rfl, rfl, rfl, trivial⟩ rfl) ?_ (joiH_under b cl) rfl ?_ H2
 ·exact ⟨under_posC 3 _ _ _ _ _ _ _ _ _ _, ⟨trivial, ltb rfl, trivial⟩, trivial⟩
 ·refine CallG.inlineP (m := false) (fn := Tryz.f113) (c := (Tryz.f113.body).getD .skip) mixed (by kernel_rfl) (by kernel_rfl) (of_decide_eq_true (by kernel_rfl)) ?_
  refine .inl ⟨.inl rfl, _, rfl, rfl, ?_⟩
  refine RangeG.fresh (n0 := 7) [(2, .ptr 3 0), (3, .ptr 4 0), (4, .ptr 5 0), (8, .fn (.func 164) [] [.ptr 6 0])] ((sdL b cl p0 p1 p2 p3 m0 m1 m2 m3 m4 m5 .ready).take 7) rfl ?_ ?_ ?_
  ·exact ⟨⟨_, rfl, Weak.refl _ _⟩, ⟨_, rfl, Weak.refl _ _⟩, ⟨_, rfl, Weak.refl _ _⟩, ⟨_, rfl, Weak.refl _ _⟩, trivial⟩
  ·exact ⟨bk rfl rfl, bk rfl rfl, bk rfl rfl, bk rfl rfl, bk rfl rfl, bk rfl rfl, bk rfl rfl, trivial⟩
  refine RangeG.outer (f := 164) (first := []) (captured := [.ptr 6 0]) rfl rfl rfl ?_
  refine CallG.inlineP (m := false) (fn := Tryz.f164) (c := (Tryz.f164.body).getD .skip) mixed (by kernel_rfl) (by kernel_rfl) (of_decide_eq_true (by kernel_rfl)) ?_
  refine LoopG.at (n0 := 9) rfl (loop_up mixed (m := false) (fun a => [(0, .yld 8), (1, .ptr 6 0), (3, n' (kk a : Nat)), (6, n' a)]) (fun _ => sdL b cl p0 p1 p2 p3 m0 m1 m2 m3 m4 m5 .ready) (fun a => skB cl p0 p1 p2 p3 m0 m1 m2 m3 m4 m5 (kk a) = true) 4 5 (leb rfl) rfl ?_ ?_ ?_)
  ·exact ⟨wp rfl (ltb rfl), wp rfl (ltb rfl), wp rfl trivial, wp rfl trivial, trivial⟩
  ·exact ⟨bk rfl rfl, bk rfl rfl, bk rfl rfl, bk rfl rfl, bk rfl rfl, bk rfl rfl, bk rfl rfl, bk rfl rfl, bk rfl rfl, trivial⟩
  ·intro a ha hI
   have ha4 : a = 0 ∨ a = 1 ∨ a = 2 ∨ a = 3 ∨ a = 4 := by omega
   rcases ha4 with rfl | rfl | rfl | rfl | rfl
   ·refine If.mk (fun _ => ?_) (fun h => absurd (by decide) h)
    refine ifY ?_
    refine LoopG.at (n0 := 9) rfl (loop_up mixed (m := false) (fun r => [(0, .yld 8), (1, .ptr 6 0), (3, n' (kk 0 + r : Nat)), (4, n' (0 : Nat)), (6, n' (0 : Nat)), (9, n' (0 : Nat)), (10, n' r)]) (fun _ => sdL b cl p0 p1 p2 p3 m0 m1 m2 m3 m4 m5 .ready) (fun r => skB cl p0 p1 p2 p3 m0 m1 m2 m3 m4 m5 (kk 0 + r) = true) 0 5 (leb rfl) hI ?_ ?_ ?_)
    ·exact ⟨wp rfl (ltb rfl), wp rfl (ltb rfl), wp rfl trivial, wp rfl trivial, wp rfl trivial, wp rfl trivial, wp rfl trivial, trivial⟩
    ·exact ⟨bk rfl rfl, bk rfl rfl, bk rfl rfl, bk rfl rfl, bk rfl rfl, bk rfl rfl, bk rfl rfl, bk rfl rfl, bk rfl rfl, trivial⟩
    ·intro r hr hJ
     obtain rfl : r = 0 := by omega
     refine If.mk (fun h => absurd h (by decide)) (fun _ => ?_)
     refine ifN ?_
     refine ⟨leb rfl, ?_⟩
     refine Side.mk (fits64 (by omega)) ?_
     refine ⟨leb rfl, rfl, by omega, hJ, ⟨wp rfl (ltb rfl), wp rfl (ltb rfl), wp rfl trivial, wp rfl trivial, trivial⟩, ?_, ?_⟩
     ·exact ⟨bk rfl rfl, bk rfl rfl, bk rfl rfl, bk rfl rfl, bk rfl rfl, bk rfl rfl, bk rfl rfl, bk rfl rfl, bk rfl rfl, trivial⟩
     ·exact ⟨⟨_, rfl, trivial, trivial⟩, ⟨_, rfl, under_posC _ _ _ _ _ _ _ _ _ _ _⟩, ⟨_, rfl, trivial⟩, ⟨sdB .ready, rfl, under_sdB _⟩, trivial⟩
   ·refine If.mk (fun _ => ?_) (fun h => absurd (by decide) h)
    refine ifY ?_
    refine LoopG.at (n0 := 9) rfl (loop_up mixed (m := false) (fun r => [(0, .yld 8), (1, .ptr 6 0), (3, n' (kk 1 + r : Nat)), (4, n' (1 : Nat)), (6, n' (1 : Nat)), (9, n' (1 : Nat)), (10, n' r)]) (fun _ => sdL b cl p0 p1 p2 p3 m0 m1 m2 m3 m4 m5 .ready) (fun r => skB cl p0 p1 p2 p3 m0 m1 m2 m3 m4 m5 (kk 1 + r) = true) 1 5 (leb rfl) hI ?_ ?_ ?_)
    ·exact ⟨wp rfl (ltb rfl), wp rfl (ltb rfl), wp rfl trivial, wp rfl trivial, wp rfl trivial, wp rfl trivial, wp rfl trivial, trivial⟩
    ·exact ⟨bk rfl rfl, bk rfl rfl, bk rfl rfl, bk rfl rfl, bk rfl rfl, bk rfl rfl, bk rfl rfl, bk rfl rfl, bk rfl rfl, trivial⟩
    ·intro r hr hJ
     have hr4 : r = 0 ∨ r = 1 := by omega
     rcases hr4 with rfl | rfl
     case' inl =>
      refine If.mk (fun _ => ?_) (fun h => absurd (by decide) h)
      refine ifY ?_
      refine If.mk (fun ga => ?_) (fun ga => ?_)
      case' refine_2 => have e0 : okS cl m0 1 0 p1 p0 = true := by simp [okS, ga]
      case' refine_1 =>
       refine If.mk (fun gb => ?_) (fun gb => ?_)
       case' refine_2 => have e0 : okS cl m0 1 0 p1 p0 = true := by simp [okS, gb]
       case' refine_1 =>
        refine RoundG.fresh (n0 := 9) (sdL b cl p0 p1 p2 p3 m0 m1 m2 m3 m4 m5 .ready) rfl ?_ ?_
        ·exact ⟨bk rfl rfl, bk rfl rfl, bk rfl rfl, bk rfl rfl, bk rfl rfl, bk rfl rfl, bk rfl rfl, bk rfl rfl, bk rfl rfl, trivial⟩
        refine RoundG.introF (m := false) mixed rfl rfl (by decide) ?_
        refine ⟨rfl, _, rfl, rfl, [(2, .ptr 3 0), (3, .ptr 4 0), (4, .ptr 5 0), (5, n' (0 : Nat)), (6, .ptr 9 0)], sdL b cl p0 p1 p2 p3 m0 m1 m2 m3 m4 m5 .busy ++ [(9, .box [n' (1 : Nat), n' (0 : Nat)] 139)], 10, rfl, ?_, ?_, ?_⟩
        ·exact ⟨⟨_, rfl, Weak.refl _ _⟩, ⟨_, rfl, Weak.refl _ _⟩, ⟨_, rfl, Weak.refl _ _⟩, ⟨_, rfl, Weak.refl _ _⟩, ⟨_, rfl, Weak.refl _ _⟩, trivial⟩
        ·exact ⟨bk rfl rfl, bk rfl rfl, bk rfl rfl, bk rfl rfl, bk rfl rfl, bk rfl rfl, bk rfl rfl, bk rfl rfl, bk rfl rfl, bk rfl rfl, trivial⟩
        refine If.mk (fun hz => ?_) (fun hz => ?_)
        case' refine_1 =>
         have hm : m0 = false := (mz0 m0 m1 m2 m3 m4 m5).1 hz
         by_cases hcl : cl (1, 0) = cl (0, 0)
         case' pos =>
          refine CallG.at (.lit (.bool true)) (fun H hH => ?_) ?_
          ·obtain ⟨H2, rfl⟩ := hH.first3 (b := b) (cl := cl) ⟨bk rfl rfl, bk rfl rfl, bk rfl rfl, trivial⟩
           exact c_alY (by decide) (by decide) h1 ga h0 gb hcl H2
          refine ifN ?_
          refine ⟨_, _, rfl, rfl, ?_⟩
          have e0 : okS cl m0 1 0 p1 p0 = true := by simp [okS, hcl]
         case' neg =>
          refine CallG.at (.lit (.bool false)) (fun H hH => ?_) ?_
          ·obtain ⟨H2, rfl⟩ := hH.first3 (b := b) (cl := cl) ⟨bk rfl rfl, bk rfl rfl, bk rfl rfl, trivial⟩
           exact c_alN (by decide) (by decide) h1 ga h0 gb hcl H2
          refine ifY ?_
          refine ⟨_, _, rfl, rfl, ?_⟩
          refine ifY ?_
          refine ⟨leb rfl, leb rfl, .inl ⟨.inl rfl, _, rfl, rfl, _, _, rfl, (fun e => by cases e), rfl, .inl rfl, leb rfl, FinP.mk _ rfl rfl ?_⟩⟩
          have e0 : okS cl m0 1 0 p1 p0 = false := by simp [okS, ga, gb, hm, hcl]
          show AV.lit (.bool false) = nb (skB cl p0 p1 p2 p3 m0 m1 m2 m3 m4 m5 6)
          simp [skB, e0, nb]
        case' refine_2 =>
         have hm : m0 = true := by
          have h := fun e => hz ((mz0 m0 m1 m2 m3 m4 m5).2 e)
          revert h
          cases m0 <;> simp
         refine ifN ?_
         refine ⟨_, _, rfl, rfl, ?_⟩
         have e0 : okS cl m0 1 0 p1 p0 = true := by simp [okS, hm]
     case' inr =>
      refine If.mk (fun h => absurd h (by decide)) (fun _ => ?_)
      refine ifN ?_
      refine ⟨leb rfl, ?_⟩
      refine Side.mk (fits64 (by omega)) ?_
      refine ⟨leb rfl, rfl, by omega, hJ, ⟨wp rfl (ltb rfl), wp rfl (ltb rfl), wp rfl trivial, wp rfl trivial, trivial⟩, ?_, ?_⟩
      ·exact ⟨bk rfl rfl, bk rfl rfl, bk rfl rfl, bk rfl rfl, bk rfl rfl, bk rfl rfl, bk rfl rfl, bk rfl rfl, bk rfl rfl, trivial⟩
      ·exact ⟨⟨_, rfl, trivial, trivial⟩, ⟨_, rfl, under_posC _ _ _ _ _ _ _ _ _ _ _⟩, ⟨_, rfl, trivial⟩, ⟨sdB .ready, rfl, under_sdB _⟩, trivial⟩
     all_goals
      refine ifN ?_
      refine Side.mk (by unfold fitsK; kernel_rfl) ?_
      refine Side.mk (by unfold fitsK; kernel_rfl) ?_
      refine ⟨leb rfl, rfl, by omega, ?_, ⟨wp rfl (ltb rfl), wp rfl (ltb rfl), wp rfl trivial, wp rfl trivial, wp rfl trivial, wp rfl trivial, wp rfl trivial, trivial⟩, ?_, ?_⟩
      ·have hJ' := hJ
       simp [kk, skB, e0] at hJ' ⊢
       try simp [hJ']
      ·exact ⟨bk rfl rfl, bk rfl rfl, bk rfl rfl, bk rfl rfl, bk rfl rfl, bk rfl rfl, bk rfl rfl, bk rfl rfl, bk rfl rfl, trivial⟩
      ·first | trivial | exact ⟨⟨sdB .ready, rfl, under_sdB _⟩, trivial⟩
   ·refine If.mk (fun _ => ?_) (fun h => absurd (by decide) h)
    refine ifY ?_
    refine LoopG.at (n0 := 9) rfl (loop_up mixed (m := false) (fun r => [(0, .yld 8), (1, .ptr 6 0), (3, n' (kk 2 + r : Nat)), (4, n' (2 : Nat)), (6, n' (2 : Nat)), (9, n' (2 : Nat)), (10, n' r)]) (fun _ => sdL b cl p0 p1 p2 p3 m0 m1 m2 m3 m4 m5 .ready) (fun r => skB cl p0 p1 p2 p3 m0 m1 m2 m3 m4 m5 (kk 2 + r) = true) 2 5 (leb rfl) hI ?_ ?_ ?_)
    ·exact ⟨wp rfl (ltb rfl), wp rfl (ltb rfl), wp rfl trivial, wp rfl trivial, wp rfl trivial, wp rfl trivial, wp rfl trivial, trivial⟩
    ·exact ⟨bk rfl rfl, bk rfl rfl, bk rfl rfl, bk rfl rfl, bk rfl rfl, bk rfl rfl, bk rfl rfl, bk rfl rfl, bk rfl rfl, trivial⟩
    ·intro r hr hJ
     have hr4 : r = 0 ∨ r = 1 ∨ r = 2 := by omega
     rcases hr4 with rfl | rfl | rfl
     case' inl =>
      refine If.mk (fun _ => ?_) (fun h => absurd (by decide) h)
      refine ifY ?_
      refine If.mk (fun ga => ?_) (fun ga => ?_)
      case' refine_2 => have e0 : okS cl m1 2 0 p2 p0 = true := by simp [okS, ga]
      case' refine_1 =>
       refine If.mk (fun gb => ?_) (fun gb => ?_)
       case' refine_2 => have e0 : okS cl m1 2 0 p2 p0 = true := by simp [okS, gb]
       case' refine_1 =>
        refine RoundG.fresh (n0 := 9) (sdL b cl p0 p1 p2 p3 m0 m1 m2 m3 m4 m5 .ready) rfl ?_ ?_
        ·exact ⟨bk rfl rfl, bk rfl rfl, bk rfl rfl, bk rfl rfl, bk rfl rfl, bk rfl rfl, bk rfl rfl, bk rfl rfl, bk rfl rfl, trivial⟩
        refine RoundG.introF (m := false) mixed rfl rfl (by decide) ?_
        refine ⟨rfl, _, rfl, rfl, [(2, .ptr 3 0), (3, .ptr 4 0), (4, .ptr 5 0), (5, n' (1 : Nat)), (6, .ptr 9 0)], sdL b cl p0 p1 p2 p3 m0 m1 m2 m3 m4 m5 .busy ++ [(9, .box [n' (2 : Nat), n' (0 : Nat)] 139)], 10, rfl, ?_, ?_, ?_⟩
        ·exact ⟨⟨_, rfl, Weak.refl _ _⟩, ⟨_, rfl, Weak.refl _ _⟩, ⟨_, rfl, Weak.refl _ _⟩, ⟨_, rfl, Weak.refl _ _⟩, ⟨_, rfl, Weak.refl _ _⟩, trivial⟩
        ·exact ⟨bk rfl rfl, bk rfl rfl, bk rfl rfl, bk rfl rfl, bk rfl rfl, bk rfl rfl, bk rfl rfl, bk rfl rfl, bk rfl rfl, bk rfl rfl, trivial⟩
        refine If.mk (fun hz => ?_) (fun hz => ?_)
        case' refine_1 =>
         have hm : m1 = false := (mz1 m0 m1 m2 m3 m4 m5).1 hz
         by_cases hcl : cl (2, 0) = cl (0, 0)
         case' pos =>
          refine CallG.at (.lit (.bool true)) (fun H hH => ?_) ?_
          ·obtain ⟨H2, rfl⟩ := hH.first3 (b := b) (cl := cl) ⟨bk rfl rfl, bk rfl rfl, bk rfl rfl, trivial⟩
           exact c_alY (by decide) (by decide) h2 ga h0 gb hcl H2
          refine ifN ?_
          refine ⟨_, _, rfl, rfl, ?_⟩
          have e0 : okS cl m1 2 0 p2 p0 = true := by simp [okS, hcl]
         case' neg =>
          refine CallG.at (.lit (.bool false)) (fun H hH => ?_) ?_
          ·obtain ⟨H2, rfl⟩ := hH.first3 (b := b) (cl := cl) ⟨bk rfl rfl, bk rfl rfl, bk rfl rfl, trivial⟩
           exact c_alN (by decide) (by decide) h2 ga h0 gb hcl H2
          refine ifY ?_
          refine ⟨_, _, rfl, rfl, ?_⟩
          refine ifY ?_
          refine ⟨leb rfl, leb rfl, .inl ⟨.inl rfl, _, rfl, rfl, _, _, rfl, (fun e => by cases e), rfl, .inl rfl, leb rfl, FinP.mk _ rfl rfl ?_⟩⟩
          have e0 : okS cl m1 2 0 p2 p0 = false := by simp [okS, ga, gb, hm, hcl]
          show AV.lit (.bool false) = nb (skB cl p0 p1 p2 p3 m0 m1 m2 m3 m4 m5 6)
          simp [skB, e0, nb]
        case' refine_2 =>
         have hm : m1 = true := by
          have h := fun e => hz ((mz1 m0 m1 m2 m3 m4 m5).2 e)
          revert h
          cases m1 <;> simp
         refine ifN ?_
         refine ⟨_, _, rfl, rfl, ?_⟩
         have e0 : okS cl m1 2 0 p2 p0 = true := by simp [okS, hm]
     case' inr.inl =>
      refine If.mk (fun _ => ?_) (fun h => absurd (by decide) h)
      refine ifY ?_
      refine If.mk (fun ga => ?_) (fun ga => ?_)
      case' refine_2 => have e0 : okS cl m2 2 1 p2 p1 = true := by simp [okS, ga]
      case' refine_1 =>
       refine If.mk (fun gb => ?_) (fun gb => ?_)
       case' refine_2 => have e0 : okS cl m2 2 1 p2 p1 = true := by simp [okS, gb]
       case' refine_1 =>
        refine RoundG.fresh (n0 := 9) (sdL b cl p0 p1 p2 p3 m0 m1 m2 m3 m4 m5 .ready) rfl ?_ ?_
        ·exact ⟨bk rfl rfl, bk rfl rfl, bk rfl rfl, bk rfl rfl, bk rfl rfl, bk rfl rfl, bk rfl rfl, bk rfl rfl, bk rfl rfl, trivial⟩
        refine RoundG.introF (m := false) mixed rfl rfl (by decide) ?_
        refine ⟨rfl, _, rfl, rfl, [(2, .ptr 3 0), (3, .ptr 4 0), (4, .ptr 5 0), (5, n' (2 : Nat)), (6, .ptr 9 0)], sdL b cl p0 p1 p2 p3 m0 m1 m2 m3 m4 m5 .busy ++ [(9, .box [n' (2 : Nat), n' (1 : Nat)] 139)], 10, rfl, ?_, ?_, ?_⟩
        ·exact ⟨⟨_, rfl, Weak.refl _ _⟩, ⟨_, rfl, Weak.refl _ _⟩, ⟨_, rfl, Weak.refl _ _⟩, ⟨_, rfl, Weak.refl _ _⟩, ⟨_, rfl, Weak.refl _ _⟩, trivial⟩
        ·exact ⟨bk rfl rfl, bk rfl rfl, bk rfl rfl, bk rfl rfl, bk rfl rfl, bk rfl rfl, bk rfl rfl, bk rfl rfl, bk rfl rfl, bk rfl rfl, trivial⟩
        refine If.mk (fun hz => ?_) (fun hz => ?_)
        case' refine_1 =>
         have hm : m2 = false := (mz2 m0 m1 m2 m3 m4 m5).1 hz
         by_cases hcl : cl (2, 0) = cl (1, 0)
         case' pos =>
          refine CallG.at (.lit (.bool true)) (fun H hH => ?_) ?_
          ·obtain ⟨H2, rfl⟩ := hH.first3 (b := b) (cl := cl) ⟨bk rfl rfl, bk rfl rfl, bk rfl rfl, trivial⟩
           exact c_alY (by decide) (by decide) h2 ga h1 gb hcl H2
          refine ifN ?_
          refine ⟨_, _, rfl, rfl, ?_⟩
          have e0 : okS cl m2 2 1 p2 p1 = true := by simp [okS, hcl]
         case' neg =>
          refine CallG.at (.lit (.bool false)) (fun H hH => ?_) ?_
          ·obtain ⟨H2, rfl⟩ := hH.first3 (b := b) (cl := cl) ⟨bk rfl rfl, bk rfl rfl, bk rfl rfl, trivial⟩
           exact c_alN (by decide) (by decide) h2 ga h1 gb hcl H2
          refine ifY ?_
          refine ⟨_, _, rfl, rfl, ?_⟩
          refine ifY ?_
          refine ⟨leb rfl, leb rfl, .inl ⟨.inl rfl, _, rfl, rfl, _, _, rfl, (fun e => by cases e), rfl, .inl rfl, leb rfl, FinP.mk _ rfl rfl ?_⟩⟩
          have e0 : okS cl m2 2 1 p2 p1 = false := by simp [okS, ga, gb, hm, hcl]
          show AV.lit (.bool false) = nb (skB cl p0 p1 p2 p3 m0 m1 m2 m3 m4 m5 6)
          simp [skB, e0, nb]
        case' refine_2 =>
         have hm : m2 = true := by
          have h := fun e => hz ((mz2 m0 m1 m2 m3 m4 m5).2 e)
          revert h
          cases m2 <;> simp
         refine ifN ?_
         refine ⟨_, _, rfl, rfl, ?_⟩
         have e0 : okS cl m2 2 1 p2 p1 = true := by simp [okS, hm]
     case' inr.inr =>
      refine If.mk (fun h => absurd h (by decide)) (fun _ => ?_)
      refine ifN ?_
      refine ⟨leb rfl, ?_⟩
      refine Side.mk (fits64 (by omega)) ?_
      refine ⟨leb rfl, rfl, by omega, hJ, ⟨wp rfl (ltb rfl), wp rfl (ltb rfl), wp rfl trivial, wp rfl trivial, trivial⟩, ?_, ?_⟩
      ·exact ⟨bk rfl rfl, bk rfl rfl, bk rfl rfl, bk rfl rfl, bk rfl rfl, bk rfl rfl, bk rfl rfl, bk rfl rfl, bk rfl rfl, trivial⟩
      ·exact ⟨⟨_, rfl, trivial, trivial⟩, ⟨_, rfl, under_posC _ _ _ _ _ _ _ _ _ _ _⟩, ⟨_, rfl, trivial⟩, ⟨sdB .ready, rfl, under_sdB _⟩, trivial⟩
     all_goals
      refine ifN ?_
      refine Side.mk (by unfold fitsK; kernel_rfl) ?_
      refine Side.mk (by unfold fitsK; kernel_rfl) ?_
      refine ⟨leb rfl, rfl, by omega, ?_, ⟨wp rfl (ltb rfl), wp rfl (ltb rfl), wp rfl trivial, wp rfl trivial, wp rfl trivial, wp rfl trivial, wp rfl trivial, trivial⟩, ?_, ?_⟩
      ·have hJ' := hJ
       simp [kk, skB, e0] at hJ' ⊢
       try simp [hJ']
      ·exact ⟨bk rfl rfl, bk rfl rfl, bk rfl rfl, bk rfl rfl, bk rfl rfl, bk rfl rfl, bk rfl rfl, bk rfl rfl, bk rfl rfl, trivial⟩
      ·first | trivial | exact ⟨⟨sdB .ready, rfl, under_sdB _⟩, trivial⟩
   ·refine If.mk (fun _ => ?_) (fun h => absurd (by decide) h)
    refine ifY ?_
    refine LoopG.at (n0 := 9) rfl (loop_up mixed (m := false) (fun r => [(0, .yld 8), (1, .ptr 6 0), (3, n' (kk 3 + r : Nat)), (4, n' (3 : Nat)), (6, n' (3 : Nat)), (9, n' (3 : Nat)), (10, n' r)]) (fun _ => sdL b cl p0 p1 p2 p3 m0 m1 m2 m3 m4 m5 .ready) (fun r => skB cl p0 p1 p2 p3 m0 m1 m2 m3 m4 m5 (kk 3 + r) = true) 3 5 (leb rfl) hI ?_ ?_ ?_)
    ·exact ⟨wp rfl (ltb rfl), wp rfl (ltb rfl), wp rfl trivial, wp rfl trivial, wp rfl trivial, wp rfl trivial, wp rfl trivial, trivial⟩
    ·exact ⟨bk rfl rfl, bk rfl rfl, bk rfl rfl, bk rfl rfl, bk rfl rfl, bk rfl rfl, bk rfl rfl, bk rfl rfl, bk rfl rfl, trivial⟩
    ·intro r hr hJ
     have hr4 : r = 0 ∨ r = 1 ∨ r = 2 ∨ r = 3 := by omega
     rcases hr4 with rfl | rfl | rfl | rfl
     case' inl =>
      refine If.mk (fun _ => ?_) (fun h => absurd (by decide) h)
      refine ifY ?_
      refine If.mk (fun ga => ?_) (fun ga => ?_)
      case' refine_2 => have e0 : okS cl m3 3 0 p3 p0 = true := by simp [okS, ga]
      case' refine_1 =>
       refine If.mk (fun gb => ?_) (fun gb => ?_)
       case' refine_2 => have e0 : okS cl m3 3 0 p3 p0 = true := by simp [okS, gb]
       case' refine_1 =>
        refine RoundG.fresh (n0 := 9) (sdL b cl p0 p1 p2 p3 m0 m1 m2 m3 m4 m5 .ready) rfl ?_ ?_
        ·exact ⟨bk rfl rfl, bk rfl rfl, bk rfl rfl, bk rfl rfl, bk rfl rfl, bk rfl rfl, bk rfl rfl, bk rfl rfl, bk rfl rfl, trivial⟩
        refine RoundG.introF (m := false) mixed rfl rfl (by decide) ?_
        refine ⟨rfl, _, rfl, rfl, [(2, .ptr 3 0), (3, .ptr 4 0), (4, .ptr 5 0), (5, n' (3 : Nat)), (6, .ptr 9 0)], sdL b cl p0 p1 p2 p3 m0 m1 m2 m3 m4 m5 .busy ++ [(9, .box [n' (3 : Nat), n' (0 : Nat)] 139)], 10, rfl, ?_, ?_, ?_⟩
        ·exact ⟨⟨_, rfl, Weak.refl _ _⟩, ⟨_, rfl, Weak.refl _ _⟩, ⟨_, rfl, Weak.refl _ _⟩, ⟨_, rfl, Weak.refl _ _⟩, ⟨_, rfl, Weak.refl _ _⟩, trivial⟩
        ·exact ⟨bk rfl rfl, bk rfl rfl, bk rfl rfl, bk rfl rfl, bk rfl rfl, bk rfl rfl, bk rfl rfl, bk rfl rfl, bk rfl rfl, bk rfl rfl, trivial⟩
        refine If.mk (fun hz => ?_) (fun hz => ?_)
        case' refine_1 =>
         have hm : m3 = false := (mz3 m0 m1 m2 m3 m4 m5).1 hz
         by_cases hcl : cl (3, 0) = cl (0, 0)
         case' pos =>
          refine CallG.at (.lit (.bool true)) (fun H hH => ?_) ?_
          ·obtain ⟨H2, rfl⟩ := hH.first3 (b := b) (cl := cl) ⟨bk rfl rfl, bk rfl rfl, bk rfl rfl, trivial⟩
           exact c_alY (by decide) (by decide) h3 ga h0 gb hcl H2
          refine ifN ?_
          refine ⟨_, _, rfl, rfl, ?_⟩
          have e0 : okS cl m3 3 0 p3 p0 = true := by simp [okS, hcl]
         case' neg =>
          refine CallG.at (.lit (.bool false)) (fun H hH => ?_) ?_
          ·obtain ⟨H2, rfl⟩ := hH.first3 (b := b) (cl := cl) ⟨bk rfl rfl, bk rfl rfl, bk rfl rfl, trivial⟩
           exact c_alN (by decide) (by decide) h3 ga h0 gb hcl H2
          refine ifY ?_
          refine ⟨_, _, rfl, rfl, ?_⟩
          refine ifY ?_
          refine ⟨leb rfl, leb rfl, .inl ⟨.inl rfl, _, rfl, rfl, _, _, rfl, (fun e => by cases e), rfl, .inl rfl, leb rfl, FinP.mk _ rfl rfl ?_⟩⟩
          have e0 : okS cl m3 3 0 p3 p0 = false := by simp [okS, ga, gb, hm, hcl]
          show AV.lit (.bool false) = nb (skB cl p0 p1 p2 p3 m0 m1 m2 m3 m4 m5 6)
          simp [skB, e0, nb]
        case' refine_2 =>
         have hm : m3 = true := by
          have h := fun e => hz ((mz3 m0 m1 m2 m3 m4 m5).2 e)
          revert h
          cases m3 <;> simp
         refine ifN ?_
         refine ⟨_, _, rfl, rfl, ?_⟩
         have e0 : okS cl m3 3 0 p3 p0 = true := by simp [okS, hm]
     case' inr.inl =>
      refine If.mk (fun _ => ?_) (fun h => absurd (by decide) h)
      refine ifY ?_
      refine If.mk (fun ga => ?_) (fun ga => ?_)
      case' refine_2 => have e0 : okS cl m4 3 1 p3 p1 = true := by simp [okS, ga]
      case' refine_1 =>
       refine If.mk (fun gb => ?_) (fun gb => ?_)
       case' refine_2 => have e0 : okS cl m4 3 1 p3 p1 = true := by simp [okS, gb]
       case' refine_1 =>
        refine RoundG.fresh (n0 := 9) (sdL b cl p0 p1 p2 p3 m0 m1 m2 m3 m4 m5 .ready) rfl ?_ ?_
        ·exact ⟨bk rfl rfl, bk rfl rfl, bk rfl rfl, bk rfl rfl, bk rfl rfl, bk rfl rfl, bk rfl rfl, bk rfl rfl, bk rfl rfl, trivial⟩
        refine RoundG.introF (m := false) mixed rfl rfl (by decide) ?_
        refine ⟨rfl, _, rfl, rfl, [(2, .ptr 3 0), (3, .ptr 4 0), (4, .ptr 5 0), (5, n' (4 : Nat)), (6, .ptr 9 0)], sdL b cl p0 p1 p2 p3 m0 m1 m2 m3 m4 m5 .busy ++ [(9, .box [n' (3 : Nat), n' (1 : Nat)] 139)], 10, rfl, ?_, ?_, ?_⟩
        ·exact ⟨⟨_, rfl, Weak.refl _ _⟩, ⟨_, rfl, Weak.refl _ _⟩, ⟨_, rfl, Weak.refl _ _⟩, ⟨_, rfl, Weak.refl _ _⟩, ⟨_, rfl, Weak.refl _ _⟩, trivial⟩
        ·exact ⟨bk rfl rfl, bk rfl rfl, bk rfl rfl, bk rfl rfl, bk rfl rfl, bk rfl rfl, bk rfl rfl, bk rfl rfl, bk rfl rfl, bk rfl rfl, trivial⟩
        refine If.mk (fun hz => ?_) (fun hz => ?_)
        case' refine_1 =>
         have hm : m4 = false := (mz4 m0 m1 m2 m3 m4 m5).1 hz
         by_cases hcl : cl (3, 0) = cl (1, 0)
         case' pos =>
          refine CallG.at (.lit (.bool true)) (fun H hH => ?_) ?_
          ·obtain ⟨H2, rfl⟩ := hH.first3 (b := b) (cl := cl) ⟨bk rfl rfl, bk rfl rfl, bk rfl rfl, trivial⟩
           exact c_alY (by decide) (by decide) h3 ga h1 gb hcl H2
          refine ifN ?_
          refine ⟨_, _, rfl, rfl, ?_⟩
          have e0 : okS cl m4 3 1 p3 p1 = true := by simp [okS, hcl]
         case' neg =>
          refine CallG.at (.lit (.bool false)) (fun H hH => ?_) ?_
          ·obtain ⟨H2, rfl⟩ := hH.first3 (b := b) (cl := cl) ⟨bk rfl rfl, bk rfl rfl, bk rfl rfl, trivial⟩
           exact c_alN (by decide) (by decide) h3 ga h1 gb hcl H2
          refine ifY ?_
          refine ⟨_, _, rfl, rfl, ?_⟩
          refine ifY ?_
          refine ⟨leb rfl, leb rfl, .inl ⟨.inl rfl, _, rfl, rfl, _, _, rfl, (fun e => by cases e), rfl, .inl rfl, leb rfl, FinP.mk _ rfl rfl ?_⟩⟩
          have e0 : okS cl m4 3 1 p3 p1 = false := by simp [okS, ga, gb, hm, hcl]
          show AV.lit (.bool false) = nb (skB cl p0 p1 p2 p3 m0 m1 m2 m3 m4 m5 6)
          simp [skB, e0, nb]
        case' refine_2 =>
         have hm : m4 = true := by
          have h := fun e => hz ((mz4 m0 m1 m2 m3 m4 m5).2 e)
          revert h
          cases m4 <;> simp
         refine ifN ?_
         refine ⟨_, _, rfl, rfl, ?_⟩
         have e0 : okS cl m4 3 1 p3 p1 = true := by simp [okS, hm]
     case' inr.inr.inl =>
      refine If.mk (fun _ => ?_) (fun h => absurd (by decide) h)
      refine ifY ?_
      refine If.mk (fun ga => ?_) (fun ga => ?_)
      case' refine_2 => have e0 : okS cl m5 3 2 p3 p2 = true := by simp [okS, ga]
      case' refine_1 =>
       refine If.mk (fun gb => ?_) (fun gb => ?_)
       case' refine_2 => have e0 : okS cl m5 3 2 p3 p2 = true := by simp [okS, gb]
       case' refine_1 =>
        refine RoundG.fresh (n0 := 9) (sdL b cl p0 p1 p2 p3 m0 m1 m2 m3 m4 m5 .ready) rfl ?_ ?_
        ·exact ⟨bk rfl rfl, bk rfl rfl, bk rfl rfl, bk rfl rfl, bk rfl rfl, bk rfl rfl, bk rfl rfl, bk rfl rfl, bk rfl rfl, trivial⟩
        refine RoundG.introF (m := false) mixed rfl rfl (by decide) ?_
        refine ⟨rfl, _, rfl, rfl, [(2, .ptr 3 0), (3, .ptr 4 0), (4, .ptr 5 0), (5, n' (5 : Nat)), (6, .ptr 9 0)], sdL b cl p0 p1 p2 p3 m0 m1 m2 m3 m4 m5 .busy ++ [(9, .box [n' (3 : Nat), n' (2 : Nat)] 139)], 10, rfl, ?_, ?_, ?_⟩
        ·exact ⟨⟨_, rfl, Weak.refl _ _⟩, ⟨_, rfl, Weak.refl _ _⟩, ⟨_, rfl, Weak.refl _ _⟩, ⟨_, rfl, Weak.refl _ _⟩, ⟨_, rfl, Weak.refl _ _⟩, trivial⟩
        ·exact ⟨bk rfl rfl, bk rfl rfl, bk rfl rfl, bk rfl rfl, bk rfl rfl, bk rfl rfl, bk rfl rfl, bk rfl rfl, bk rfl rfl, bk rfl rfl, trivial⟩
        refine If.mk (fun hz => ?_) (fun hz => ?_)
        case' refine_1 =>
         have hm : m5 = false := (mz5 m0 m1 m2 m3 m4 m5).1 hz
         by_cases hcl : cl (3, 0) = cl (2, 0)
         case' pos =>
          refine CallG.at (.lit (.bool true)) (fun H hH => ?_) ?_
          ·obtain ⟨H2, rfl⟩ := hH.first3 (b := b) (cl := cl) ⟨bk rfl rfl, bk rfl rfl, bk rfl rfl, trivial⟩
           exact c_alY (by decide) (by decide) h3 ga h2 gb hcl H2
          refine ifN ?_
          refine ⟨_, _, rfl, rfl, ?_⟩
          have e0 : okS cl m5 3 2 p3 p2 = true := by simp [okS, hcl]
         case' neg =>
          refine CallG.at (.lit (.bool false)) (fun H hH => ?_) ?_
          ·obtain ⟨H2, rfl⟩ := hH.first3 (b := b) (cl := cl) ⟨bk rfl rfl, bk rfl rfl, bk rfl rfl, trivial⟩
           exact c_alN (by decide) (by decide) h3 ga h2 gb hcl H2
          refine ifY ?_
          refine ⟨_, _, rfl, rfl, ?_⟩
          refine ifY ?_
          refine ⟨leb rfl, leb rfl, .inl ⟨.inl rfl, _, rfl, rfl, _, _, rfl, (fun e => by cases e), rfl, .inl rfl, leb rfl, FinP.mk _ rfl rfl ?_⟩⟩
          have e0 : okS cl m5 3 2 p3 p2 = false := by simp [okS, ga, gb, hm, hcl]
          show AV.lit (.bool false) = nb (skB cl p0 p1 p2 p3 m0 m1 m2 m3 m4 m5 6)
          simp [skB, e0, nb]
        case' refine_2 =>
         have hm : m5 = true := by
          have h := fun e => hz ((mz5 m0 m1 m2 m3 m4 m5).2 e)
          revert h
          cases m5 <;> simp
         refine ifN ?_
         refine ⟨_, _, rfl, rfl, ?_⟩
         have e0 : okS cl m5 3 2 p3 p2 = true := by simp [okS, hm]
     case' inr.inr.inr =>
      refine If.mk (fun h => absurd h (by decide)) (fun _ => ?_)
      refine ifN ?_
      refine ⟨leb rfl, ?_⟩
      refine Side.mk (fits64 (by omega)) ?_
      refine ⟨leb rfl, rfl, by omega, hJ, ⟨wp rfl (ltb rfl), wp rfl (ltb rfl), wp rfl trivial, wp rfl trivial, trivial⟩, ?_, ?_⟩
      ·exact ⟨bk rfl rfl, bk rfl rfl, bk rfl rfl, bk rfl rfl, bk rfl rfl, bk rfl rfl, bk rfl rfl, bk rfl rfl, bk rfl rfl, trivial⟩
      ·exact ⟨⟨_, rfl, trivial, trivial⟩, ⟨_, rfl, under_posC _ _ _ _ _ _ _ _ _ _ _⟩, ⟨_, rfl, trivial⟩, ⟨sdB .ready, rfl, under_sdB _⟩, trivial⟩
     all_goals
      refine ifN ?_
      refine Side.mk (by unfold fitsK; kernel_rfl) ?_
      refine Side.mk (by unfold fitsK; kernel_rfl) ?_
      refine ⟨leb rfl, rfl, by omega, ?_, ⟨wp rfl (ltb rfl), wp rfl (ltb rfl), wp rfl trivial, wp rfl trivial, wp rfl trivial, wp rfl trivial, wp rfl trivial, trivial⟩, ?_, ?_⟩
      ·have hJ' := hJ
       simp [kk, skB, e0] at hJ' ⊢
       try simp [hJ']
      ·exact ⟨bk rfl rfl, bk rfl rfl, bk rfl rfl, bk rfl rfl, bk rfl rfl, bk rfl rfl, bk rfl rfl, bk rfl rfl, bk rfl rfl, trivial⟩
      ·first | trivial | exact ⟨⟨sdB .ready, rfl, under_sdB _⟩, trivial⟩
   ·refine If.mk (fun h => absurd h (by decide)) (fun _ => ?_)
    refine ifN ?_
    refine ⟨leb rfl, ?_⟩
    refine .inl ⟨.inr rfl, _, rfl, rfl, ?_⟩
    refine ⟨_, _, rfl, (fun e => by cases e), rfl, ?_⟩
    refine ⟨.inl rfl, leb rfl, FinP.mk _ rfl rfl ?_⟩
    have hI' : skB cl p0 p1 p2 p3 m0 m1 m2 m3 m4 m5 6 = true := hI
    rw [hI']
    rfl
set_option maxRecDepth 100000 in
theorem c_setDone {b : Book} {cl : Sta → Nat} {p0 p1 p2 p3 : Int} (h0 : PosOk b.vs 0 p0) (h1 : PosOk b.vs 1 p1) (h2 : PosOk b.vs 2 p2) (h3 : PosOk b.vs 3 p3) (m0 m1 m2 m3 m4 m5 : Bool) (H2 : List Blk) :
  ACall Tryz.prog 71 [.agg (posC p0 p1 p2 p3 m0 m1 m2 m3 m4 m5), .ptr 3 0] (setlH b cl ++ H2) (.ret (nb (skB cl p0 p1 p2 p3 m0 m1 m2 m3 m4 m5 6))) (setlH b cl ++ H2) := by
 refine fn_pre (m := false) (fn := Tryz.f71) (c := (Tryz.f71.body).getD .skip) (t0 := ofL (setlL b cl)) (n0 := 4) mixed (by kernel_rfl) (by kernel_rfl) (of_decide_eq_true (by kernel_rfl)) (HT.full (l := setlL b cl) ⟨rfl, rfl, rfl, rfl, trivial⟩ rfl) ?_ (setlH_under b cl) rfl ?_ H2
 ·exact ⟨under_posC 4 _ _ _ _ _ _ _ _ _ _, ltb rfl, trivial⟩
 refine CallG.at (nb (skB cl p0 p1 p2 p3 m0 m1 m2 m3 m4 m5 6)) (fun H hH => ?_) ?_
 ·obtain ⟨H2, rfl⟩ := hH.first3 (b := b) (cl := cl) ⟨bk rfl rfl, bk rfl rfl, bk rfl rfl, trivial⟩
  exact c_setTold h0 h1 h2 h3 m0 m1 m2 m3 m4 m5 H2
 exact ⟨.inl rfl, leb rfl, FinF.mk _ rfl rfl rfl⟩
end Go.Vm

namespace Go.Vm
open Go.Proofs
abbrev nxS' : AV := .fn (.func 70) [] [.ptr 0 0]
abbrev dnS' : AV := .fn (.func 71) [] [.ptr 3 0]
def doneK (cl : Sta → Nat) (p : Pos) : Bool := skB cl p.1.1 p.1.2.1 p.1.2.2.1 p.1.2.2.2 p.2.1 p.2.2.1 p.2.2.2.1 p.2.2.2.2.1 p.2.2.2.2.2.1 p.2.2.2.2.2.2 6
theorem wk_begin6 {t : Trie Blk} {st : Pos} (hr : get t 6 = some (.row 0)) : Weak t (.sl 1 (posA st ++ [.lit (.slice none 0 0)]) .full) (.sl 1 (waysA [(st, [])]) (.own 6 0 6)) := fun n H hH O ι w c h => by
 have h1 := WeakH.fullOwnN (H := H) (r := 6) (len := 1) (sz := 6) (cells := posA st ++ [.lit (.slice none 0 0)]) rfl (hH.blk _ _ hr) O ι w c h
 exact wk_sl (Weaks.snoc (fun H => wk_nil H) (posA st)) O ι w c h1
set_option maxHeartbeats 8000000 in
set_option maxRecDepth 100000 in
theorem c_firstS {b : Book} {cl : Sta → Nat} {k : Nat} (hv : ∀ v ∈ b.vs, VersOk v k) (hk : b.cues = k) (hk4 : k ≤ 4) (hn : b.vs.length ≤ 4) (hs : Small b.vs) {st : Pos} (hst : PosK b.vs st) :
  ∃ v, (∃ o, v = firstV o ∧ Found (nextP b.vs) (fun p => doneK cl p = true) st k o) ∧ ∀ H2, ACall Tryz.prog 57 [.agg (posA st), n' b.cues, nxS', dnS'] (setlH b cl ++ H2) (.ret v) (setlH b cl ++ H2) := by
 refine fn_preE (m := false) (fn := Tryz.f57) (c := (Tryz.f57.body).getD .skip) (t0 := ofL (setlL b cl)) (n0 := 4) _ mixed (by kernel_rfl) (by kernel_rfl) (of_decide_eq_true (by kernel_rfl)) (HT.full (l := setlL b cl) ⟨rfl, rfl, rfl, rfl, trivial⟩ rfl) ?_ (setlH_under b cl) ?_
 ·exact ⟨under_posA 4 _, trivial, ⟨trivial, ltb rfl, trivial⟩, ⟨trivial, ltb rfl, trivial⟩, trivial⟩
 ·refine Ex.mk _ (aop_update (p := st) (met := []) (id := 5) (.inr rfl) rfl rfl rfl rfl (hst.posS hs) (by simp)) ?_
  refine LoopG.ghost (LoopG.at (n0 := 7) rfl ?_)
  refine loop_r mixed (m := false) (α := { s : Bf // (∃ proc, InvO (nextP b.vs) (fun p => doneK cl p = true) st k s.q s.met proc) ∧ Bd b.vs s }) (fun a => [(1, n' b.cues), (2, nxS'), (3, dnS'), (10, .mp 5), (11, .sl a.1.q.length (waysA a.1.q) (.own 6 a.1.g 6))]) (fun a => setlL b cl ++ [(5, .map (.arr 5) (metE a.1.met)), (6, .row a.1.g)]) (fun a => a.1.q.length + (40000 - a.1.met.length)) 5
   ⟨⟨[(st, [])], [st], 0⟩, ⟨_, InvO.begin⟩, ⟨by simp, fun p hp => ?_, by simp, fun w hw => ?_⟩⟩ (leb rfl) ?_ ?_ ?_
  ·rw [List.mem_singleton] at hp; subst hp; exact hst
  ·rw [List.mem_singleton] at hw; subst hw; exact ⟨by simp, hst⟩
  ·exact ⟨wp rfl trivial, ⟨_, rfl, Weak.refl _ _, trivial, ltb rfl, trivial⟩, ⟨_, rfl, Weak.refl _ _, trivial, ltb rfl, trivial⟩, wp rfl (ltb rfl), ⟨_, rfl, wk_begin6 rfl, under_waysA _ _, ltb rfl⟩, trivial⟩
  ·exact ⟨bk rfl rfl, bk rfl rfl, bk rfl rfl, bk rfl rfl, bk rfl rfl, bk rfl rfl, trivial⟩
  ·rintro ⟨⟨q, met, g⟩, ⟨proc, hI⟩, hb⟩
   have hml := hb.le hs
   cases q with
   | nil =>
    refine If.mk (fun h => absurd h (by show ¬ ((0 : Int) < 0); decide)) (fun _ => ?_)
    refine ifN ?_
    refine ⟨leb rfl, ?_⟩
    exact ⟨.inl rfl, leb rfl, rfl, _, firstV none, rfl, (fun H => wk_tup2F (wk_nil H)), under_firstV _ _, none, rfl, hI.nothing⟩
   | cons w q =>
    obtain ⟨x, l⟩ := w
    refine If.mk (fun _ => ?_) (fun h => absurd (by rw [List.length_cons]; omega) h)
    refine ifY ?_
    refine Ex.mk _ (jx_way) ?_
    refine Ex.mk _ rfl ?_
    refine Ex.mk _ (aop_sliceW (w := (x, l)) (q := q) rfl rfl rfl) ?_
    obtain ⟨hb1, hb2, hb3, hb4⟩ := hb
    have hb2 : ∀ p ∈ met, PosK b.vs p := hb2
    have hb1 : met.Nodup := hb1
    have hb3 : ((x, l) :: q).length ≤ met.length := hb3
    have hb4 : ∀ w ∈ (x, l) :: q, w.2.length < met.length ∧ PosK b.vs w.1 := hb4
    have hml : met.length ≤ 40000 := hml
    have hI : InvO (nextP b.vs) (fun p => doneK cl p = true) st k ((x, l) :: q) met proc := hI
    obtain ⟨hlx, hPx⟩ := hb4 (x, l) (by simp)
    have hlx : l.length < met.length := hlx
    have hPx : PosK b.vs x := hPx
    refine CallG.at (nb (doneK cl x)) (fun H hH => ?_) ?_
    ·obtain ⟨H2, rfl⟩ := hH.first4 ⟨bk rfl rfl, bk rfl rfl, bk rfl rfl, bk rfl rfl, trivial⟩
     exact c_setDone hPx.1 hPx.2.1 hPx.2.2.1 hPx.2.2.2 _ _ _ _ _ _ H2
    refine IfB.mk (fun hd => ?_) (fun hd => ?_)
    ·exact ⟨leb rfl, .inl rfl, leb rfl, rfl, _, firstV (some l), rfl, (fun H => WeakH.refl _ H), under_firstV _ _, some l, rfl, hI.found hd⟩
    ·have hI0 := hI.take (by rw [hd]; decide)
     refine LoopG.at (n0 := 8) rfl (loop_up mixed (m := false) (fun r => [(1, n' b.cues), (2, nxS'), (3, dnS'), (10, .mp 5), (11, .sl (stpG (nextP b.vs) x l ⟨q, met, g⟩ r).q.length (waysA (stpG (nextP b.vs) x l ⟨q, met, g⟩ r).q) (.own 6 (stpG (nextP b.vs) x l ⟨q, met, g⟩ r).g 6)), (12, .ptr 7 0), (35, n' b.cues), (36, n' r)])
      (fun r => setlL b cl ++ [(5, .map (.arr 5) (metE (stpG (nextP b.vs) x l ⟨q, met, g⟩ r).met)), (6, .row (stpG (nextP b.vs) x l ⟨q, met, g⟩ r).g), (7, .box (wayA (x, l)) 187)])
      (fun r => InvI (nextP b.vs) (fun p => doneK cl p = true) st k x l r (stpG (nextP b.vs) x l ⟨q, met, g⟩ r).q (stpG (nextP b.vs) x l ⟨q, met, g⟩ r).met proc ∧ Bd b.vs (stpG (nextP b.vs) x l ⟨q, met, g⟩ r) ∧ (stpG (nextP b.vs) x l ⟨q, met, g⟩ r).q.length + met.length = q.length + (stpG (nextP b.vs) x l ⟨q, met, g⟩ r).met.length ∧ l.length < (stpG (nextP b.vs) x l ⟨q, met, g⟩ r).met.length)
      k 5 (leb rfl) ⟨hI0, ⟨hb1, hb2, ?_, fun w hw => hb4 w (List.mem_cons_of_mem _ hw)⟩, rfl, hlx⟩ ?_ ?_ ?_)
     ·rw [List.length_cons] at hb3; show q.length ≤ met.length; omega
     ·exact ⟨wp rfl trivial, ⟨_, rfl, Weak.refl _ _, trivial, ltb rfl, trivial⟩, ⟨_, rfl, Weak.refl _ _, trivial, ltb rfl, trivial⟩, wp rfl (ltb rfl), ⟨_, rfl, Weak.refl _ _, under_waysA _ _, ltb rfl⟩, wp rfl (ltb rfl), wp rfl trivial, wp rfl trivial, trivial⟩
     ·exact ⟨bk rfl rfl, bk rfl rfl, bk rfl rfl, bk rfl rfl, bk rfl rfl, bk rfl rfl, bk rfl rfl, trivial⟩
     ·intro r hr hJ
      obtain ⟨hJ1, hJ2, hJ3, hJ4⟩ := hJ
      have hstp : stpG (nextP b.vs) x l ⟨q, met, g⟩ (r + 1) = if nextP b.vs x r ∈ (stpG (nextP b.vs) x l ⟨q, met, g⟩ r).met then stpG (nextP b.vs) x l ⟨q, met, g⟩ r else ⟨(stpG (nextP b.vs) x l ⟨q, met, g⟩ r).q ++ [(nextP b.vs x r, l ++ [r])], (stpG (nextP b.vs) x l ⟨q, met, g⟩ r).met ++ [nextP b.vs x r], (stpG (nextP b.vs) x l ⟨q, met, g⟩ r).g + 1⟩ := rfl
      have hke : k = 0 ∨ stpG (nextP b.vs) x l ⟨q, met, g⟩ k = stpG (nextP b.vs) x l ⟨q, met, g⟩ k := .inr rfl
      generalize hsr : stpG (nextP b.vs) x l ⟨q, met, g⟩ r = s at hJ1 hJ2 hJ3 hJ4 hstp ⊢
      obtain ⟨q1, met1, g1⟩ := s
      have hml1 : met1.length ≤ 40000 := hJ2.le hs
      obtain ⟨hn1, hn2, hn3, hn4⟩ := hJ2
      have hn1 : met1.Nodup := hn1
      have hn2 : ∀ p ∈ met1, PosK b.vs p := hn2
      have hn3 : q1.length ≤ met1.length := hn3
      have hn4 : ∀ w ∈ q1, w.2.length < met1.length ∧ PosK b.vs w.1 := hn4
      have hJ1 : InvI (nextP b.vs) (fun p => doneK cl p = true) st k x l r q1 met1 proc := hJ1
      have hJ3 : q1.length + met.length = q.length + met1.length := hJ3
      have hJ4 : l.length < met1.length := hJ4
      refine If.mk (fun h1 => ?_) (fun h1 => ?_)
      ·refine ifY ?_
       have hrk : r < k := by omega
       have hPy : PosK b.vs (nextP b.vs x r) := hPx.next hv hrk
       refine CallG.at (.agg (posA (nextP b.vs x r))) (fun H hH => ?_) ?_
       ·obtain ⟨H2, rfl⟩ := hH.first4 ⟨bk rfl rfl, bk rfl rfl, bk rfl rfl, bk rfl rfl, trivial⟩
        exact c_setNext hv hrk hn hPx H2
       refine Ex.mk _ (aop_lookup (p := nextP b.vs x r) (met := met1) (id := 5) rfl rfl rfl rfl (hPy.posS hs)) ?_
       refine IfB.mk (fun hm => ?_) (fun hm => ?_)
       ·have hm' : nextP b.vs x r ∉ met1 := by simpa using hm
        refine Ex.mk _ (aop_update (p := nextP b.vs x r) (met := met1) (id := 5) (.inl rfl) rfl rfl rfl rfl (hPy.posS hs) hm') ?_
        have e3 : stpG (nextP b.vs) x l ⟨q, met, g⟩ (r + 1) = ⟨q1 ++ [(nextP b.vs x r, l ++ [r])], met1 ++ [nextP b.vs x r], g1 + 1⟩ := by rw [hstp]; exact if_neg hm'
        have hcl := cuesI_length l
        refine CallG.fresh (n0 := 21) [cuesA l] (setlL b cl ++ [(5, .map (.arr 5) (metE (met1 ++ [nextP b.vs x r]))), (6, .row g1), (7, .box (wayA (x, l)) 187), (8, .box (posA (nextP b.vs x r)) 123)]) rfl (.cons (fun H => WeakH.refl _ H) .nil) ?_ ?_
        ·exact ⟨bk rfl rfl, bk rfl rfl, bk rfl rfl, bk rfl rfl, bk rfl rfl, bk rfl rfl, bk rfl rfl, bk rfl rfl, trivial⟩
        refine CallG.cloneI (l := cuesI l) (by omega) (leb rfl) ?_
        refine ex_app _ _ (app_int (List.length_map _) (by omega) rfl) ?_
        refine ex_app _ _ (app_way (q := q1) (p := nextP b.vs x r) (by omega) rfl rfl) ?_
        refine Side.mk (fits64 (by omega)) ?_
        have hN := hJ1.new hrk hm'
        refine ⟨leb rfl, rfl, by omega, ?_, ⟨wp rfl trivial, ⟨_, rfl, Weak.refl _ _, trivial, ltb rfl, trivial⟩, ⟨_, rfl, Weak.refl _ _, trivial, ltb rfl, trivial⟩, wp rfl (ltb rfl), ⟨_, rfl, by rw [e3]; exact wk_way, under_waysA _ _, ltb rfl⟩, wp rfl (ltb rfl), wp rfl trivial, wp rfl trivial, trivial⟩, ⟨bk rfl rfl, bk rfl rfl, bk rfl rfl, bk rfl rfl, ⟨?_, ltb rfl⟩, ⟨?_, ltb rfl⟩, bk rfl rfl, trivial⟩, ⟨⟨_, rfl, under_metE _ _⟩, ⟨_, rfl, trivial⟩, ⟨_, rfl, unders_append (under_posA _ _) ⟨under_cuesA _ _, trivial⟩⟩, trivial⟩⟩
        ·simp only [e3]
         refine ⟨hN, ⟨?_, fun p hp => ?_, ?_, fun w hw => ?_⟩, ?_, ?_⟩
         ·show (met1 ++ [nextP b.vs x r]).Nodup
          rw [List.nodup_append]
          refine ⟨hn1, by simp, fun a ha c hc hac => ?_⟩
          rw [List.mem_singleton] at hc
          subst hc hac
          exact hm' ha
         ·rcases List.mem_append.1 hp with hp | hp
          ·exact hn2 p hp
          ·rw [List.mem_singleton] at hp; subst hp; exact hPy
         ·show (q1 ++ [_]).length ≤ (met1 ++ [_]).length
          rw [List.length_append, List.length_append]
          exact Nat.add_le_add_right hn3 1
         ·show w.2.length < (met1 ++ [nextP b.vs x r]).length ∧ _
          rw [List.length_append, List.length_singleton]
          rcases List.mem_append.1 hw with hw | hw
          ·obtain ⟨k1, k2⟩ := hn4 w hw
           exact ⟨by omega, k2⟩
          ·rw [List.mem_singleton] at hw; subst hw
           refine ⟨?_, hPy⟩
           show (l ++ [r]).length < _
           rw [List.length_append, List.length_singleton]
           omega
         ·show (q1 ++ [_]).length + met.length = q.length + (met1 ++ [_]).length
          rw [List.length_append, List.length_append, List.length_singleton, List.length_singleton]
          omega
         ·show l.length < (met1 ++ [_]).length
          rw [List.length_append]
          omega
        ·rw [e3]; rfl
        ·rw [e3]; rfl
       ·have hm' : nextP b.vs x r ∈ met1 := by simpa using hm
        have e3 : stpG (nextP b.vs) x l ⟨q, met, g⟩ (r + 1) = ⟨q1, met1, g1⟩ := by rw [hstp]; exact if_pos hm'
        refine Side.mk (fits64 (by omega)) ?_
        refine ⟨leb rfl, rfl, by omega, ?_, ⟨wp rfl trivial, ⟨_, rfl, Weak.refl _ _, trivial, ltb rfl, trivial⟩, ⟨_, rfl, Weak.refl _ _, trivial, ltb rfl, trivial⟩, wp rfl (ltb rfl), ⟨_, rfl, by rw [e3]; exact Weak.refl _ _, under_waysA _ _, ltb rfl⟩, wp rfl (ltb rfl), wp rfl trivial, wp rfl trivial, trivial⟩, ⟨bk rfl rfl, bk rfl rfl, bk rfl rfl, bk rfl rfl, ⟨?_, ltb rfl⟩, ⟨?_, ltb rfl⟩, bk rfl rfl, trivial⟩, trivial⟩
        ·simp only [e3]
         exact ⟨hJ1.old hm', ⟨hn1, hn2, hn3, hn4⟩, hJ3, hJ4⟩
        ·rw [e3]; rfl
        ·rw [e3]; rfl
      ·refine ifN ?_
       refine ⟨leb rfl, ?_⟩
       have er : r = k := by omega
       subst er
       refine ⟨leb rfl, rfl, ⟨⟨q1, met1, g1⟩, ⟨_, hJ1.over⟩, ⟨hn1, hn2, hn3, hn4⟩⟩, ?_, ⟨wp rfl trivial, ⟨_, rfl, Weak.refl _ _, trivial, ltb rfl, trivial⟩, ⟨_, rfl, Weak.refl _ _, trivial, ltb rfl, trivial⟩, wp rfl (ltb rfl), ⟨_, rfl, Weak.refl _ _, under_waysA _ _, ltb rfl⟩, trivial⟩, ⟨bk rfl rfl, bk rfl rfl, bk rfl rfl, bk rfl rfl, bk rfl rfl, bk rfl rfl, trivial⟩, ⟨⟨_, rfl, under_metE _ _⟩, ⟨_, rfl, trivial⟩, trivial⟩⟩
       show q1.length + (40000 - met1.length) < ((x, l) :: q).length + (40000 - met.length)
       rw [List.length_cons]
       omega
end Go.Vm

namespace Go.Vm
open Go.Proofs
theorem Found.congr {K : Type} {next : K → Nat → K} {done done' : K → Prop} {st : K} {c : Nat} {o : Option (List Nat)} (h : Found next done st c o) (he : ∀ l, OkL c l → (done (runB next st l) ↔ done' (runB next st l))) : Found next done' st c o := by
 refine ⟨fun l hl => ?_, fun hn u hu hd => h.no hn u hu ((he u hu).2 hd)⟩
 obtain ⟨h1, h2, h3⟩ := h.yes l hl
 exact ⟨h1, (he l h1).1 h2, fun u hu hd => h3 u hu ((he u hu).2 hd)⟩
theorem er_ok {vs : List Vers} {K : Nat} {L : List Int} (hv : ∀ v ∈ vs, VersOk v K) (hv0 : ∀ v ∈ vs, 0 < v.length) (hL : LeftOk vs L) {l : List Nat} (hl : OkL K l) (n : Nat) : PosOk vs n (erI vs L l n) := by
 unfold erI
 by_cases h : (n : Int) ∈ L
 ·rw [if_pos h]
  have hn : n < vs.length := hL.nat n h
  have hm : vs.getD n [] ∈ vs := vAt_in hn
  have := after_lt (hv _ hm) (cuesI_ok hl) (hv0 _ hm)
  exact .inr ⟨by omega, hn, by omega⟩
 ·rw [if_neg h]; exact .inl rfl
theorem remL_left {b : Book} (hn : b.vs.length ≤ 4) (evs : List Evening) : LeftOk b.vs (remL b.vs evs b.vs.length) :=
 ⟨fun _ h => remL_mem h, Nat.le_trans (remL_length _ _ _) hn⟩
end Go.Vm

namespace Go.Vm
open Go.Proofs
theorem okS_iff {vs : List Vers} {K : Nat} {cl : Sta → Nat} (hcl : ∀ p ∈ allP vs, ∀ q ∈ allP vs, (cl p = cl q ↔ alS vs K p q)) {a b : Nat} {p q : Int} (m : Bool) (hp : PosOk vs a p) (hq : PosOk vs b q) : okS cl m a b p q = true ↔ pairS vs K m a b p q := by
 have key : ∀ {n : Nat} {x : Int}, PosOk vs n x → 0 ≤ x → (n, 0) ∈ allP vs := fun {n x} h h0 => by
  rcases h with rfl | ⟨_, h2, h3⟩
  ·omega
  ·refine allP_mem.2 ⟨h2, ?_⟩
   show 0 < (vs.getD n []).length
   omega
 unfold okS pairS
 by_cases h1 : 0 ≤ p
 ·by_cases h2 : 0 ≤ q
  ·have := hcl _ (key hp h1) _ (key hq h2)
   simp [h1, h2, this]
  ·simp [h2]
 ·simp [h1]
theorem doneK_iff {vs : List Vers} {K : Nat} {cl : Sta → Nat} (hcl : ∀ p ∈ allP vs, ∀ q ∈ allP vs, (cl p = cl q ↔ alS vs K p q)) {p : Pos} (hp : PosK vs p) : doneK cl p = true ↔ doneS vs K p := by
 obtain ⟨h0, h1, h2, h3⟩ := hp
 have e1 := okS_iff hcl p.2.1 h1 h0
 have e2 := okS_iff hcl p.2.2.1 h2 h0
 have e3 := okS_iff hcl p.2.2.2.1 h2 h1
 have e4 := okS_iff hcl p.2.2.2.2.1 h3 h0
 have e5 := okS_iff hcl p.2.2.2.2.2.1 h3 h1
 have e6 := okS_iff hcl p.2.2.2.2.2.2 h3 h2
 unfold doneK skB doneS
 rw [← e1, ← e2, ← e3, ← e4, ← e5, ← e6]
 simp
theorem pos_begin (vs : List Vers) (L : List Int) : posRun vs L [] = ((bgI L 0, bgI L 1, bgI L 2, bgI L 3), (false, false, false, false, false, false)) := by
 have e : ∀ a b, brB vs L [] a b = false := fun a b => by
  unfold brB
  exact decide_eq_false fun h => h.2.2 rfl
 unfold posRun
 simp only [e]
 rfl
set_option maxHeartbeats 4000000 in
set_option maxRecDepth 100000 in
theorem c_Settle {b : Book} (hl : BLen b) (hB : BOk b) {evs : List Evening} (hE : EvsOk b evs) (hne : remL b.vs evs b.vs.length ≠ []) :
  ∃ o, Found (nextP b.vs) (doneS b.vs b.cues.toNat) (posRun b.vs (remL b.vs evs b.vs.length) []) b.cues.toNat o ∧ ∀ H, ACall Tryz.prog 22 [eBook b, eEvenings evs] H (.ret (tellV o)) H := by
 have hbc := hB.1.1
 have hvn := hB.1.2.2
 unfold inI at hbc hvn
 have hv : ∀ v ∈ b.vs, VersOk v b.cues.toNat := fun v hv => (hB.2 v hv).vers.1
 have hv0 : ∀ v ∈ b.vs, 0 < v.length := fun v hv => (hB.2 v hv).vers.2
 have hs : Small b.vs := fun v hv => by
  have := (hB.2 v hv).2
  unfold inI at this
  omega
 have hL := remL_left (b := b) (by omega) evs
 have hRl := remL_length b.vs evs b.vs.length
 have hleft : ∀ H, ACall Tryz.prog 67 [eBook b, .lit (.bool true), eEvenings evs, eEvening ([], [])] H (.ret (.tup [eInts (remL b.vs evs b.vs.length), .lit (.int .i64 0)])) H := fun H => by
  have h1c := hB.1.1.1
  have hN : EvOk b ([], []) := ⟨⟨⟨by simp, fun c h => by cases h⟩, ⟨fun c h => (by cases h), (by simp)⟩⟩, rfl⟩
  have := c_left hl hB hE hN (by rw [remL_now]; exact hne) H
  rwa [remL_now] at this
 generalize remL b.vs evs b.vs.length = L at *
 obtain ⟨es, ⟨cl, rfl, hcb, hcl⟩, hmap⟩ := c_classes hB
 have hst : PosK b.vs (posRun b.vs L []) := ⟨er_ok hv hv0 hL (fun x hx => by cases hx) 0, er_ok hv hv0 hL (fun x hx => by cases hx) 1, er_ok hv hv0 hL (fun x hx => by cases hx) 2, er_ok hv hv0 hL (fun x hx => by cases hx) 3⟩
 obtain ⟨v, ⟨o, rfl, hF⟩, hc⟩ := c_firstS (b := b) (cl := cl) (k := b.cues.toNat) hv (by omega) (by omega) (by omega) hs hst
 have hF' := hF.congr (done' := doneS b.vs b.cues.toNat) fun l hl => by
  rw [run_pos hv hv0 hL.nat l hl]
  exact doneK_iff hcl ⟨er_ok hv hv0 hL hl 0, er_ok hv hv0 hL hl 1, er_ok hv hv0 hL hl 2, er_ok hv hv0 hL hl 3⟩
 rw [pos_begin] at hc
 refine ⟨o, hF', fun H => ?_⟩
 refine fn_rule (m := false) (fn := Tryz.f22) (c := (Tryz.f22.body).getD .skip) mixed (by kernel_rfl) (by kernel_rfl) (of_decide_eq_true (by kernel_rfl)) ?_ ?_ ?_ H
 ·exact ⟨under_eBook 0 _, under_eEvenings 0 _, trivial⟩
 ·exact under_tellV 0 _
 ·refine CallG.weak _ (.cons (fun H => WeakH.refl _ H) (.cons (fun H => WeakH.refl _ H) (.cons (fun H => WeakH.refl _ H) (.cons wk_ev0 .nil)))) hleft ?_
  refine If.mk (fun _ => ?_) (fun h => absurd (by decide) h)
  refine ifN ?_
  refine CallG.map hmap ?_
  refine CallG.weak _ (.cons (fun H => WeakH.tail _ _ _ H) (.nil)) (c_posBegun L (by omega)) ?_
  cases o with
  | none =>
   refine CallG.at (firstV none) (fun H hH => ?_) ?_
   ·obtain ⟨H2, rfl⟩ := hH.first4 (b := b) (cl := cl) ⟨bk rfl rfl, bk rfl rfl, bk rfl rfl, bk rfl rfl, trivial⟩
    exact hc H2
   refine ifY ?_
   exact ⟨.inl rfl, FinG.mk _ rfl rfl rfl⟩
  | some l =>
   refine CallG.at (firstV (some l)) (fun H hH => ?_) ?_
   ·obtain ⟨H2, rfl⟩ := hH.first4 (b := b) (cl := cl) ⟨bk rfl rfl, bk rfl rfl, bk rfl rfl, bk rfl rfl, trivial⟩
    exact hc H2
   refine ifN ?_
   refine ⟨.inl rfl, FinG.mk _ rfl rfl ?_⟩
   show AV.tup [AV.freeze _ (eInts (cuesI l)), _] = _
   rw [freeze_eInts]
   rfl
end Go.Vm
