/-
  Contracts of functions of the program that this claim reaches; no statement of the program is proved here. Conditions: none. (Texts of books, read.)
-/
import Derived.Test.YtdhdaadoehbopaaGreatDoorVc
import Derived.Test.YtdhdaadoehbopaaGreatDoorEa
import Derived.Laws.RangeString
import Derived.Test.YtdhdaadoehbopaaGreatDoorCh
import Derived.Test.YtdhdaadoehbopaaGreatDoorCa

namespace Go.Vm
open Go.Proofs Go.RowKit
theorem ACall.backP {P : Program} {f : FuncId} {args : List AV} {H' : List Blk} {v : AV} (h : ACall P f args [] (.pan v) H') (ha : AV.unders 0 args) (hv : v.flat = true) (H : List Blk) : ACall P f args H (.pan v) H := by
 have h1 : ACall P f args [] (.pan v) [] := by
  intro O ι w cs hR hargs
  refine (h O ι w cs hR hargs).mono ?_
  rintro e w' ⟨ι', hend, hR', hev, hnon⟩
  cases e with
  | returned c => exact hend.elim
  | outgrown => exact hend.elim
  | panicked chain =>
   obtain ⟨c, hc, hr⟩ := hend
   have hev2 := hev.cut
   have hnon2 := hnon.cut
   exact ⟨cutι ι' 0, ⟨c, hc, VRel.flat v c hv hr⟩, ⟨fun id b wm e => by simp [cutι] at e, fun i j b wm wm' ei _ => by simp [cutι] at ei, fun b x e => ⟨(hR'.out b x e).1, fun i wm h => by simp [cutι] at h⟩⟩, hev2, hnon2⟩
 exact ACall.frame_nil (r := .pan v) h1 ha (AV.flat_under 0 v hv) H
theorem fn_ruleP {P : Program} {m : Bool} {f : FuncId} {fn : Func} {c : Code} {args : List AV} {R R' : AV → Prop} (hm : P.follows .mixedOrders = true) (hf : P.funcs[f]? = some fn) (hb : fn.body = some c) (hn : args.length ≤ fn.ntmps)
  (ha : AV.unders 0 args) (hR : ∀ v, R v → v.under 0) (hR' : ∀ v, R' v → v.flat = true)
  (h : gCode P m fn.ntmps none c (initVars 0 args) .nil 0 [] noLo fun x e _ => ((x = .ret ∨ x = .normal) ∧ ∃ v, R v ∧ FinG P fn.results.toList e v) ∨ ∃ v, x = .pan v ∧ e.defs = [] ∧ R' v) :
  (∃ v, R v ∧ ∀ H, ACall P f args H (.ret v) H) ∨ ∃ v, R' v ∧ ∀ H, ACall P f args H (.pan v) H := by
 obtain ⟨x, e, lo, H', hH', hk', hrun, hx⟩ := gCode_spec hm c _ _ _ _ _ _ h [] [] HT.nil (Keep.refl _ _)
 rcases hx with ⟨hx, v, hv, vs, hres, hd, hfr⟩ | ⟨v, rfl, hd, hv⟩
 ·refine .inl ⟨v, hv, fun H => ?_⟩
  have hcr : ACall P f args [] (.ret (resV vs)) H' := by
   rw [hd] at hrun
   exact ACall.intro_marks hf hb hn hrun hx List.nodup_nil (resT_sound hH' hres)
  have hu := hR v hv
  subst hfr
  exact hcr.freeze0 hH'.blk ha hu H
 ·exact .inr ⟨v, hv, fun H => (ACall.intro_pan hf hb hn hrun hd).backP ha (hR' v hv) H⟩
theorem CallG.pan {P : Program} {f : FuncId} {args : List AV} {t : Trie Blk} {n : Nat} {K Kp : AV → Trie Blk → Nat → Nat → Prop} (v : AV) (h : ∀ H, ACall P f args H (.pan v) H) (k : Kp v t n noLo) : CallG P f args t n K Kp :=
 ⟨fun H hH => .inr ⟨v, t, n, noLo, H, hH, h H, Keep.refl _ _, k⟩⟩
theorem ev_mrow [Outer] {H : List Blk} {ι : Nat → Option (Nat × Nat)} {w : World} {id gen : Nat} {cells cells' : List AV} (hid : H[id]? = some (.mrow gen cells)) : Ev ⟨H, ι, w⟩ ⟨H.set id (.mrow gen cells'), ι, w⟩ := by
 have hlt : id < H.length := (List.getElem?_eq_some_iff.1 hid).1
 have other : ∀ {i : Nat} {B : Blk}, H[i]? = some B → i ≠ id → (H.set id (.mrow gen cells'))[i]? = some B := fun {i B} hB hne => by
  rw [List.getElem?_set_ne (Ne.symm hne)]; exact hB
 refine ⟨fun i hn => ⟨?_, fun b wm e => ⟨wm, e⟩⟩, fun b lim hf => ⟨?_, fun _ _ => rfl⟩, fun i g0 h => ?_, fun i g0 c0 h => ?_, fun _ _ _ => rfl, Rest.refl _⟩
 ·obtain ⟨B, hB, hr⟩ := hn
  have hB' : H[i]? = some B := hB
  have hne : i ≠ id := by
   rintro rfl
   rw [hid] at hB'; cases hB'; cases hr
  exact ⟨B, other hB' hne, hr⟩
 ·obtain ⟨C, t, f, h1, h2, h3, h4⟩ := hf
  refine ⟨C, t, f, h1, h2, fun i wm e => ?_, h4⟩
  obtain ⟨⟨g, hg⟩, hle⟩ := h3 i wm e
  have hg' : H[i]? = some (.row g) := hg
  have hne : i ≠ id := by rintro rfl; rw [hid] at hg'; cases hg'
  exact ⟨⟨g, other hg' hne⟩, hle⟩
 ·have h' : H[i]? = some (.row g0) := h
  have hne : i ≠ id := by rintro rfl; rw [hid] at h'; cases h'
  exact ⟨g0, other h' hne, Nat.le_refl _, fun _ => ⟨rfl, fun _ _ C t _ h => ⟨C, t, h, rfl⟩⟩⟩
 ·have h' : H[i]? = some (.mrow g0 c0) := h
  by_cases hne : i = id
  ·subst hne
   rw [hid] at h'; cases h'
   exact ⟨.mrow gen cells', gen, by show (H.set i _)[i]? = _; rw [List.getElem?_set_self hlt], rfl, Nat.le_refl _, fun _ => ⟨⟨cells', rfl⟩, rfl, fun _ _ C t _ h => ⟨C, t, h, rfl⟩⟩⟩
  ·exact ⟨_, g0, other h' hne, rfl, Nat.le_refl _, fun _ => ⟨⟨c0, rfl⟩, rfl, fun _ _ C t _ h => ⟨C, t, h, rfl⟩⟩⟩
theorem rel_mrow [Outer] {H : List Blk} {ι : Nat → Option (Nat × Nat)} {w : World} {id gen : Nat} {cells cells' : List AV} (hR : Rel ⟨H, ι, w⟩) (hid : H[id]? = some (.mrow gen cells)) (hl : cells'.length = cells.length) (hw : ∀ cs, VRels ⟨H, ι, w⟩ cells cs → VRels ⟨H, ι, w⟩ cells' cs) :
  Rel ⟨H.set id (.mrow gen cells'), ι, w⟩ := by
 have hev := ev_mrow (ι := ι) (w := w) (cells' := cells') hid
 have hlt : id < H.length := (List.getElem?_eq_some_iff.1 hid).1
 refine ⟨fun i b wm h => ?_, hR.inj, hR.out⟩
 obtain ⟨B, hB, hrel⟩ := hR.blk i b wm h
 by_cases hi : id = i
 ·subst hi
  have hB' : H[id]? = some B := hB
  rw [hid] at hB'; cases hB'
  obtain ⟨C, t, h1, h2⟩ := hrel
  exact ⟨.mrow gen cells', by show (H.set id _)[id]? = _; rw [List.getElem?_set_self hlt], C, t, h1, by rw [hl]; exact (hw _ h2).ev hev⟩
 ·exact ⟨B, by show (H.set id _)[i]? = _; rw [List.getElem?_set_ne hi]; exact hB, hrel.ev hev rfl⟩
theorem LoopG.mrow {P : Program} {ro : Option Nat} {c : Code} {k : Nat} {vars : Trie AV} {t : Trie Blk} {n : Nat} {d : List Nat} {lo : Nat} {Q : CodeQ} (id : Nat) {gen : Nat} {cells : List AV} (cells' : List AV) (lo' : Nat) (hlo : lo' ≤ lo) (hlo2 : lo' ≤ id) (hg : get t id = some (.mrow gen cells)) (hl : cells'.length = cells.length) (hw : Weaks' t cells cells')
  (h : LoopG P ro c k vars (set t id (.mrow gen cells')) n d lo' Q) : LoopG P ro c k vars t n d lo Q := by
 obtain ⟨h⟩ := h
 refine ⟨fun H H0 hH hk => ?_⟩
 have hid := hH.blk _ _ hg
 obtain ⟨x, e, l2, H', h1, h2, h3, h4⟩ := h (H.set id (.mrow gen cells')) H0 (hH.set (hH.lt hg) _) (hk.trans (Keep.set (B := .mrow gen cells') hid (by simp)) hlo hlo2)
 refine ⟨x, e, l2, H', h1, h2, ?_, h4⟩
 intro O ι a w cro hro hs b kk cs hbro hb hr
 have hev : Ev ⟨H, ι, w⟩ ⟨H.set id (.mrow gen cells'), ι, w⟩ := ev_mrow hid
 have hR : Rel ⟨H.set id (.mrow gen cells'), ι, w⟩ := rel_mrow hs.rel hid hl (hw n H hH O ι w)
 have hnon : Non ⟨H, ι, w⟩ ⟨H.set id (.mrow gen cells'), ι, w⟩ := fun _ _ h => h
 obtain ⟨e', a', w', hp, harr⟩ := h3 O ι a w cro (hro.ev hev) ⟨hR, hs.size, hs.vars.ev hev, hs.defs.ev hev (Keep.set (B := .mrow gen cells') hid (by simp)).marks⟩ b kk cs hbro hb hr
 exact ⟨e', a', w', Post.trans hev hnon _ _ _ hp, harr⟩
theorem rel_boxC [Outer] {H : List Blk} {ι : Nat → Option (Nat × Nat)} {w : World} {id : Nat} {cells cells' : List AV} {ty : TypeId} (hR : Rel ⟨H, ι, w⟩) (hid : H[id]? = some (.box cells ty)) (hw : ∀ b wm C, ι id = some (b, wm) → w.heap[b]? = some (.cells C ty (0, 0)) → VRels ⟨H, ι, w⟩ cells' C.toList) :
  Rel ⟨H.set id (.box cells' ty), ι, w⟩ := by
 have hev := ev_box (ι := ι) (w := w) (cells' := cells') hid
 have hlt : id < H.length := (List.getElem?_eq_some_iff.1 hid).1
 refine ⟨fun i b wm h => ?_, hR.inj, hR.out⟩
 obtain ⟨B, hB, hrel⟩ := hR.blk i b wm h
 by_cases hi : id = i
 ·subst hi
  have hB' : H[id]? = some B := hB
  rw [hid] at hB'; cases hB'
  obtain ⟨C, h1, h2⟩ := hrel
  exact ⟨.box cells' ty, by show (H.set id _)[id]? = _; rw [List.getElem?_set_self hlt], C, h1, (hw b wm C h h1).ev hev⟩
 ·exact ⟨B, by show (H.set id _)[i]? = _; rw [List.getElem?_set_ne hi]; exact hB, hrel.ev hev rfl⟩
def AExit.plain : AExit → Bool
 | .normal => true
 | .exit _ => true
 | _ => false
theorem ExRel.plain [Outer] {S S' : Sit} {x : AExit} {e : Go.Exit} (hx : x.plain = true) (h : ExRel S x e) : ExRel S' x e := by
 cases x with
 | normal => cases e <;> exact h
 | exit i => cases e <;> exact h
 | ret => cases hx
 | pan v => cases hx
theorem InL.settle {P : Program} {ro : Option Nat} {c : Code} {k : Nat} {V1 V2 : Trie AV} {σ : St} {H : List Blk} {d : List Nat} {x : AExit} {id gen bx : Nat} {cells cells' bcells bcells' : List AV} {bty : TypeId} (hid : H[id]? = some (.mrow gen cells)) (hbx : H[bx]? = some (.box bcells bty)) (hlen : cells'.length = cells.length)
  (hw : ∀ (_ : Outer) ι w cs, VRels ⟨H, ι, w⟩ cells cs → VRels ⟨H, ι, w⟩ cells' cs) (hl : Lent id gen cells' bcells bcells') (hx : x.plain = true) (hv : ∀ s v, get V2 s = some v → ∃ v1, get V1 s = some v1 ∧ WeakH H v1 v)
  (h : InL P ro c σ x ⟨k, V1, H, d⟩) : InL P ro c σ x ⟨k, V2, (H.set id (.row (gen + 1))).set bx (.box bcells' bty), d⟩ := by
 intro O ι a w cro hro hs b kk cs hbro hb hr
 obtain ⟨e', a', w', ⟨ι', hx', hs', hev, hnon⟩, harr⟩ := h O ι a w cro hro hs b kk cs hbro hb hr
 have hlt : id < H.length := (List.getElem?_eq_some_iff.1 hid).1
 have hne : bx ≠ id := by
  rintro rfl
  rw [hid] at hbx; cases hbx
 have ev1 : Ev ⟨H, ι', w'⟩ ⟨H.set id (.mrow gen cells'), ι', w'⟩ := ev_mrow hid
 have R1 : Rel ⟨H.set id (.mrow gen cells'), ι', w'⟩ := rel_mrow hs'.rel hid hlen (hw O ι' w')
 have hid1 : (H.set id (.mrow gen cells'))[id]? = some (.mrow gen cells') := List.getElem?_set_self hlt
 have hset : (H.set id (.mrow gen cells')).set id (.row (gen + 1)) = H.set id (.row (gen + 1)) := List.set_set ..
 have ev2 := ev_retire (ι := ι') (w := w') hid1
 have R2 := rel_retire R1 hid1
 rw [hset] at ev2 R2
 have hbx2 : (H.set id (.row (gen + 1)))[bx]? = some (.box bcells bty) := by rw [List.getElem?_set_ne (Ne.symm hne)]; exact hbx
 have ev3 := ev_box (ι := fun i => if i = id then none else ι' i) (w := w') (cells' := bcells') hbx2
 have R3 := rel_boxC (cells' := bcells') R2 hbx2 fun b wm C hi hC => by
  have hi' : (if bx = id then none else ι' bx) = some (b, wm) := hi
  rw [if_neg hne] at hi'
  obtain ⟨B, hB, hrel⟩ := R1.blk bx b wm hi'
  have hB' : (H.set id (.mrow gen cells'))[bx]? = some B := hB
  rw [List.getElem?_set_ne (Ne.symm hne), hbx] at hB'
  cases hB'
  obtain ⟨C2, h1, h2⟩ := hrel
  have h1' : w'.heap[b]? = some (.cells C2 bty (0, 0)) := h1
  rw [hC] at h1'
  cases h1'
  have h3 := hl.rel R1 hid1 h2
  rw [hset] at h3
  exact h3
 have ev4 := (ev1.trans ev2).trans ev3
 have hk : Keep H ((H.set id (.row (gen + 1))).set bx (.box bcells' bty)) (min id bx) := (Keep.set (B := .row (gen + 1)) hid (by simp)).trans (Keep.set (B := .box bcells' bty) hbx2 (by simp)) (Nat.min_le_left _ _) (Nat.min_le_right _ _)
 refine ⟨e', a', w', ⟨fun i => if i = id then none else ι' i, ExRel.plain hx hx', ⟨R3, hs'.size, fun s v hg => ?_, hs'.defs.ev ev4 hk.marks⟩, hev.trans ev4, fun i h1 h2 => ?_⟩, harr⟩
 ·obtain ⟨v1, hg1, hw1⟩ := hv s v hg
  obtain ⟨c, hc, hr⟩ := hs'.vars s v1 hg1
  exact ⟨c, hc, VRel.ev ev4 v c (hw1 O ι' w' c hr)⟩
 ·show (if i = id then none else ι' i) = none
  by_cases e : i = id
  ·rw [if_pos e]
  ·rw [if_neg e]; exact hnon i h1 h2
theorem LoopG.settle {P : Program} {ro : Option Nat} {c : Code} {k : Nat} {vars : Trie AV} {t : Trie Blk} {n : Nat} {d : List Nat} {lo : Nat} {Q : CodeQ}
  (h : LoopG P ro c k vars t n d lo fun x e lo' => Q x e lo' ∨ ∃ S' id gen bx cells cells' bcells bcells' bty, x.plain = true ∧ get e.t id = some (.mrow gen cells) ∧ get e.t bx = some (.box bcells bty) ∧ cells'.length = cells.length ∧ Weaks' e.t cells cells' ∧ Lent id gen cells' bcells bcells' ∧ SlotsW (get e.vars) e.t S' ∧
   Q x ⟨ofL S', set (set e.t id (.row (gen + 1))) bx (.box bcells' bty), e.n, e.defs⟩ (min lo' (min id bx))) : LoopG P ro c k vars t n d lo Q := by
 obtain ⟨h⟩ := h
 refine ⟨fun H H0 hH hk => ?_⟩
 obtain ⟨x, e, lo', H', h1, h2, h3, h4⟩ := h H H0 hH hk
 rcases h4 with h4 | ⟨S', id, gen, bx, cells, cells', bcells, bcells', bty, k1, k2, k3, k4, k5, k6, k7, h6⟩
 ·exact ⟨x, e, lo', H', h1, h2, h3, h4⟩
 ·have hid := h1.blk _ _ k2
  have hbx := h1.blk _ _ k3
  have hne : id ≠ bx := by
   rintro rfl
   rw [hid] at hbx; cases hbx
  have hbx2 : (H'.set id (.row (gen + 1)))[bx]? = some (.box bcells bty) := by rw [List.getElem?_set_ne hne]; exact hbx
  have hkk : Keep H' ((H'.set id (.row (gen + 1))).set bx (.box bcells' bty)) (min id bx) := (Keep.set (B := .row (gen + 1)) hid (by simp)).trans (Keep.set (B := .box bcells' bty) hbx2 (by simp)) (Nat.min_le_left _ _) (Nat.min_le_right _ _)
  refine ⟨x, ⟨ofL S', set (set e.t id (.row (gen + 1))) bx (.box bcells' bty), e.n, e.defs⟩, min lo' (min id bx), _, (h1.set (h1.lt k2) _).set (h1.lt k3) _, h2.trans hkk (Nat.min_le_left _ _) (Nat.min_le_right _ _), InL.settle hid hbx k4 (fun O ι w => k5 _ H' h1 O ι w) k6 k1 (fun s v hg => ?_) h3, h6⟩
  obtain ⟨v1, g1, g2⟩ := k7.mem _ (get_ofL hg)
  exact ⟨v1, g1, g2 _ _ h1⟩
end Go.Vm

namespace Go.Vm
open Go.Proofs
theorem spl_front {c : UInt8} : ∀ {a : List UInt8} (b : List UInt8), c ∉ a → spl c (a ++ c :: b) = a :: spl c b
 | [], b, _ => by
  show spl c (c :: b) = _
  rw [spl, if_pos rfl]
 | x :: a, b, h => by
  have hx : x ≠ c := fun e => h (by rw [e]; exact List.mem_cons_self)
  show spl c (x :: (a ++ c :: b)) = _
  rw [spl, if_neg hx, spl_front b (fun h' => h (List.mem_cons_of_mem _ h'))]
theorem spl_lines {c : UInt8} : ∀ {L : List (List UInt8)} (rest : List UInt8), (∀ a ∈ L, c ∉ a) → spl c (L.flatMap (fun a => a ++ [c]) ++ rest) = L ++ spl c rest
 | [], _, _ => rfl
 | a :: L, rest, h => by
  rw [List.flatMap_cons, List.append_assoc, List.append_assoc]
  show spl c (a ++ c :: (L.flatMap (fun a => a ++ [c]) ++ rest)) = _
  rw [spl_front _ (h a (by simp)), spl_lines rest (fun b hb => h b (by simp [hb]))]
  rfl
theorem spl_words {c : UInt8} : ∀ {L : List (List UInt8)} {w : List UInt8}, c ∉ w → (∀ a ∈ L, c ∉ a) → spl c (w ++ L.flatMap (fun a => c :: a)) = w :: L
 | [], w, h, _ => by
  rw [List.flatMap_nil, List.append_nil]
  exact spl_none (List.count_eq_zero.2 h)
 | a :: L, w, h, hL => by
  rw [List.flatMap_cons]
  show spl c (w ++ c :: (a ++ L.flatMap (fun a => c :: a))) = _
  rw [spl_front _ h, spl_words (hL a (by simp)) (fun b hb => hL b (by simp [hb]))]
theorem spl_size {c : UInt8} : ∀ l : List UInt8, ((spl c l).map List.length).sum + (spl c l).length = l.length + 1
 | [] => rfl
 | x :: l => by
  have ih := spl_size (c := c) l
  unfold spl
  by_cases e : x = c
  ·rw [if_pos e]
   simp only [List.map_cons, List.sum_cons, List.length_cons, List.length_nil]
   omega
  ·rw [if_neg e]
   cases hs : spl c l with
   | nil => exact absurd hs (spl_ne c l)
   | cons h t =>
    rw [hs] at ih
    simp only [List.map_cons, List.sum_cons, List.length_cons] at ih ⊢
    omega
def lB (s : ByteArray) : List UInt8 := s.data.toList
theorem lB_app (a b : ByteArray) : lB (a ++ b) = lB a ++ lB b := by
 unfold lB
 rw [ByteArray.data_append, Array.toList_append]
theorem bT_lB (s : ByteArray) : bT (lB s) = s := rfl
theorem lB_line (l : List Nat) : ∀ w : ByteArray, lB (lineS w l) = lB w ++ (l.map fun n => lB (decS n)).flatMap (fun a => 32 :: a) := by
 induction l with
 | nil => intro w; rw [List.map_nil, List.flatMap_nil, List.append_nil]; rfl
 | cons x l ih =>
  intro w
  show lB (lineS (w ++ ⟨#[32]⟩ ++ decS x) l) = _
  rw [ih, lB_app, lB_app, List.map_cons, List.flatMap_cons, List.append_assoc, List.append_assoc]
  rfl
theorem lB_tx (L : List ByteArray) : ∀ k, k ≤ L.length → lB (txF L k) = ((L.take k).map lB).flatMap (fun a => a ++ [10])
 | 0, _ => rfl
 | k + 1, h => by
  obtain ⟨s, hs⟩ : ∃ s, L[k]? = some s := ⟨_, List.getElem?_eq_getElem (by omega)⟩
  have e : L.getD k default = s := by rw [List.getD_eq_getElem?_getD, hs]; rfl
  show lB (txF L k ++ L.getD k default ++ ⟨#[10]⟩) = _
  rw [e, lB_app, lB_app, lB_tx L k (by omega), take_snocB hs, List.map_append, List.flatMap_append, List.append_assoc]
  show _ ++ (lB s ++ [10]) = _ ++ ((lB s ++ [10]) ++ [])
  rw [List.append_nil]
theorem dec_bytes {k : Nat} (hk : k < 100) : ∀ b ∈ lB (decS k), 48 ≤ b.toNat ∧ b.toNat ≤ 57 := by
 have all : ((List.range 100).all fun k => (lB (decS k)).all fun b => decide (48 ≤ b.toNat) && decide (b.toNat ≤ 57)) = true := by decide +kernel
 intro b hb
 have h1 := List.all_eq_true.1 (List.all_eq_true.1 all k (List.mem_range.2 hk)) b hb
 simpa using h1
theorem dec_no {k : Nat} (hk : k < 100) {c : UInt8} (hc : c.toNat < 48) : c ∉ lB (decS k) := fun h => by
 have := (dec_bytes hk c h).1
 omega
def isDig (b : UInt8) : Bool := decide (48 ≤ b.toNat) && decide (b.toNat ≤ 57)
def dg (b : UInt8) : Nat := b.toNat - 48
def numW : List UInt8 → Option Nat
 | [a] => if isDig a = true then some (dg a) else none
 | [a, b] => if (isDig a && isDig b && decide (a.toNat ≠ 48)) = true then some (10 * dg a + dg b) else none
 | _ => none
theorem isDig_dg {b : UInt8} (h : isDig b = true) : dg b < 10 ∧ b.toNat = 48 + dg b := by
 unfold isDig at h
 simp only [Bool.and_eq_true, decide_eq_true_eq] at h
 unfold dg
 omega
theorem numW_dec {w : List UInt8} {n : Nat} (h : numW w = some n) : n < 100 ∧ w = lB (decS n) := by
 have byte : ∀ {b : UInt8} {k : Nat}, b.toNat = k → b = UInt8.ofNat k := fun {b k} e => by
  rw [← e, UInt8.ofNat_toNat]
 unfold numW at h
 split at h
 ·rename_i a
  split at h
  ·rename_i ha
   obtain ⟨h1, h2⟩ := isDig_dg ha
   cases h
   refine ⟨by omega, ?_⟩
   unfold decS
   rw [if_pos h1]
   show [a] = [UInt8.ofNat (48 + dg a)]
   rw [← byte h2]
  ·cases h
 ·rename_i a b
  split at h
  ·rename_i ha
   simp only [Bool.and_eq_true, decide_eq_true_eq] at ha
   obtain ⟨⟨ha, hb⟩, hn⟩ := ha
   obtain ⟨h1, h2⟩ := isDig_dg ha
   obtain ⟨h3, h4⟩ := isDig_dg hb
   cases h
   refine ⟨by omega, ?_⟩
   unfold decS
   rw [if_neg (by omega), show (10 * dg a + dg b) / 10 = dg a by omega, show (10 * dg a + dg b) % 10 = dg b by omega]
   show [a, b] = [UInt8.ofNat (48 + dg a), UInt8.ofNat (48 + dg b)]
   rw [← byte h2, ← byte h4]
  ·cases h
 ·cases h
theorem dec_numW {n : Nat} (h : n < 100) : numW (lB (decS n)) = some n := by
 have all : ((List.range 100).all fun k => decide (numW (lB (decS k)) = some k)) = true := by decide +kernel
 simpa using List.all_eq_true.1 all n (List.mem_range.2 h)
def numsW : List (List UInt8) → Option (List Nat)
 | [] => some []
 | w :: l => match numW w, numsW l with
  | some n, some t => some (n :: t)
  | _, _ => none
theorem numsW_snoc (l : List (List UInt8)) (w : List UInt8) : numsW (l ++ [w]) = match numsW l, numW w with
  | some t, some n => some (t ++ [n])
  | _, _ => none := by
 induction l with
 | nil => cases h : numW w <;> simp [numsW, h]
 | cons x l ih =>
  rw [List.cons_append, numsW, ih]
  conv => rhs; rw [numsW]
  cases numW x <;> cases numsW l <;> cases numW w <;> rfl
theorem numsW_decs : ∀ {l : List Nat}, (∀ x ∈ l, x < 100) → numsW (l.map fun n => lB (decS n)) = some l
 | [], _ => rfl
 | x :: l, h => by
  rw [List.map_cons, numsW, dec_numW (h x (by simp)), numsW_decs (fun y hy => h y (by simp [hy]))]
theorem numsW_low : ∀ {L : List (List UInt8)} {l : List Nat}, numsW L = some l → L.length = l.length ∧ ∀ x ∈ l, x < 100
 | [], l, h => by cases h; exact ⟨rfl, fun x hx => by cases hx⟩
 | w :: L, l, h => by
  rw [numsW] at h
  cases h1 : numW w with
  | none => rw [h1] at h; cases h
  | some n =>
   cases h2 : numsW L with
   | none => rw [h1, h2] at h; cases h
   | some t =>
    rw [h1, h2] at h
    cases h
    obtain ⟨h3, h4⟩ := numsW_low h2
    refine ⟨by rw [List.length_cons, List.length_cons, h3], fun x hx => ?_⟩
    rcases List.mem_cons.1 hx with rfl | hx
    ·exact (numW_dec h1).1
    ·exact h4 x hx
def toldW (w : ByteArray) (row : List UInt8) : Option (List Nat) := match spl 32 row with
 | [] => none
 | h :: t => if bT h = w then numsW t else none
theorem told_line {w : ByteArray} {l : List Nat} (hw : (32 : UInt8) ∉ lB w) (hl : ∀ x ∈ l, x < 100) : toldW w (lB (lineS w l)) = some l := by
 unfold toldW
 rw [lB_line, spl_words hw (fun a ha => by
  obtain ⟨n, hn, rfl⟩ := List.mem_map.1 ha
  exact dec_no (hl n hn) (by decide))]
 simp only
 rw [bT_lB, if_pos rfl, numsW_decs hl]
theorem told_low {w : ByteArray} {row : List UInt8} {l : List Nat} (h : toldW w row = some l) : (∀ x ∈ l, x < 100) ∧ 2 * l.length ≤ row.length := by
 unfold toldW at h
 have hs := spl_size (c := 32) row
 cases hsp : spl 32 row with
 | nil => rw [hsp] at h; cases h
 | cons a t =>
  rw [hsp] at h hs
  simp only at h
  split at h
  ·obtain ⟨h1, h2⟩ := numsW_low h
   refine ⟨h2, ?_⟩
   have key : ∀ (L : List (List UInt8)) (l : List Nat), numsW L = some l → l.length ≤ (L.map List.length).sum := fun L => by
    induction L with
    | nil => intro l h; cases h; exact Nat.le_refl _
    | cons w L ih =>
     intro l h
     rw [numsW] at h
     cases h1 : numW w with
     | none => rw [h1] at h; cases h
     | some n =>
      cases h2 : numsW L with
      | none => rw [h1, h2] at h; cases h
      | some t =>
       rw [h1, h2] at h
       cases h
       have := ih t h2
       have hw : 1 ≤ w.length := by
        cases w with
        | nil => cases h1
        | cons x w => exact Nat.succ_pos _
       simp only [List.length_cons, List.map_cons, List.sum_cons]
       omega
   have := key t l h
   simp only [List.map_cons, List.sum_cons, List.length_cons] at hs
   omega
  ·cases h
def pairsN : List Nat → List Move
 | a :: b :: l => ((a : Int), (b : Int)) :: pairsN l
 | _ => []
theorem pairs_flat : ∀ {st : List Move}, (∀ m ∈ st, inL m.1 ∧ inL m.2) → pairsN (flatM st) = st
 | [], _ => rfl
 | m :: st, h => by
  obtain ⟨h1, h2⟩ := h m (by simp)
  unfold inL at h1 h2
  show pairsN (m.1.toNat :: m.2.toNat :: flatM st) = _
  rw [pairsN, pairs_flat (fun x hx => h x (by simp [hx])), Int.toNat_of_nonneg h1.1, Int.toNat_of_nonneg h2.1]
theorem pairs_low : ∀ {l : List Nat}, (∀ x ∈ l, x < 100) → 2 * (pairsN l).length ≤ l.length ∧ ∀ m ∈ pairsN l, inL m.1 ∧ inL m.2
 | [], _ => ⟨Nat.le_refl _, fun m hm => by cases hm⟩
 | [_], _ => ⟨Nat.zero_le _, fun m hm => by cases hm⟩
 | a :: b :: l, h => by
  obtain ⟨h1, h2⟩ := pairs_low (l := l) (fun x hx => h x (by simp [hx]))
  rw [pairsN]
  refine ⟨by simp only [List.length_cons]; omega, fun m hm => ?_⟩
  rcases List.mem_cons.1 hm with rfl | hm
  ·have ha := h a (by simp)
   have hb := h b (by simp)
   unfold inL
   exact ⟨⟨by omega, by omega⟩, ⟨by omega, by omega⟩⟩
  ·exact h2 m hm
def addS (vs : List Vers) (st : List Move) : List Vers := vs.dropLast ++ [(vs.getLast?.getD []) ++ [st]]
theorem addS_snoc (vs : List Vers) (v : Vers) (st : List Move) : addS (vs ++ [v]) st = vs ++ [v ++ [st]] := by
 unfold addS
 rw [List.dropLast_concat, List.getLast?_concat]
 rfl
def stepV (vs : List Vers) (row : List UInt8) : Option (List Vers) :=
 if bT row = wVersion then some (vs ++ [[]]) else match toldW wState row with
  | none => none
  | some l => if vs ≠ [] ∧ l.length % 2 = 0 then some (addS vs (pairsN l)) else none
def foldV : List Vers → List (List UInt8) → Option (List Vers)
 | vs, [] => some vs
 | vs, r :: l => match stepV vs r with
  | none => none
  | some vs' => foldV vs' l
theorem foldV_append (a b : List (List UInt8)) : ∀ vs, foldV vs (a ++ b) = match foldV vs a with
  | none => none
  | some vs' => foldV vs' b := by
 induction a with
 | nil => exact fun vs => rfl
 | cons r a ih =>
  intro vs
  rw [List.cons_append, foldV, foldV]
  cases stepV vs r with
  | none => rfl
  | some vs' => exact ih vs'
theorem foldV_none {L : List (List UInt8)} {vs : List Vers} {k : Nat} (h : foldV vs (L.take k) = none) : foldV vs L = none := by
 conv => lhs; rw [← List.take_append_drop k L]
 rw [foldV_append, h]
theorem line_ne {st : List Move} : lineS1 st ≠ wVersion := fun e => by
 have h : (lB (lineS1 st)).head? = (lB wVersion).head? := congrArg (fun s => (lB s).head?) e
 unfold lineS1 at h
 rw [lB_line] at h
 have h2 : some (115 : UInt8) = some 118 := h
 cases h2
def okSt (st : List Move) : Prop := ∀ m ∈ st, inL m.1 ∧ inL m.2
theorem step_state {vs : List Vers} {v : Vers} {st : List Move} (h : okSt st) : stepV (vs ++ [v]) (lB (lineS1 st)) = some (vs ++ [v ++ [st]]) := by
 unfold stepV
 rw [bT_lB, if_neg line_ne]
 have h1 : toldW wState (lB (lineS1 st)) = some (flatM st) := told_line (by decide) (flatM_low h)
 rw [h1]
 simp only
 rw [if_pos ⟨by simp, by rw [flatM_length]; omega⟩, pairs_flat h, addS_snoc]
theorem fold_states {vs : List Vers} : ∀ {l v : Vers}, (∀ st ∈ l, okSt st) → foldV (vs ++ [v]) ((l.map lineS1).map lB) = some (vs ++ [v ++ l])
 | [], v, _ => by rw [List.append_nil]; rfl
 | st :: l, v, h => by
  rw [List.map_cons, List.map_cons, foldV, step_state (h st (by simp))]
  simp only
  rw [fold_states (fun x hx => h x (by simp [hx])), List.append_assoc]
  rfl
theorem fold_rows : ∀ {l vs : List Vers}, (∀ v ∈ l, ∀ st ∈ v, okSt st) → foldV vs ((l.flatMap rowsV).map lB) = some (vs ++ l)
 | [], vs, _ => by rw [List.append_nil]; rfl
 | v :: l, vs, h => by
  rw [List.flatMap_cons, List.map_append]
  show foldV vs (lB wVersion :: ((v.map lineS1).map lB ++ (l.flatMap rowsV).map lB)) = _
  have h1 : stepV vs (lB wVersion) = some (vs ++ [[]]) := by
   unfold stepV
   rw [bT_lB, if_pos rfl]
  rw [foldV, h1]
  simp only
  rw [foldV_append, fold_states (h v (by simp))]
  simp only
  rw [List.nil_append, fold_rows (fun w hw => h w (by simp [hw])), List.append_assoc]
  rfl
def parseB (l : List UInt8) : Option Book := match spl 10 l with
 | [] => none
 | r0 :: rest => if rest.length < 2 then none else match toldW wBook r0 with
  | some [c, t] => match foldV [] (rest.take (rest.length - 2)) with
   | some vs => some ⟨c, t, vs⟩
   | none => none
  | _ => none
theorem line_no {w : ByteArray} {l : List Nat} {c : UInt8} (hc : c.toNat < 48) (h32 : c ≠ 32) (hw : c ∉ lB w) (hl : ∀ x ∈ l, x < 100) : c ∉ lB (lineS w l) := by
 rw [lB_line]
 intro h
 rcases List.mem_append.1 h with h | h
 ·exact hw h
 ·obtain ⟨a, ha, h⟩ := List.mem_flatMap.1 h
  obtain ⟨n, hn, rfl⟩ := List.mem_map.1 ha
  rcases List.mem_cons.1 h with h | h
  ·exact h32 h
  ·exact dec_no (hl n hn) hc h
theorem LowB.nums {b : Book} (hb : LowB b) : ∀ x ∈ [b.cues.toNat, b.tunes.toNat], x < 100 := fun x hx => by
 have h1 := hb.c
 have h2 := hb.t
 unfold inL at h1 h2
 simp only [List.mem_cons, List.not_mem_nil, or_false] at hx
 rcases hx with rfl | rfl <;> omega
theorem rows_no {b : Book} (hb : LowB b) : ∀ a ∈ (rowsB b).map lB, (10 : UInt8) ∉ a := fun a ha => by
 obtain ⟨s, hs, rfl⟩ := List.mem_map.1 ha
 unfold rowsB at hs
 rcases List.mem_cons.1 hs with rfl | hs
 ·exact line_no (by decide) (by decide) (by decide) hb.nums
 ·obtain ⟨v, hv, hs⟩ := List.mem_flatMap.1 hs
  rcases List.mem_cons.1 hs with rfl | hs
  ·decide
  ·obtain ⟨st, hst, rfl⟩ := List.mem_map.1 hs
   exact line_no (by decide) (by decide) (by decide) (flatM_low (hb.m v hv st hst).2)
def sealE (L : List ByteArray) : List UInt8 := lB (⟨#[101, 110, 100, 32]⟩ ++ decS (sealN L / 100) ++ decS (sealN L / 10 % 10) ++ decS (sealN L % 10))
theorem lB_seal (L : List ByteArray) : lB (sealS L) = (L.map lB).flatMap (fun a => a ++ [10]) ++ (sealE L ++ [10]) := by
 unfold sealS sealE
 rw [lB_app, lB_app, lB_app, lB_app, lB_app, lB_app, lB_app, lB_app, lB_tx L L.length (Nat.le_refl _), List.take_length]
 simp only [List.append_assoc]
 rfl
theorem sealE_no (L : List ByteArray) : (10 : UInt8) ∉ sealE L := by
 have hc : sealN L < 191 := Nat.mod_lt _ (by decide)
 unfold sealE
 rw [lB_app, lB_app, lB_app]
 intro h
 simp only [List.mem_append] at h
 rcases h with ((h | h) | h) | h
 ·exact absurd h (by decide)
 ·exact dec_no (by omega) (by decide) h
 ·exact dec_no (by omega) (by decide) h
 ·exact dec_no (by omega) (by decide) h
theorem spl_seal {b : Book} (hb : LowB b) : spl 10 (lB (sealS (rowsB b))) = (rowsB b).map lB ++ [sealE (rowsB b), []] := by
 rw [lB_seal, spl_lines _ (rows_no hb), spl_front [] (sealE_no _)]
 rfl
theorem parse_print {b : Book} (hb : LowB b) : parseB (lB (sealS (rowsB b))) = some b := by
 unfold parseB
 rw [spl_seal hb]
 unfold rowsB
 rw [List.map_cons, List.cons_append]
 dsimp only
 rw [List.length_append, if_neg (by show ¬ _ + 2 < 2; omega), told_line (by decide) hb.nums]
 simp only
 rw [show ((b.vs.flatMap rowsV).map lB).length + [sealE (lineS wBook [b.cues.toNat, b.tunes.toNat] :: b.vs.flatMap rowsV), []].length - 2 = ((b.vs.flatMap rowsV).map lB).length by show _ + 2 - 2 = _; omega, List.take_left,
  fold_rows (fun v hv st hst => (hb.m v hv st hst).2)]
 simp only
 rw [Int.toNat_of_nonneg hb.c.1, Int.toNat_of_nonneg hb.t.1]
 rfl
theorem text_unique {b b' : Book} (h : LowB b) (h' : LowB b') (e : sealS (rowsB b) = sealS (rowsB b')) : b = b' := by
 have h1 := parse_print h
 rw [e, parse_print h'] at h1
 cases h1; rfl
def okVs (N : Nat) (vs : List Vers) : Prop := (∀ v ∈ vs, ∀ st ∈ v, 4 * st.length ≤ N ∧ okSt st)
theorem step_low {N : Nat} {vs vs' : List Vers} {row : List UInt8} (hr : row.length ≤ N) (h : okVs N vs) (hs : stepV vs row = some vs') : okVs N vs' ∧ (vs'.flatMap rowsV).length = (vs.flatMap rowsV).length + 1 := by
 unfold stepV at hs
 split at hs
 ·cases hs
  refine ⟨fun v hv st hst => ?_, by rw [List.flatMap_append, List.length_append]; rfl⟩
  rcases List.mem_append.1 hv with hv | hv
  ·exact h v hv st hst
  ·rw [List.mem_singleton.1 hv] at hst; cases hst
 ·cases ht : toldW wState row with
  | none => rw [ht] at hs; cases hs
  | some l =>
   rw [ht] at hs
   simp only at hs
   split at hs
   ·rename_i hc
    cases hs
    obtain ⟨h1, h2⟩ := told_low ht
    obtain ⟨h3, h4⟩ := pairs_low h1
    obtain ⟨ini, v, rfl⟩ : ∃ ini v, vs = ini ++ [v] := ⟨vs.dropLast, vs.getLast hc.1, (List.dropLast_concat_getLast hc.1).symm⟩
    rw [addS_snoc]
    refine ⟨fun w hw st hst => ?_, ?_⟩
    ·rcases List.mem_append.1 hw with hw | hw
     ·exact h w (List.mem_append_left _ hw) st hst
     ·rw [List.mem_singleton.1 hw] at hst
      rcases List.mem_append.1 hst with hst | hst
      ·exact h v (by simp) st hst
      ·rw [List.mem_singleton.1 hst]
       exact ⟨by omega, h4⟩
    ·have e : ∀ v : Vers, (rowsV v).length = v.length + 1 := fun v => by
      show (v.map lineS1).length + 1 = _
      rw [List.length_map]
     simp only [List.flatMap_append, List.length_append, List.flatMap_cons, List.flatMap_nil, List.length_nil, e, List.length_singleton]
     omega
   ·cases hs
theorem fold_low {N : Nat} : ∀ {L : List (List UInt8)} {vs vs' : List Vers}, (∀ row ∈ L, row.length ≤ N) → okVs N vs → foldV vs L = some vs' → okVs N vs' ∧ (vs'.flatMap rowsV).length = (vs.flatMap rowsV).length + L.length
 | [], vs, vs', _, h, hs => by cases hs; exact ⟨h, rfl⟩
 | r :: L, vs, vs', hL, h, hs => by
  rw [foldV] at hs
  cases h1 : stepV vs r with
  | none => rw [h1] at hs; cases hs
  | some v1 =>
   rw [h1] at hs
   obtain ⟨k1, k2⟩ := step_low (hL r (by simp)) h h1
   obtain ⟨k3, k4⟩ := fold_low (fun x hx => hL x (by simp [hx])) k1 hs
   exact ⟨k3, by rw [List.length_cons]; omega⟩
theorem spl_each {c : UInt8} {l : List UInt8} : ∀ a ∈ spl c l, a.length ≤ l.length := fun a ha => by
 have hs := spl_size (c := c) l
 have key : ∀ (L : List (List UInt8)), a ∈ L → a.length + L.length ≤ (L.map List.length).sum + L.length := fun L => by
  induction L with
  | nil => intro h; cases h
  | cons x L ih =>
   intro h
   rcases List.mem_cons.1 h with rfl | h
   ·simp only [List.map_cons, List.sum_cons]; omega
   ·have := ih h
    simp only [List.map_cons, List.sum_cons, List.length_cons] at this ⊢
    omega
 have h1 := key _ ha
 have h2 := List.length_pos_iff.2 (spl_ne c l)
 omega
theorem low_of {N : Nat} {c t : Nat} {vs : List Vers} (hN : N ≤ 600) (hc : c < 100) (ht : t < 100) (h : okVs N vs) (hn : (vs.flatMap rowsV).length ≤ N) : LowB ⟨c, t, vs⟩ :=
 ⟨⟨by show (0 : Int) ≤ c; omega, by show (c : Int) < 100; omega⟩, ⟨by show (0 : Int) ≤ t; omega, by show (t : Int) < 100; omega⟩, fun v hv st hst => ⟨by have := (h v hv st hst).1; omega, (h v hv st hst).2⟩, by
  show (vs.flatMap rowsV).length + 1 ≤ 1000
  omega⟩
theorem parse_low {l : List UInt8} {b : Book} (hl : l.length ≤ 600) (h : parseB l = some b) : LowB b := by
 unfold parseB at h
 have hs := spl_size (c := 10) l
 have he := spl_each (c := 10) (l := l)
 cases hsp : spl 10 l with
 | nil => rw [hsp] at h; cases h
 | cons r0 rest =>
  rw [hsp] at h hs he
  simp only at h
  split at h
  ·cases h
  ·split at h
   ·rename_i c t hct
    split at h
    ·rename_i vs hvs
     cases h
     have hct := (told_low hct).1
     obtain ⟨k1, k2⟩ := fold_low (N := 600) (fun row hr => by
      have := he row (by simp [List.mem_of_mem_take hr])
      omega) (fun v hv => by cases hv) hvs
     refine low_of (Nat.le_refl _) (hct c (by simp)) (hct t (by simp)) k1 ?_
     rw [k2, List.length_take]
     simp only [List.length_cons, List.map_cons, List.sum_cons] at hs
     show 0 + _ ≤ 600
     omega
    ·cases h
   ·cases h
end Go.Vm

namespace Go.Vm
open Go.Proofs
theorem read_iff {l : List UInt8} {b : Book} (hl : l.length ≤ 600) : (parseB l = some b ∧ sealS (rowsB b) = bT l) ↔ LowB b ∧ sealS (rowsB b) = bT l := by
 refine ⟨fun h => ⟨parse_low hl h.1, h.2⟩, fun h => ⟨?_, h.2⟩⟩
 have := parse_print h.1
 rw [h.2] at this
 exact this
open Classical in
noncomputable def bookOf (l : List UInt8) : Option Book := if h : ∃ b, LowB b ∧ sealS (rowsB b) = bT l then some h.choose else none
theorem bookOf_some {l : List UInt8} {b : Book} : bookOf l = some b ↔ LowB b ∧ sealS (rowsB b) = bT l := by
 unfold bookOf
 constructor
 ·intro h
  split at h
  ·rename_i hx
   cases h
   exact hx.choose_spec
  ·cases h
 ·intro h
  rw [dif_pos ⟨b, h⟩]
  have h2 := (⟨b, h⟩ : ∃ b, LowB b ∧ sealS (rowsB b) = bT l).choose_spec
  exact congrArg some (text_unique h2.1 h.1 (h2.2.trans h.2.symm))
end Go.Vm

namespace Go.Vm
open Go.Proofs Go.RowKit
def rst (c : UInt8) (l : List UInt8) : Nat → List UInt8
 | 0 => l
 | r + 1 => (rst c l r).drop (idxN c (rst c l r) + 1)
def pcs (c : UInt8) (l : List UInt8) (r : Nat) : List UInt8 := (rst c l r).take (idxN c (rst c l r))
theorem rst_count {c : UInt8} {l : List UInt8} : ∀ {r : Nat}, r ≤ l.count c → (rst c l r).count c = l.count c - r
 | 0, _ => rfl
 | r + 1, h => by
  have ih := rst_count (c := c) (l := l) (r := r) (by omega)
  have := (spl_some (c := c) (l := rst c l r) (by omega)).2.2.2
  show ((rst c l r).drop (idxN c (rst c l r) + 1)).count c = _
  omega
theorem rst_spl {c : UInt8} {l : List UInt8} : ∀ {r : Nat}, r ≤ l.count c → spl c l = (List.range r).map (pcs c l) ++ spl c (rst c l r)
 | 0, _ => rfl
 | r + 1, h => by
  have h1 := rst_count (c := c) (l := l) (r := r) (by omega)
  have h2 := (spl_some (c := c) (l := rst c l r) (by omega)).2.2.1
  rw [rst_spl (r := r) (by omega), h2, List.range_succ, List.map_append, List.append_assoc]
  rfl
theorem rst_length {c : UInt8} {l : List UInt8} : ∀ r, (rst c l r).length ≤ l.length
 | 0 => Nat.le_refl _
 | r + 1 => by
  have := rst_length (c := c) (l := l) r
  show ((rst c l r).drop _).length ≤ _
  rw [List.length_drop]
  omega
theorem rst_last (c : UInt8) (l : List UInt8) : spl c l = (List.range (l.count c)).map (pcs c l) ++ [rst c l (l.count c)] := by
 rw [rst_spl (Nat.le_refl _), spl_none (by rw [rst_count (Nat.le_refl _)]; omega)]
theorem str_eq {a b : ByteArray} : (a.toList == b.toList) = true ↔ a = b := by
 rw [Lib.toList_data, Lib.toList_data, beq_iff_eq]
 exact ⟨bytes_ext, fun h => by rw [h]⟩
theorem slice_str {s : ByteArray} {a b : Option Nat} (h : a.getD 0 ≤ b.getD s.size ∧ b.getD s.size ≤ s.size) : sliceA Tryz.prog 9 (sA s) a b none = some (sA (s.extract (a.getD 0) (b.getD s.size))) := by
 unfold sliceA
 simp only [sA, show Tryz.prog.underlying 9 = some .string by kernel_rfl]
 rw [if_pos ⟨rfl, h⟩]
theorem aop_slice {P : Program} {m : Bool} {g : Nat → Option Blk} {n : Nat} {ρ : Operand → Option AV} {o : Oper} {t : TypeId} {x : Operand} {lo hi : Option Operand} {a v : AV} {l h : Option Nat} (ho : o.op = .slice t x lo hi none) (hx : ρ x = some a) (hl : natOf (lo.bind ρ) = some l) (hh : natOf (hi.bind ρ) = some h)
  (h1 : lo.isSome = l.isSome) (h2 : hi.isSome = h.isSome) (hs : sliceA P t a l h none = some v) : aopF P m g n ρ o = some (.val v .same) := by
 rw [aopF_fun]
 obtain ⟨dst, op, ty, pos, after, guard⟩ := o
 simp only at ho
 subst ho
 simp only [aopT, plainT, aop, hx, hl, hh, Option.bind_none, show natOf none = some none from rfl, h1, h2, hs, beq_self_eq_true, Option.isSome_none, Bool.and_self, if_true, Option.map_some]
theorem nat_of {k : Nat} {a : Int} (h : a = k) : natOf (some (n' a)) = some (some k) := by
 subst h
 unfold natOf n'
 simp only
 rw [if_pos (by omega), Int.toNat_natCast]
def splC (c : UInt8) (l : List UInt8) (r : Nat) (i : Nat) : AV := sA (if i < r then bT (pcs c l i) else ByteArray.empty)
theorem under_splC (n m : Nat) (c : UInt8) (l : List UInt8) (r : Nat) : AV.unders n (cellsR m (splC c l r)) := by
 unfold cellsR
 generalize List.range m = L
 induction L with
 | nil => trivial
 | cons x L ih => exact ⟨trivial, ih⟩
theorem slice_hsl {N : Nat} (h : 0 < N) : sliceA Tryz.prog 176 (.hsl 0 0 N N) none (some N) none = some (.hsl 0 0 N N) := by
 unfold sliceA
 simp only [show Tryz.prog.underlying 176 = some (.slice 9) by kernel_rfl, show tsz Tryz.prog 9 = some 1 by kernel_rfl]
 rw [if_pos ⟨rfl, Nat.zero_le _, Nat.le_refl _, Nat.le_refl _, h⟩]
 rfl
theorem FrzL.strs (g : Nat → Option Blk) : ∀ L : List ByteArray, FrzL g (L.map sA) (L.map sA)
 | [] => FrzL.nil g
 | _ :: L => FrzL.cons (Frz.keep trivial) (FrzL.strs g L)
set_option maxHeartbeats 4000000 in
set_option maxRecDepth 100000 in
theorem c_gsplit (l : List UInt8) (c : UInt8) (hl : l.length ≤ 60000) (H : List Blk) : ACall Tryz.prog 206 [sA (bT l), sA ⟨#[c]⟩, n' 0, n' (-1)] H (.ret (eStrs ((spl c l).map bT))) H := by
 refine fn_ruleH (m := false) (fn := Tryz.f206) (c := (Tryz.f206.body).getD .skip) mixed (by kernel_rfl) (by kernel_rfl) (of_decide_eq_true (by kernel_rfl)) ?_ ?_ ?_ H
 ·exact ⟨trivial, trivial, trivial, trivial, trivial⟩
 ·exact under_eStrs _ _
 ·refine If.mk (fun h => absurd h (by decide)) (fun _ => ?_)
  refine ifN ?_
  refine IfB.mk (fun e => absurd (congrArg ByteArray.size (str_eq.1 e)) (fun h => absurd (show (1 : Nat) = 0 from h) (by decide))) (fun _ => ?_)
  refine If.mk (fun _ => ?_) (fun h => absurd (by decide) h)
  refine ifY ?_
  have hcl : l.count c ≤ l.length := List.count_le_length
  have hbs : (bT l).size = l.length := rfl
  have hcs : (⟨#[c]⟩ : ByteArray).size = 1 := rfl
  have hmin : (if (((bT l).size : Nat) : Int) + 1 < ((l.count c : Nat) : Int) + 1 then (((bT l).size : Nat) : Int) + 1 else ((l.count c : Nat) : Int) + 1) - 1 = ((l.count c : Nat) : Int) := by split <;> omega
  refine CallG.pure _ (c_countB l c) ?_
  refine Side.mk (fits64 (by omega)) ?_
  refine Side.mk (fits64 (by omega)) ?_
  refine Ex.mk _ rfl ?_
  refine now_of (aop_makeSlice (k := l.count c + 1) (e := 9) (bytes := 16) (x := .string ByteArray.empty) (z := .string ByteArray.empty) rfl rfl rfl (by split <;> omega) (by omega) (by kernel_rfl) (by kernel_rfl) (by kernel_rfl) (by kernel_rfl) rfl (by omega)) ?_
  refine Side.mk (fits64 (by omega)) ?_
  refine LoopG.at (n0 := 1) rfl (loop_up mixed (m := false) (fun r => [(0, sA (bT (rst c l r))), (1, sA ⟨#[c]⟩), (2, n' 0), (3, n' (l.count c : Nat)), (9, .hsl 0 0 (l.count c + 1) (l.count c + 1)), (10, n' r)]) (fun r => [(0, .box (cellsR (l.count c + 1) (splC c l r)) 9)]) (fun _ => True) (l.count c) 0 (leb rfl) trivial ?_ ?_ ?_)
  ·exact ⟨wp rfl trivial, wp rfl trivial, wp rfl trivial, ⟨_, rfl, Weak.of_eq (congrArg n' hmin), trivial⟩, wp rfl (ltb rfl), wp rfl trivial, trivial⟩
  ·exact ⟨bk rfl rfl, trivial⟩
  ·intro r hr _
   refine If.mk (fun h1 => ?_) (fun h1 => ?_)
   ·refine ifY ?_
    have hrc := rst_count (c := c) (l := l) hr
    obtain ⟨k1, k2, k3, k4⟩ := spl_some (c := c) (l := rst c l r) (by omega)
    have hrl := rst_length (c := c) (l := l) r
    have hb := bT_size (rst c l r)
    have hix := c_indexB (rst c l r) c
    rw [k2] at hix
    have hsl1 : sliceA Tryz.prog 9 (sA (bT (rst c l r))) none (some (idxN c (rst c l r))) none = some (sA (bT (pcs c l r))) := by
     rw [slice_str ⟨Nat.zero_le _, by show idxN c (rst c l r) ≤ (bT (rst c l r)).size; omega⟩]
     exact congrArg (fun x => some (sA x)) ((bT_extract (rst c l r) 0 (idxN c (rst c l r))).trans rfl)
    have hsl2 : sliceA Tryz.prog 9 (sA (bT (rst c l r))) (some (idxN c (rst c l r) + 1)) none none = some (sA (bT (rst c l (r + 1)))) := by
     rw [slice_str ⟨by show idxN c (rst c l r) + 1 ≤ (bT (rst c l r)).size; omega, Nat.le_refl _⟩]
     refine congrArg (fun x => some (sA x)) ((bT_extract (rst c l r) (idxN c (rst c l r) + 1) (bT (rst c l r)).size).trans ?_)
     rw [hb, List.take_length]
     rfl
    refine CallG.pure _ (hix) ?_
    refine If.mk (fun h => absurd h (by omega)) (fun _ => ?_)
    refine ifN ?_
    refine Side.mk (fits64 (by omega)) ?_
    refine Ex.mk _ (aop_slice (a := sA (bT (rst c l r))) (l := none) (h := some (idxN c (rst c l r))) rfl rfl rfl (nat_of (by omega)) rfl rfl hsl1) ?_
    have hset : (cellsR (l.count c + 1) (splC c l r)).take r ++ [sA (bT (pcs c l r))] ++ (cellsR (l.count c + 1) (splC c l r)).drop (r + 1) = cellsR (l.count c + 1) (splC c l (r + 1)) :=
     cellsR_set (by omega) (congrArg sA (if_pos (Nat.lt_succ_self r))) (fun y hy => by
      unfold splC
      by_cases h : y < r
      ·rw [if_pos h, if_pos (by omega)]
      ·rw [if_neg h, if_neg (by omega)])
    refine now_of (aop_indexH (elem := 9) (sz := 1) (r := r) rfl rfl rfl rfl (by omega) (by kernel_rfl) (by kernel_rfl)) ?_
    refine now_of (aop_stP (t := 9) rfl rfl rfl (store_ptr (cells' := cellsR (l.count c + 1) (splC c l (r + 1))) rfl (by kernel_rfl) (by rw [cellsR_length]; omega) rfl rfl (by rw [Nat.zero_add, Nat.mul_one]; exact hset))) ?_
    refine Side.mk (fits64 (by omega)) ?_
    refine Ex.mk _ (aop_slice (a := sA (bT (rst c l r))) (l := some (idxN c (rst c l r) + 1)) (h := none) rfl rfl (nat_of (by omega)) rfl rfl rfl hsl2) ?_
    refine Side.mk (fits64 (by omega)) ?_
    exact ⟨leb rfl, rfl, by omega, trivial, ⟨wp rfl trivial, wp rfl trivial, wp rfl trivial, wp rfl trivial, wp rfl (ltb rfl), wp rfl trivial, trivial⟩, ⟨bk rfl rfl, trivial⟩, ⟨_, rfl, under_splC _ _ _ _ _⟩, trivial⟩
   ·refine ifN ?_
    obtain rfl : r = l.count c := by omega
    have hset : (cellsR (l.count c + 1) (splC c l (l.count c))).take (l.count c) ++ [sA (bT (rst c l (l.count c)))] ++ (cellsR (l.count c + 1) (splC c l (l.count c))).drop (l.count c + 1) = ((spl c l).map bT).map sA := by
     unfold cellsR
     have hk : ((List.range (l.count c)).map (splC c l (l.count c))).length = l.count c := by rw [List.length_map, List.length_range]
     have hm : (List.range (l.count c)).map (splC c l (l.count c)) = (((List.range (l.count c)).map (pcs c l)).map bT).map sA := by
      rw [List.map_map, List.map_map]
      refine List.map_congr_left fun x hx => ?_
      exact congrArg sA (if_pos (List.mem_range.1 hx))
     rw [List.range_succ, List.map_append, List.take_append_of_le_length (Nat.le_of_eq hk.symm), List.take_of_length_le (Nat.le_of_eq hk), List.drop_of_length_le (by rw [List.length_append, hk]; exact Nat.le_refl _), List.append_nil, hm, rst_last c l, List.map_append, List.map_append]
     rfl
    refine ⟨leb rfl, ?_⟩
    refine now_of (aop_indexH (elem := 9) (sz := 1) (r := l.count c) rfl rfl rfl rfl (by omega) (by kernel_rfl) (by kernel_rfl)) ?_
    refine now_of (aop_stP (t := 9) rfl rfl rfl (store_ptr (cells' := ((spl c l).map bT).map sA) rfl (by kernel_rfl) (by rw [cellsR_length]; omega) rfl rfl (by rw [Nat.zero_add, Nat.mul_one]; exact hset))) ?_
    refine Side.mk (fits64 (by omega)) ?_
    refine Ex.mk _ (aop_slice (a := .hsl 0 0 (l.count c + 1) (l.count c + 1)) (l := none) (h := some (l.count c + 1)) rfl rfl rfl (nat_of (by omega)) rfl rfl (slice_hsl (Nat.succ_pos _))) ?_
    refine ⟨.inl rfl, rfl, _, rfl, ?_⟩
    have hlen : (((spl c l).map bT).map sA).length = l.count c + 1 := by rw [List.length_map, List.length_map, spl_length]
    have he : eStrs ((spl c l).map bT) = .sl (l.count c + 1) (((spl c l).map bT).map sA) .unk := by
     unfold eStrs
     rw [List.length_map, spl_length]
    rw [he]
    exact Frz.hsl (cells := ((spl c l).map bT).map sA) rfl hlen hlen (FrzL.strs _ _)
set_option maxRecDepth 100000 in
theorem c_split (l : List UInt8) (c : UInt8) (hl : l.length ≤ 60000) (H : List Blk) : ACall Tryz.prog 186 [sA (bT l), sA ⟨#[c]⟩] H (.ret (eStrs ((spl c l).map bT))) H := by
 refine fn_rule (m := false) (fn := Tryz.f186) (c := (Tryz.f186.body).getD .skip) mixed (by kernel_rfl) (by kernel_rfl) (of_decide_eq_true (by kernel_rfl)) ?_ ?_ ?_ H
 ·exact ⟨trivial, trivial, trivial⟩
 ·exact under_eStrs _ _
 ·refine CallG.pure _ (c_gsplit l c hl) ?_
  refine ⟨.inl rfl, FinG.mk _ rfl rfl ?_⟩
  show AV.sl _ (AV.freezes _ (((spl c l).map bT).map sA)) .unk = _
  rw [freezes_map (fun _ => rfl)]
  rfl
end Go.Vm

namespace Go.Vm
open Go.Proofs Go.RowKit
def why (k : ByteArray) : AV := .iface 226 (.agg [.lit (.string k)])
set_option maxRecDepth 100000 in
theorem c_sure_yes (k : ByteArray) (H : List Blk) : ACall Tryz.prog 187 [.lit (.bool true), sA k] H (.ret (.tup [])) H := by
 refine fn_rule (m := false) (fn := Tryz.f187) (c := (Tryz.f187.body).getD .skip) mixed (by kernel_rfl) (by kernel_rfl) (of_decide_eq_true (by kernel_rfl)) ?_ ?_ ?_ H
 ·exact ⟨trivial, trivial, trivial⟩
 ·exact trivial
 ·refine ifN ?_
  exact ⟨.inr rfl, FinG.mk _ rfl rfl rfl⟩
set_option maxRecDepth 100000 in
theorem c_sure_no (k : ByteArray) (H : List Blk) : ACall Tryz.prog 187 [.lit (.bool false), sA k] H (.pan (why k)) H := by
 have h := fn_ruleP (P := Tryz.prog) (f := 187) (args := [.lit (.bool false), sA k]) (R := fun _ => False) (R' := fun v => v = why k) (m := false) (fn := Tryz.f187) (c := (Tryz.f187.body).getD .skip) mixed (by kernel_rfl) (by kernel_rfl) (of_decide_eq_true (by kernel_rfl)) ⟨trivial, trivial, trivial⟩ (fun _ h => h.elim) (fun v h => by subst h; rfl) (by
  refine ifY ?_
  exact .inr ⟨_, rfl, rfl, rfl⟩)
 rcases h with ⟨v, h, _⟩ | ⟨v, rfl, h⟩
 ·exact h.elim
 ·exact h H
theorem CallG.sure {b : Bool} {k : ByteArray} {t : Trie Blk} {n : Nat} {K Kp : AV → Trie Blk → Nat → Nat → Prop} (h1 : b = true → K (.tup []) t n noLo) (h2 : b = false → Kp (why k) t n noLo) : CallG Tryz.prog 187 [.lit (.bool b), sA k] t n K Kp := by
 cases b with
 | true => exact .pure _ (c_sure_yes k) (h1 rfl)
 | false => exact .pan _ (c_sure_no k) (h2 rfl)
theorem dec_big {s : ByteArray} {pos : Nat} (h : pos < s.size) (h2 : 128 ≤ (s[pos]'h).toNat) : 128 ≤ (Utf8.decode s pos).1 := by
 have e : s.get! (pos + 0) = s[pos]'h := by
  show s.get! pos = _
  simp [ByteArray.get!, getElem!_pos, h]
  rfl
 unfold Utf8.decode
 simp only [e]
 rw [if_neg (by omega)]
 have hr : 128 ≤ (Utf8.runeError, 1).1 := by decide
 split
 ·split
  ·rename_i hc; exact hc
  ·exact hr
 ·split
  ·split
   ·rename_i hc
    simp only [Bool.and_eq_true, decide_eq_true_eq] at hc
    exact Nat.le_trans (by decide) hc.1
   ·exact hr
  ·split
   ·split
    ·rename_i hc
     simp only [Bool.and_eq_true, decide_eq_true_eq] at hc
     exact Nat.le_trans (by decide) hc.1
    ·exact hr
   ·exact hr
theorem dec_dig {u : List UInt8} {j : Nat} {x : UInt8} (hx : u[j]? = some x) (h1 : 48 ≤ (Utf8.decode (bT u) j).1) (h2 : (Utf8.decode (bT u) j).1 ≤ 57) : isDig x = true ∧ Utf8.decode (bT u) j = (x.toNat, 1) := by
 obtain ⟨h', rfl⟩ := List.getElem?_eq_some_iff.1 hx
 have h : j < (bT u).size := h'
 rcases Nat.lt_or_ge ((bT u)[j]'h).toNat 128 with hb | hb
 ·have e := decode_ascii (bT u) j h hb
  rw [e] at h1 h2
  refine ⟨?_, e⟩
  unfold isDig
  simp only [Bool.and_eq_true, decide_eq_true_eq]
  exact ⟨h1, h2⟩
 ·have := dec_big h hb
  omega
theorem dig_dec {u : List UInt8} {j : Nat} {x : UInt8} (hx : u[j]? = some x) (hd : isDig x = true) : Utf8.decode (bT u) j = (x.toNat, 1) ∧ 48 ≤ x.toNat ∧ x.toNat ≤ 57 := by
 obtain ⟨h', rfl⟩ := List.getElem?_eq_some_iff.1 hx
 have h : j < (bT u).size := h'
 unfold isDig at hd
 simp only [Bool.and_eq_true, decide_eq_true_eq] at hd
 exact ⟨decode_ascii (bT u) j h (by show u[j].toNat < 128; omega), hd.1, hd.2⟩
def numAt (u : List UInt8) : Nat → Nat
 | 0 => 0
 | j + 1 => 10 * numAt u j + dg (u.getD j 0)
theorem numW_spec {u : List UInt8} {n : Nat} (h : numW u = some n) : (∀ b ∈ u, isDig b = true) ∧ u.length ≤ 2 ∧ n = numAt u u.length := by
 unfold numW at h
 split at h
 ·rename_i a
  split at h
  ·rename_i ha
   cases h
   exact ⟨fun b hb => by rw [List.mem_singleton.1 hb]; exact ha, by show 1 ≤ 2; decide, by simp [numAt]⟩
  ·cases h
 ·rename_i a b
  split at h
  ·rename_i ha
   simp only [Bool.and_eq_true, decide_eq_true_eq] at ha
   cases h
   refine ⟨fun c hc => ?_, Nat.le_refl _, by simp [numAt]⟩
   simp only [List.mem_cons, List.not_mem_nil, or_false] at hc
   rcases hc with rfl | rfl
   ·exact ha.1.1
   ·exact ha.1.2
  ·cases h
 ·cases h
theorem numAt_lt {u : List UInt8} (hd : ∀ (i : Nat) (b : UInt8), u[i]? = some b → isDig b = true) (hl : u.length ≤ 2) : ∀ {j : Nat}, j ≤ u.length → numAt u j < 100 ∧ (j ≤ 1 → numAt u j < 10)
 | 0, _ => ⟨by show 0 < 100; decide, fun _ => by show 0 < 10; decide⟩
 | 1, h => by
  obtain ⟨x, hx⟩ : ∃ x, u[0]? = some x := ⟨_, List.getElem?_eq_getElem (by omega)⟩
  have := (isDig_dg (hd 0 x hx)).1
  show 10 * 0 + dg (u.getD 0 0) < 100 ∧ _
  rw [List.getD_eq_getElem?_getD, hx]
  simp only [Option.getD_some]
  exact ⟨by omega, fun _ => by show 10 * 0 + dg (u.getD 0 0) < 10; rw [List.getD_eq_getElem?_getD, hx]; simp only [Option.getD_some]; omega⟩
 | 2, h => by
  have h1 := (numAt_lt hd hl (j := 1) (by omega)).2 (Nat.le_refl _)
  obtain ⟨x, hx⟩ : ∃ x, u[1]? = some x := ⟨_, List.getElem?_eq_getElem (by omega)⟩
  have := (isDig_dg (hd 1 x hx)).1
  refine ⟨?_, fun h => by omega⟩
  show 10 * numAt u 1 + dg (u.getD 1 0) < 100
  rw [List.getD_eq_getElem?_getD, hx]
  simp only [Option.getD_some]
  omega
 | j + 3, h => by omega
theorem numW_of {u : List UInt8} {n : Nat} (hn : n < 100) (h : bT u = decS n) : numW u = some n := by
 have e : u = lB (decS n) := by rw [← h]; rfl
 rw [e]
 exact dec_numW hn
theorem numsW_mem {L : List (List UInt8)} {u : List UInt8} (hu : u ∈ L) (h : numW u = none) : numsW L = none := by
 induction L with
 | nil => cases hu
 | cons w L ih =>
  rw [numsW]
  rcases List.mem_cons.1 hu with rfl | hu
  ·rw [h]
  ·rw [ih hu]
   cases numW w <;> rfl
theorem numsW_take {L : List (List UInt8)} {r : Nat} {l : List Nat} {u : List UInt8} {n : Nat} (h : numsW (L.take r) = some l) (hu : L[r]? = some u) (hn : numW u = some n) : numsW (L.take (r + 1)) = some (l ++ [n]) := by
 rw [take_snocB hu, numsW_snoc, h, hn]
theorem sA_inj {a b : ByteArray} (h : (a.toList == b.toList) = true) : a = b := str_eq.1 h
theorem str_false {a b : ByteArray} (h : (a.toList == b.toList) = false) : a ≠ b := fun e => by
 rw [str_eq.2 e] at h
 cases h
theorem aop_next {P : Program} {m : Bool} {g : Nat → Option Blk} {n : Nat} {ρ : Operand → Option AV} {o : Oper} {x : Operand} {id pos : Nat} {s : ByteArray} (ho : o.op = .next x true) (hx : ρ x = some (.ptr id 0)) (hg : g id = some (.iterS s pos)) (h : pos < s.size) :
  aopF P m g n ρ o = some (.val (.tup [.lit (.bool true), .lit (goInt pos), .lit (.int .i32 (Utf8.decode s pos).1)]) (.set id (.iterS s (pos + (Utf8.decode s pos).2)))) := by
 rw [aopF_fun]
 obtain ⟨dst, op, ty, pos', after, guard⟩ := o
 simp only at ho
 subst ho
 simp only [aopT, hx, hg, h, if_true]
theorem aop_nextE {P : Program} {m : Bool} {g : Nat → Option Blk} {n : Nat} {ρ : Operand → Option AV} {o : Oper} {x : Operand} {id pos : Nat} {s : ByteArray} (ho : o.op = .next x true) (hx : ρ x = some (.ptr id 0)) (hg : g id = some (.iterS s pos)) (h : ¬ pos < s.size) :
  aopF P m g n ρ o = some (.val (.tup [.lit (.bool false)]) .same) := by
 rw [aopF_fun]
 obtain ⟨dst, op, ty, pos', after, guard⟩ := o
 simp only at ho
 subst ho
 simp only [aopT, hx, hg, h, if_false]
end Go.Vm

namespace Go.Vm
open Go.Proofs Go.RowKit
theorem slice_strs {L : List ByteArray} {a h : Nat} {hi : Option Nat} (hh : hi.getD L.length = h) (h1 : a ≤ h) (h2 : h ≤ L.length) : sliceA Tryz.prog 176 (eStrs L) (some a) hi none = some (eStrs ((L.take h).drop a)) := by
 unfold sliceA
 simp only [eStrs, show Tryz.prog.underlying 176 = some (.slice 9) by kernel_rfl, show tsz Tryz.prog 9 = some 1 by kernel_rfl, Option.getD_some, Option.getD_none, Option.isSome_none, Nat.mul_one, List.length_map, hh]
 rw [if_pos ⟨h1, h2, Nat.le_refl _, (fun e => absurd e (by decide)), True.intro, Nat.one_pos⟩]
 have e1 : ((L.map sA).drop a).take (h - a) = ((L.take h).drop a).map sA := by
  rw [← List.map_drop, ← List.map_take, List.drop_take]
 have e2 : h - a = ((L.take h).drop a).length := by
  rw [List.length_drop, List.length_take]
  omega
 rw [e1, if_neg (by decide), ite_self]
 conv => lhs; rw [e2]
theorem slice_tail {x : ByteArray} {L : List ByteArray} : sliceA Tryz.prog 176 (eStrs (x :: L)) (some 1) none none = some (eStrs L) := by
 rw [slice_strs (h := L.length + 1) rfl (Nat.succ_le_succ (Nat.zero_le _)) (Nat.le_refl _)]
 show some (eStrs (((x :: L).take (x :: L).length).drop 1)) = _
 rw [List.take_length]
 rfl
theorem gBin_neqX {P : Program} {t : TypeId} {X : AV} {a b : ByteArray} {K : AV → Prop} (q : Bool) (hX : X = sA a) (h : (a.toList == b.toList) = q) (k : K (.lit (.bool (!q)))) : gBin P .neq t X (.lit (.string b)) K := by
 subst hX
 subst h
 exact k
theorem numAt_bd {u : List UInt8} : ∀ {j : Nat}, j ≤ 2 → numAt u j ≤ 3000
 | 0, _ => Nat.zero_le _
 | 1, _ => by
  have : (u.getD 0 0).toNat < 256 := UInt8.toNat_lt _
  show 10 * 0 + ((u.getD 0 0).toNat - 48) ≤ 3000
  omega
 | 2, _ => by
  have h0 : (u.getD 0 0).toNat < 256 := UInt8.toNat_lt _
  have h1 : (u.getD 1 0).toNat < 256 := UInt8.toNat_lt _
  show 10 * (10 * 0 + ((u.getD 0 0).toNat - 48)) + ((u.getD 1 0).toNat - 48) ≤ 3000
  omega
 | j + 3, h => by omega
theorem fits32 {n : Int} (h : -2147483648 ≤ n ∧ n < 2147483648) : fitsK .i32 n := by
 unfold fitsK
 simp only [IntKind.wrap, IntKind.bits, IntKind.signed]
 simp
 omega
def outN (t : List (List UInt8)) (r : Nat) : List Nat := (numsW (t.take r)).getD []
theorem dig_val {x : UInt8} (h : isDig x = true) : IntKind.i64.wrap (((x.toNat : Nat) : Int) - 48) = ((dg x : Nat) : Int) := by
 obtain ⟨h1, h2⟩ := isDig_dg h
 rw [show ((x.toNat : Nat) : Int) - 48 = ((dg x : Nat) : Int) by omega]
 exact wrap_i64 (by omega) (by omega)
set_option maxRecDepth 100000 in
theorem c_told {l : List UInt8} {kind : Int} {w : ByteArray} (hw : indexA Tryz.prog 246 (.agg [sA wBook, sA wVersion, sA wState]) (n' kind) = some (sA w)) (hl : l.length ≤ 600) :
  (∃ v, (∃ r, toldW w l = some r ∧ v = eInts (cuesI r)) ∧ ∀ H, ACall Tryz.prog 188 [sA (bT l), n' kind] H (.ret v) H) ∨ ∃ v, (toldW w l = none ∧ ∃ k, v = why k) ∧ ∀ H, ACall Tryz.prog 188 [sA (bT l), n' kind] H (.pan v) H := by
 refine fn_ruleP (m := false) (fn := Tryz.f188) (c := (Tryz.f188.body).getD .skip) mixed (by kernel_rfl) (by kernel_rfl) (of_decide_eq_true (by kernel_rfl)) ⟨trivial, trivial, trivial⟩ (fun v h => ?_) (fun v h => ?_) ?_
 ·obtain ⟨r, _, rfl⟩ := h
  exact under_eInts 0 _
 ·obtain ⟨_, k, rfl⟩ := h
  rfl
 ·have hsp := spl_size (c := 32) l
  have hsl := spl_each (c := 32) (l := l)
  have hs := c_split l 32 (by omega)
  have hT : toldW w l = match spl 32 l with
   | [] => none
   | h :: t => if bT h = w then numsW t else none := rfl
  cases hsl2 : spl 32 l with
  | nil => exact absurd hsl2 (spl_ne _ _)
  | cons h0 t =>
   rw [hsl2] at hs hT hsp hsl
   simp only at hT
   rw [List.length_cons] at hsp
   refine CallG.pure _ (hs) ?_
   refine Ex.mk _ (jx_strs (l := (h0 :: t).map bT) (r := 0) rfl rfl) ?_
   refine Ex.mk _ rfl ?_
   refine CallG.pure _ (c_words) ?_
   refine ex_val _ hw ?_
   refine CallG.sure (fun e => ?_) (fun e => ?_)
   ·rw [if_pos (sA_inj e)] at hT
    refine Ex.mk _ (aop_slice (a := eStrs ((h0 :: t).map bT)) (l := some 1) (h := none) rfl rfl (nat_of rfl) rfl rfl rfl slice_tail) ?_
    have hcell : ∀ {r o}, numsW (t.take r) = some o → r ≤ t.length → ((cuesI o).map n').length = r := fun {r o} h hr => by
     rw [List.length_map, cuesI_length, ← (numsW_low h).1, List.length_take]
     omega
    refine LoopG.ghost (LoopG.at (n0 := 10) rfl (loop_up mixed (m := false) (fun r => [(6, .sl r ((cuesI (outN t r)).map n') (.own 9 r 1)), (24, eStrs (t.map bT)), (25, n' (t.map bT).length), (26, n' r)]) (fun r => [(9, .row r)]) (fun r => numsW (t.take r) = some (outN t r)) t.length 9 (leb rfl) rfl ?_ ?_ ?_))
    ·exact ⟨⟨_, rfl, Weak.own (r := 9) (g := 0) 1 rfl, ⟨trivial, ltb rfl⟩⟩, ⟨_, rfl, Weak.refl _ _, under_eStrs _ _⟩, wp rfl trivial, wp rfl trivial, trivial⟩
    ·exact ⟨bk rfl rfl, trivial⟩
    ·intro r hr hI
     have hcl := hcell hI hr
     have hml : (t.map bT).length = t.length := List.length_map _
     refine If.mk (fun h1 => ?_) (fun h1 => ?_)
     ·refine ifY ?_
      obtain ⟨u, hu⟩ : ∃ u, t[r]? = some u := ⟨_, List.getElem?_eq_getElem (by omega)⟩
      have hul := hsl u (by simp [List.mem_of_getElem? hu])
      have hmem := List.mem_of_getElem? hu
      refine Ex.mk _ (jx_strs (l := t.map bT) (r := r) rfl (by rw [List.getElem?_map, hu]; rfl)) ?_
      refine Ex.mk _ rfl ?_
      obtain ⟨X, hX⟩ : ∃ X, X = sA (bT u) := ⟨_, rfl⟩
      refine LoopG.at (n0 := 11) rfl (LoopG.after (loop_up mixed (m := false) (fun j => [(6, .sl r ((cuesI (outN t r)).map n') (.own 9 r 1)), (8, sA (bT u)), (9, n' (numAt u j)), (24, eStrs (t.map bT)), (25, n' (t.map bT).length), (26, n' r), (31, .ptr 10 0)]) (fun j => [(9, .row r), (10, .iterS (bT u) j)]) (fun j => (∀ (i : Nat) b, i < j → u[i]? = some b → isDig b = true) ∧ (0 < j → u.length ≤ 2)) u.length 10 (leb rfl) ⟨fun i b h => by omega, fun h => by omega⟩ ?_ ?_ ?_))
      ·exact ⟨⟨_, rfl, Weak.refl _ _, ⟨under_ints _ _, ltb rfl⟩⟩, wp rfl trivial, wp rfl trivial, ⟨_, rfl, Weak.refl _ _, under_eStrs _ _⟩, wp rfl trivial, wp rfl trivial, wp rfl (ltb rfl), trivial⟩
      ·exact ⟨bk rfl rfl, bk rfl rfl, trivial⟩
      ·intro j hj hJ
       by_cases hjl : j < u.length
       ·obtain ⟨x, hx⟩ : ∃ x, u[j]? = some x := ⟨_, List.getElem?_eq_getElem hjl⟩
        refine now_of (aop_next rfl rfl rfl hjl) ?_
        refine ifY ?_
        have hno : ¬ (isDig x = true ∧ u.length ≤ 2) → toldW w l = none := fun h => by
         rw [hT]
         refine numsW_mem hmem ?_
         cases hn : numW u with
         | none => rfl
         | some k =>
          obtain ⟨k1, k2, _⟩ := numW_spec hn
          exact absurd ⟨k1 x (List.mem_of_getElem? hx), k2⟩ h
        refine If.mk (fun h2 => ?_) (fun h2 => ?_)
        ·refine If.mk (fun h3 => ?_) (fun h3 => ?_)
         ·obtain ⟨hd, hdec⟩ := dec_dig hx (by omega) (by omega)
          obtain ⟨hg1, hg2⟩ := isDig_dg hd
          refine If.mk (fun h4 => ?_) (fun h4 => ?_)
          ·have hul2 : u.length ≤ 2 := by
            have : (bT u).size = u.length := rfl
            omega
           have hJ2 : ∀ (i : Nat) b, i < j + 1 → u[i]? = some b → isDig b = true := fun i b h h' => by
            rcases Nat.lt_or_ge i j with hi | hi
            ·exact hJ.1 i b hi h'
            ·obtain rfl : i = j := by omega
             rw [hx] at h'
             cases h'
             exact hd
           have hbd := numAt_bd (u := u) (j := j) (by omega)
           have hrune : (((Utf8.decode (bT u) j).1 : Nat) : Int) - 48 = ((dg x : Nat) : Int) := by
            rw [hdec]
            show ((x.toNat : Nat) : Int) - 48 = _
            omega
           have hw2 : IntKind.i64.wrap ((((Utf8.decode (bT u) j).1 : Nat) : Int) - 48) = ((dg x : Nat) : Int) := by
            rw [hrune]
            exact wrap_i64 (by omega) (by omega)
           have hgd : u.getD j 0 = x := by rw [List.getD_eq_getElem?_getD, hx]; rfl
           refine CallG.sure (fun _ => ?_) (fun e => by cases e)
           refine Side.mk (fits64 (by omega)) ?_
           refine Side.mk (fits32 (by rw [hrune]; omega)) ?_
           refine Side.mk (fits64 (by rw [hw2]; omega)) ?_
           refine ⟨leb rfl, rfl, by omega, ⟨hJ2, fun _ => hul2⟩, ⟨⟨_, rfl, Weak.refl _ _, ⟨under_ints _ _, ltb rfl⟩⟩, wp rfl trivial, ⟨_, rfl, Weak.of_eq (?_), trivial⟩, ⟨_, rfl, Weak.refl _ _, under_eStrs _ _⟩, wp rfl trivial, wp rfl trivial, wp rfl (ltb rfl), trivial⟩, ⟨bk rfl rfl, ⟨?_, ltb rfl⟩, trivial⟩, ⟨_, rfl, trivial⟩, trivial⟩
           ·refine congrArg n' ?_
            show _ = ((10 * numAt u j + dg (u.getD j 0) : Nat) : Int)
            rw [hw2, hgd]
            omega
           ·show some (Blk.iterS (bT u) (j + (Utf8.decode (bT u) j).2)) = _
            rw [hdec]
          ·refine CallG.sure (fun e => by cases e) (fun _ => ?_)
           exact ⟨leb rfl, .inl ⟨leb rfl, .inr ⟨_, rfl, rfl, hno fun h => by
            have : (bT u).size = u.length := rfl
            omega, _, rfl⟩⟩⟩
         ·refine CallG.sure (fun e => by cases e) (fun _ => ?_)
          exact ⟨leb rfl, .inl ⟨leb rfl, .inr ⟨_, rfl, rfl, hno fun h => by
           obtain ⟨h5, h6, h7⟩ := dig_dec hx h.1
           rw [h5] at h3
           omega, _, rfl⟩⟩⟩
        ·refine CallG.sure (fun e => by cases e) (fun _ => ?_)
         exact ⟨leb rfl, .inl ⟨leb rfl, .inr ⟨_, rfl, rfl, hno fun h => by
          obtain ⟨h5, h6, h7⟩ := dig_dec hx h.1
          rw [h5] at h2
          omega, _, rfl⟩⟩⟩
       ·obtain rfl : j = u.length := by omega
        refine now_of (aop_nextE rfl rfl rfl (Nat.lt_irrefl _)) ?_
        refine ifN ?_
        refine ⟨leb rfl, .inr ⟨[(6, .sl r ((cuesI (outN t r)).map n') (.own 9 r 1)), (8, X), (9, n' (numAt u u.length)), (24, eStrs (t.map bT)), (25, n' (t.map bT).length), (26, n' r)], ⟨⟨_, rfl, Weak.refl _ _⟩, ⟨_, rfl, Weak.of_eq hX.symm⟩, ⟨_, rfl, Weak.refl _ _⟩, ⟨_, rfl, Weak.refl _ _⟩, ⟨_, rfl, Weak.refl _ _⟩, ⟨_, rfl, Weak.refl _ _⟩, trivial⟩, ?_⟩⟩
        by_cases hu0 : u = []
        ·refine gBin_neqX true hX (by subst hu0; exact str_eq.2 rfl) ?_
         rw [hX]
         refine CallG.sure (fun e => by cases e) (fun _ => ?_)
         exact ⟨leb rfl, .inr ⟨_, rfl, rfl, hT.trans (numsW_mem hmem (by subst hu0; rfl)), _, rfl⟩⟩
        ·have hlt := (numAt_lt (fun i b h => by
          have := (List.getElem?_eq_some_iff.1 h).1
          exact hJ.1 i b this h) (hJ.2 (List.length_pos_iff.2 hu0)) (Nat.le_refl _)).1
         refine gBin_neqX false hX (Bool.eq_false_iff.2 fun h => hu0 (by
          have := congrArg ByteArray.size (str_eq.1 h)
          exact List.length_eq_zero_iff.1 this)) ?_
         rw [hX]
         refine CallG.pure _ (c_itoa hlt) ?_
         refine CallG.sure (fun e => ?_) (fun e => ?_)
         ·have hn := numW_of hlt (sA_inj e).symm
          have hnx := numsW_take hI hu hn
          have ho : outN t (r + 1) = outN t r ++ [numAt u u.length] := by
           unfold outN at hnx ⊢
           rw [hnx]
           rfl
          refine ex_app _ _ (app_int hcl (by omega) rfl) ?_
          refine Side.mk (fits64 (by omega)) ?_
          refine ⟨leb rfl, rfl, by omega, by show numsW (t.take (r + 1)) = some (outN t (r + 1)); rw [ho]; exact hnx, ⟨⟨_, rfl, Weak.of_eq (?_), ⟨under_ints _ _, ltb rfl⟩⟩, ⟨_, rfl, Weak.refl _ _, under_eStrs _ _⟩, wp rfl trivial, wp rfl trivial, trivial⟩, ⟨bk rfl rfl, trivial⟩, ⟨_, rfl, trivial⟩, trivial⟩
          rw [ho]
          unfold cuesI
          rw [List.map_append, List.map_append]
          rfl
         ·refine ⟨leb rfl, .inr ⟨_, rfl, rfl, hT.trans (numsW_mem hmem ?_), _, rfl⟩⟩
          cases hn : numW u with
          | none => rfl
          | some k =>
           obtain ⟨_, _, rfl⟩ := numW_spec hn
           refine absurd ?_ (str_false e)
           rw [← bT_lB (decS _), ← (numW_dec hn).2]
     ·refine ifN ?_
      refine ⟨leb rfl, ?_⟩
      obtain rfl : r = t.length := by omega
      rw [List.take_length] at hI
      rw [hI] at hT
      refine .inl ⟨.inl rfl, _, ⟨_, hT, rfl⟩, FinG.mk _ rfl rfl ?_⟩
      show AV.sl _ (AV.freezes _ ((cuesI (outN t t.length)).map n')) .unk = _
      rw [freezes_ints]
      unfold eInts
      rw [List.length_map] at hcl
      rw [hcl]
   ·rw [if_neg (str_false e)] at hT
    exact .inr ⟨_, rfl, rfl, hT, _, rfl⟩
end Go.Vm

namespace Go.Proofs
set_option maxHeartbeats 4000000 in
set_option maxRecDepth 100000 in
theorem tryCatch_why (p : Addr) (k : ByteArray) (z : Value) (w : World) (hc : w.cell? p = some z) (hz : w.frozen? p = false) (hp : p.block < w.heap.size) :
  CallsD Tryz.prog 185 #[.pointer (some p)] (.panicking [{ v := .iface 226 (.agg #[.string k]), recovered := false }]) w fun e u' w' => e = .returned (.tuple #[]) ∧
   u' = .panicking [{ v := .iface 226 (.agg #[.string k]), recovered := true }] ∧ w' = (w.alloc (.cells #[.string k] 226)).setCell p (.int .i64 4) := by
 have hta : ∀ w, (Instr.typeAssert (.iface 226 (.agg #[.string k])) 20 226 true).run Tryz.prog w = .ok (.tuple #[.agg #[.string k], .bool true]) w := fun w => by kernel_rfl
 have e : (w.alloc (.cells #[.string k] 226)).heap[p.block]? = w.heap[p.block]? := by
  simp only [World.alloc]
  rw [Array.getElem?_push]
  rw [if_neg (by omega)]
 have hz' : (w.alloc (.cells #[.string k] 226)).frozen? p = false := by simpa [World.frozen?, e] using hz
 have hc' : (w.alloc (.cells #[.string k] 226)).cell? p = some z := by simpa [World.cell?, e] using hc
 clear e
 have hta0 : ∀ w, (Instr.typeAssert (.iface 226 (.agg #[.string k])) 20 224 true).run Tryz.prog w = .ok (.tuple #[.agg #[.int .i64 0], .bool false]) w := fun w => by kernel_rfl
 refine callsD_of_wpS Tryz.func185 rfl fun c₀ cs hu => ?_
 apply wpS_seq
 apply wpS_region
 simp [wpOpsS, go_sem, recoverD, hu, Tryz.ntmps185, Exit.thenS]
 refine wpS_of_wp ?_
 refine wp_block ?_
 refine wp_seq ?_
 refine wp_region_lit ?_
 refine wpList_step fun K hK => ?_
 simp [go_sem]
 refine hK _ _ ?_
 clear hK K
 refine wpList_nil ?_
 simp only [Exit.then]
 refine wp_cond_false ?_ ?_
 ·simp [go_sem]
 refine wp_seq ?_
 refine wp_region_lit ?_
 refine wpList_step fun K hK => ?_
 simp [go_sem, hta0]
 refine hK _ _ ?_
 clear hK K
 refine wpList_step fun K hK => ?_
 simp [go_sem]
 refine hK _ _ ?_
 clear hK K
 refine wpList_step fun K hK => ?_
 simp [go_sem]
 refine hK _ _ ?_
 clear hK K
 refine wpList_nil ?_
 simp only [Exit.then]
 refine wp_cond_false ?_ ?_
 ·simp [go_sem]
 refine wp_seq ?_
 refine wp_region_lit ?_
 refine wpList_step fun K hK => ?_
 simp [go_sem, hta]
 refine hK _ _ ?_
 clear hK K
 refine wpList_step fun K hK => ?_
 simp [go_sem]
 refine hK _ _ ?_
 clear hK K
 refine wpList_step fun K hK => ?_
 simp [go_sem]
 refine hK _ _ ?_
 clear hK K
 refine wpList_nil ?_
 simp only [Exit.then]
 refine wp_cond_true ?_ ?_
 ·simp [go_sem]
 refine wp_seq ?_
 refine wp_region_lit ?_
 refine wpList_step fun K hK => ?_
 simp [go_sem]
 refine hK _ _ ?_
 clear hK K
 refine wpList_step fun K hK => ?_
 simp [go_sem]
 refine hK _ _ ?_
 clear hK K
 refine wpList_nil ?_
 simp only [Exit.then]
 refine wp_region_lit ?_
 refine wpList_step fun K hK => ?_
 simp [go_sem, hc', hz']
 refine hK _ _ ?_
 clear hK K
 refine wpList_nil ?_
 clear hta hta0 hz hz' hc hc' hp
 cases c₀
 simp_all [bodyPostS, results, Tryz.results185, Exit.inBlock]
theorem try_why (g : FuncId) (F C : Array Value) (k : ByteArray) (w : World) (Q : Ending → World → Prop)
  (hg : ∀ w, (callFunc g (F ++ C)).run Tryz.prog w = .ok (.enter g (F ++ C)) w)
  (h : Calls Tryz.prog g (F ++ C) (w.alloc (.cells #[.int .i64 0] 35)) fun e w' => ∃ z, e = .panicked [{ v := .iface 226 (.agg #[.string k]), recovered := false }] ∧ w'.cell? ⟨w.heap.size, 0, none⟩ = some z ∧ w'.frozen? ⟨w.heap.size, 0, none⟩ = false ∧
   w.heap.size < w'.heap.size ∧ ((w'.alloc (.cells #[.string k] 226)).setCell ⟨w.heap.size, 0, none⟩ (.int .i64 4)).cell? ⟨w.heap.size, 0, none⟩ = some (.int .i64 4) ∧
   Q (.returned (.int .i64 4)) ((w'.alloc (.cells #[.string k] 226)).setCell ⟨w.heap.size, 0, none⟩ (.int .i64 4))) :
  Calls Tryz.prog 140 #[.func (.func g) F C] w Q := by
 have hmf : ∀ (fn : Fn) (first cap : Array Value) (w : World), (Instr.makeFunc fn first cap).run Tryz.prog w = .ok (.func fn first cap) w := fun _ _ _ _ => rfl
 go_enter_defers Tryz.func140, Tryz.ntmps140
 go_wp2_with fail
 refine h.mono ?_
 rintro e w' ⟨z, rfl, hc, hz, hs, h7, hQ⟩
 unfold bodyPostD
 refine leaves_cons (f := 185) (args := #[.pointer (some ⟨w.heap.size, 0, none⟩)]) (by simp) (by simp [go_sem]) ?_
 refine (tryCatch_why ⟨w.heap.size, 0, none⟩ k z _ hc hz hs).mono ?_
 rintro e u' w'' ⟨rfl, rfl, rfl⟩
 simp [Leaves, settle, results, Tryz.results140, go_sem, h7]
 exact hQ
end Go.Proofs
namespace Go.Vm
open Go.Proofs Go.RowKit
theorem ACall.try_why {fv : AV} {g : FuncId} {first captured : List AV} {H H' : List Blk} {cell : AV} {k : ByteArray} (hf : fnOf fv = some (g, first, captured)) (hc : callable Tryz.prog g = true)
  (h : ACall Tryz.prog g (first ++ captured) (H ++ [.box [.lit (.int .i64 0)] 35]) (.pan (why k)) H') (hb : H'[H.length]? = some (.box [cell] 35)) :
  ACall Tryz.prog 140 [fv] H (.ret (.lit (.int .i64 4))) (H'.set H.length (.box [.lit (.int .i64 4)] 35)) := by
 intro O ι w cs hR hargs
 obtain ⟨l⟩ := cs
 match l, hargs with
 | [], hargs => simp [VRels] at hargs
 | _ :: _ :: _, hargs => simp [VRels] at hargs
 | [c], hargs =>
  simp only [VRels] at hargs
  obtain ⟨F, C, rfl, h1, h2⟩ := fnOf_sound hf hargs.1
  have hev1 := Ev.alloc hR (w' := w.alloc (.cells #[.int .i64 0] 35)) (.box [.lit (.int .i64 0)] 35) 0 rfl
  have hR1 := Rel.alloc hR (w' := w.alloc (.cells #[.int .i64 0] 35)) (.box [.lit (.int .i64 0)] 35) 0 rfl ⟨#[.int .i64 0], World.alloc_heap_new _ _, by simp [VRels, VRel]⟩
  have hcall := h O _ _ (F ++ C) hR1 (by
   have := (h1.ev hev1).append (h2.ev hev1)
   simpa using this)
  refine callsIn_wide.2 (Go.Proofs.try_why g F C k w _ (fun w => run_callFunc hc _ w) ((callsIn_wide.1 hcall).mono ?_))
  rintro e w' ⟨ι', hend, hR', hev, hnon⟩
  cases e with
  | returned r => exact hend.elim
  | outgrown => exact hend.elim
  | panicked chain =>
   obtain ⟨pc, rfl, hpc⟩ := hend
   have hpc' : pc = .iface 226 (.agg #[.string k]) := by
    simp only [why, VRel] at hpc
    obtain ⟨c0, rfl, l0, rfl, hl⟩ := hpc
    obtain ⟨l0⟩ := l0
    match l0, hl with
    | [], hl => simp [VRels] at hl
    | _ :: _ :: _, hl => simp [VRels] at hl
    | [x], hl => simp [VRels, VRel] at hl; rw [hl]
   subst hpc'
   have hn : notRow (H ++ [Blk.box [.lit (.int .i64 0)] 35]) H.length := ⟨.box [.lit (.int .i64 0)] 35, by simp, rfl⟩
   obtain ⟨_, e2⟩ := hev.ptr H.length hn
   obtain ⟨wm, hi⟩ := e2 w.heap.size 0 (upd_same ..)
   have hi' : ι' H.length = some (w.heap.size, wm) := hi
   obtain ⟨B, hB, hrel⟩ := hR'.blk H.length _ _ hi'
   have hB' : H'[H.length]? = some B := hB
   rw [hb] at hB'; cases hB'
   have hlt := hrel.block
   obtain ⟨D, hD, hcells⟩ := hrel
   have hD' : w'.heap[w.heap.size]? = some (.cells D 35 (0, 0)) := hD
   have hDl := hcells.length
   have hDs : D.size = 1 := by simpa using hDl.symm
   have hcell : w'.cell? ⟨w.heap.size, 0, none⟩ = some D[0] := by rw [cell_eq, hD']; simp [hDs]
   have hfr : w'.frozen? ⟨w.heap.size, 0, none⟩ = false := by simp [World.frozen?, hD']
   -- the block of the message
   have hmore : ∀ b, b < w'.heap.size → (w'.alloc (.cells #[.string k] 226)).heap[b]? = w'.heap[b]? := fun b hb => by
    simp only [World.alloc]
    rw [Array.getElem?_push, if_neg (by omega)]
   have hevm : Ev ⟨H', ι', w'⟩ ⟨H', ι', w'.alloc (.cells #[.string k] 226)⟩ := by
    have := Ev.fresh hR' (w' := w'.alloc (.cells #[.string k] 226)) (H2 := []) hmore ⟨rfl, rfl⟩
    simpa using this
   have hRm : Rel ⟨H', ι', w'.alloc (.cells #[.string k] 226)⟩ := by
    have := Rel.fresh hR' (w' := w'.alloc (.cells #[.string k] 226)) (H2 := []) hmore ⟨rfl, rfl⟩
    simpa using this
   have hDm : (w'.alloc (.cells #[.string k] 226)).heap[w.heap.size]? = some (.cells D 35 (0, 0)) := by rw [hmore _ hlt]; exact hD'
   generalize w'.alloc (.cells #[.string k] 226) = wm1 at hevm hRm hDm
   have hw : ∀ b', b' ≠ w.heap.size → (wm1.setCell ⟨w.heap.size, 0, none⟩ (.int .i64 4)).heap[b']? = wm1.heap[b']? := fun b' hne => Below.heap_setCell _ _ _ _ hne
   have hnew : (wm1.setCell ⟨w.heap.size, 0, none⟩ (.int .i64 4)).heap[w.heap.size]? = some (.cells (D.setIfInBounds 0 (.int .i64 4)) 35 (0, 0)) := by
    simp only [World.setCell]
    rw [Array.getElem?_modify]
    simp [hDm]
   have h7 : (wm1.setCell ⟨w.heap.size, 0, none⟩ (.int .i64 4)).cell? ⟨w.heap.size, 0, none⟩ = some (.int .i64 4) := by
    rw [cell_eq, hnew]; simp [hDs]
   refine ⟨_, rfl, hcell, hfr, hlt, h7, ι', by simp [EndRel, VRel], ?_⟩
   have hev3 := Ev.write hRm (w' := wm1.setCell ⟨w.heap.size, 0, none⟩ (.int .i64 4)) (B' := .box [.lit (.int .i64 4)] 35) hi' hb rfl rfl hw
   have hR3 := Rel.write hRm (w' := wm1.setCell ⟨w.heap.size, 0, none⟩ (.int .i64 4)) (B' := .box [.lit (.int .i64 4)] 35) hi' hb rfl rfl hw ⟨_, hnew, by
    have : (D.setIfInBounds 0 (.int .i64 4)).toList = [.int .i64 4] := by
     obtain ⟨dl⟩ := D
     match dl, hDs with
     | [x], _ => rfl
    rw [this]; simp [VRels, VRel]⟩
   refine ⟨hR3, ((hev1.trans hev).trans hevm).trans hev3, fun id hn0 hnone => ?_⟩
   have hn1 := (hev1.ptr id hn0).1
   have : ι' id = none := hnon id hn1 (by
    show upd ι H.length _ id = none
    rw [upd_other _ _ _ _ (by have := hn0.lt; have : id < H.length := this; omega)]; exact hnone)
   exact this
theorem CallG.tryW {fv : AV} {g : FuncId} {first captured : List AV} {t : Trie Blk} {n : Nat} {K Kp : AV → Trie Blk → Nat → Nat → Prop} (hf : fnOf fv = some (g, first, captured)) (hc : callable Tryz.prog g = true)
  (h : CallG Tryz.prog g (first ++ captured) (set t n (.box [.lit (.int .i64 0)] 35)) (n + 1) (fun _ t' n' lo => (∃ cell, get t' n = some (.box [cell] 35)) ∧ K (.lit (.int .i64 0)) (set t' n (.box [.lit (.int .i64 0)] 35)) n' lo)
   (fun v t' n' lo => (∃ k, v = why k) ∧ (∃ cell, get t' n = some (.box [cell] 35)) ∧ K (.lit (.int .i64 4)) (set t' n (.box [.lit (.int .i64 4)] 35)) n' lo)) : CallG Tryz.prog 140 [fv] t n K Kp := by
 refine .ret fun H hH => ?_
 obtain ⟨h⟩ := h
 have hl := hH.len
 have keep : ∀ {H' : List Blk} {lo : Nat} {B : Blk}, Keep (H ++ [.box [.lit (.int .i64 0)] 35]) H' lo → H'[n]? = some B → Keep H (H'.set n (.box [.lit (.int .i64 0)] 35)) lo ∧ Keep H (H'.set n (.box [.lit (.int .i64 4)] 35)) lo := fun {H' lo B} hk hB => by
  have key : ∀ C, Keep H (H'.set n C) lo := fun C => by
   refine ⟨by have := hk.le; simp at this ⊢; omega, fun id h1 h2 => ?_, fun id hid => ?_⟩
   ·rw [List.getElem?_set_ne (by omega), hk.low id h1 (by simp; omega), List.getElem?_append_left h2]
   ·have hlt := (List.getElem?_eq_some_iff.1 hid).1
    rw [List.getElem?_set_ne (by omega)]
    exact hk.marks id (keepsD_append _ _ id hid)
  exact ⟨key _, key _⟩
 rcases h _ (hH.push _) with ⟨v, t', n', lo, H', hH', hca, hk, ⟨cell, hg⟩, hK⟩ | ⟨v, t', n', lo, H', hH', hca, hk, ⟨k, rfl⟩, ⟨cell, hg⟩, hK⟩
 ·have hB := hH'.blk _ _ hg
  have hB2 := hB
  rw [← hl] at hB
  exact ⟨.lit (.int .i64 0), _, n', lo, _, hH'.set (hH'.lt hg) _, by rw [← hl]; exact ACall.try_fine hf hc hca hB, (keep hk hB2).1, hK⟩
 ·have hB := hH'.blk _ _ hg
  have hB2 := hB
  rw [← hl] at hB
  exact ⟨.lit (.int .i64 4), _, n', lo, _, hH'.set (hH'.lt hg) _, by rw [← hl]; exact ACall.try_why hf hc hca hB, (keep hk hB2).2, hK⟩
end Go.Vm

namespace Go.Vm
open Go.Proofs Go.RowKit
theorem appT_ownM {P : Program} {m : Bool} {g : Nat → Option Blk} {n sT xT e size bytes len k id gen : Nat} {z : Value} {cells new : List AV} {x : AV} (h1 : tslice P sT = some e) (h2 : tsz P e = some size) (h3 : tz P e = some z) (h4 : tbytes P e = some bytes)
  (h5 : (tsrc P xT && (decide (bytes ≤ 2097152) && decide (z.cells.size = size))) = true) (h6 : srcT g size x = some (k, new)) (h7 : 0 < k) (h8 : cells.length = len * size) (h9 : len + k ≤ 2097152) (h10 : g id = some (.row gen)) (h11 : new.all AV.one = true) :
  appT P m g n sT xT (.sl len cells (.own id gen size)) x = some (.sl (len + k) (cells ++ new) (.own id (gen + 1) size), .set id (.row (gen + 1))) := by
 unfold appT
 simp only [h1, h2, h3, h4, h5, h6, h10, h11, if_true]
 rw [if_neg (by omega), if_pos ⟨h8, h9⟩, if_pos ⟨trivial, trivial, trivial⟩]
def cellV (q : Nat) (p : Vers × Nat) : AV := if p.1 = [] then .lit (.slice none 0 0) else .sl p.1.length (p.1.map eState) (.own q p.2 1)
def wVs (ps : List (Vers × Nat)) : List Vers := ps.map (·.1)
theorem app_vers0 {g : Nat → Option Blk} {n : Nat} : appT Tryz.prog true g n 22 22 (.lit (.slice none 0 0)) (.sl 1 [.lit (.slice none 0 0)] .full) = some (.msl n 0 1 1, .push (.mrow 0 [.lit (.slice none 0 0)])) := by
 kernel_rfl
theorem app_versM {g : Nat → Option Blk} {n len id gen : Nat} {cells : List AV} (h1 : cells.length = len) (h2 : len < 2097152) (hg : g id = some (.mrow gen cells)) :
  appT Tryz.prog true g n 22 22 (.msl id gen len 1) (.sl 1 [.lit (.slice none 0 0)] .full) = some (.msl id (gen + 1) (len + 1) 1, .set id (.mrow (gen + 1) (cells ++ [.lit (.slice none 0 0)]))) :=
 appT_mrow (e := 32) (bytes := 24) (z := .agg #[.slice none 0 0]) (by kernel_rfl) (by kernel_rfl) (by kernel_rfl) (by kernel_rfl) (by kernel_rfl) rfl (by omega) (by omega) (by omega) hg rfl
structure PSt where
 r : Nat
 ini : List (Vers × Nat)
 v : Vers
 G : Nat
theorem app_moveM {m : Bool} {g : Nat → Option Blk} {n len id gen : Nat} {cells : List AV} {a b : Int} (h1 : cells.length = len * 2) (h2 : len < 2097152) (hg : g id = some (.row gen)) :
  appT Tryz.prog m g n 113 113 (.sl len cells (.own id gen 2)) (.sl 1 [n' a, n' b] .full) = some (.sl (len + 1) (cells ++ [n' a, n' b]) (.own id (gen + 1) 2), .set id (.row (gen + 1))) :=
 appT_ownM (e := 116) (bytes := 16) (z := .agg #[.int .i64 0, .int .i64 0]) (by kernel_rfl) (by kernel_rfl) (by kernel_rfl) (by kernel_rfl) (by kernel_rfl) rfl (by omega) (by omega) (by omega) hg rfl
theorem app_stateM {m : Bool} {g : Nat → Option Blk} {n len id gen : Nat} {cells : List AV} {s : List Move} (h1 : cells.length = len) (h2 : len < 2097152) (hg : g id = some (.row gen)) :
  appT Tryz.prog m g n 30 30 (.sl len cells (.own id gen 1)) (.sl 1 [eState s] .full) = some (.sl (len + 1) (cells ++ [eState s]) (.own id (gen + 1) 1), .set id (.row (gen + 1))) :=
 appT_ownM (e := 113) (bytes := 24) (z := .slice none 0 0) (by kernel_rfl) (by kernel_rfl) (by kernel_rfl) (by kernel_rfl) (by kernel_rfl) rfl (by omega) (by omega) (by omega) hg rfl
theorem pairs_at : ∀ {l : List Nat} {k : Nat}, 2 * k + 1 < l.length → ∃ a b : Nat, l[2 * k]? = some a ∧ l[2 * k + 1]? = some b ∧ (pairsN l)[k]? = some ((a : Int), (b : Int))
 | a :: b :: l, 0, _ => ⟨a, b, rfl, rfl, rfl⟩
 | a :: b :: l, k + 1, h => by
  obtain ⟨x, y, h1, h2, h3⟩ := pairs_at (l := l) (k := k) (by simp only [List.length_cons] at h; omega)
  exact ⟨x, y, h1, h2, h3⟩
 | [_], k, h => by simp at h
 | [], k, h => by simp at h
theorem pairs_length : ∀ {l : List Nat}, l.length % 2 = 0 → 2 * (pairsN l).length = l.length
 | [], _ => rfl
 | [_], h => by simp at h
 | a :: b :: l, h => by
  have := pairs_length (l := l) (by simp only [List.length_cons] at h; omega)
  rw [pairsN]
  simp only [List.length_cons]
  omega
theorem cues_at {l : List Nat} {i a : Nat} (h : l[i]? = some a) : (cuesI l)[i]? = some (a : Int) := by
 unfold cuesI
 rw [List.getElem?_map, h]
 rfl
def PInv (body : List (List UInt8)) (a : PSt) : Prop := a.r ≤ body.length ∧ a.ini.length < a.r ∧ a.v.length < a.r ∧ foldV [] (body.take a.r) = some (wVs a.ini ++ [a.v])
def PC (q : Nat) (a : PSt) : List AV := (a.ini ++ [(a.v, a.G)]).map (cellV q)
def PS (l : List UInt8) (body : List (List UInt8)) (a : PSt) : List (Nat × AV) := [(0, sA (bT l)), (2, .ptr 0 0), (5, .ptr 8 0), (39, eStrs (body.map bT)), (40, n' (body.map bT).length), (41, n' a.r)]
def PT (c t : Nat) (a : PSt) : List (Nat × Blk) := [(0, .box [n' 0, n' 0, .lit (.slice none 0 0)] 24), (8, .box [n' c, n' t, .msl 10 a.ini.length (a.ini.length + 1) 1] 24), (9, .defd), (10, .mrow a.ini.length (PC 11 a)), (11, .row a.G)]
theorem PC_length (q : Nat) (a : PSt) : (PC q a).length = a.ini.length + 1 := by
 unfold PC
 rw [List.length_map, List.length_append]
 rfl
theorem cellV_under {n q : Nat} (hn : q < n) : ∀ ps : List (Vers × Nat), AV.unders n (ps.map (cellV q)) := fun ps => by
 induction ps with
 | nil => trivial
 | cons p ps ih =>
  refine ⟨?_, ih⟩
  show (cellV q p).under n
  unfold cellV
  split
  ·trivial
  ·have key : ∀ v : Vers, AV.unders n (v.map eState) := fun v => by
    induction v with
    | nil => trivial
    | cons s v ih => exact ⟨under_state n s, ih⟩
   exact ⟨key _, hn⟩
def lastO (q : Nat) (v : Vers) (G : Nat) : AV := .sl v.length (v.map eState) (.own q G 1)
theorem PC_weak {t : Trie Blk} {q r G : Nat} {ini : List (Vers × Nat)} {v : Vers} (hr : get t q = some (.row G)) : Weaks' t (PC q ⟨r, ini, v, G⟩) (ini.map (cellV q) ++ [lastO q v G]) := by
 unfold PC
 rw [List.map_append]
 have key : ∀ L : List AV, Weaks' t (L ++ [(v, G)].map (cellV q)) (L ++ [lastO q v G]) := fun L => by
  induction L with
  | nil =>
   refine .cons ?_ (.nil t)
   show Weak t (cellV q (v, G)) _
   unfold cellV
   split
   ·rename_i h
    have h : v = [] := h
    subst h
    exact Weak.own 1 hr
   ·exact Weak.refl _ _
  | cons x L ih => exact .cons (Weak.refl _ _) ih
 exact key _
theorem drop_last {q : Nat} {ini : List (Vers × Nat)} {x : AV} {off : Nat} (h : off = ini.length) : (ini.map (cellV q) ++ [x]).drop off = [x] := by
 subst h
 rw [List.drop_append_of_le_length (by rw [List.length_map]; exact Nat.le_refl _), List.drop_of_length_le (by rw [List.length_map]; exact Nat.le_refl _)]
 rfl
set_option maxRecDepth 100000 in
theorem load_last {q : Nat} {ini : List (Vers × Nat)} {v : Vers} {G off : Nat} (h : off = ini.length) : loadA Tryz.prog 30 ((ini.map (cellV q) ++ [lastO q v G]).drop off) = some (lastO q v G) := by
 rw [drop_last h]
 rfl
theorem store_last {g : Nat → Option Blk} {id q : Nat} {ini : List (Vers × Nat)} {x y : AV} {off gen : Nat} {len : Nat} {cells : List AV} {tl : Tail} (hy : y = .sl len cells tl) (hg : g id = some (.mrow gen (ini.map (cellV q) ++ [x]))) (h : off = ini.length) :
  storeT Tryz.prog g 30 (.mptr id gen off) y = some (.set id (.mrow gen (ini.map (cellV q) ++ [y]))) := by
 subst h hy
 have hs : tsz Tryz.prog 30 = some 1 := by kernel_rfl
 unfold storeT
 simp only [hg, hs]
 rw [if_pos ⟨trivial, rfl, by rw [List.length_append, List.length_map]; exact Nat.le_refl _, rfl⟩]
 have e : splice (ini.map (cellV q) ++ [x]) ini.length (AV.sl len cells tl).cellsOf = ini.map (cellV q) ++ [.sl len cells tl] := by
  unfold splice
  rw [List.take_append_of_le_length (by rw [List.length_map]; exact Nat.le_refl _), List.take_of_length_le (by rw [List.length_map]; exact Nat.le_refl _), List.drop_of_length_le (by rw [List.length_append, List.length_map]; exact Nat.le_refl _), List.append_nil]
  rfl
 rw [e]
theorem wk_bookZ (c t : Int) (H : List Blk) : WeakH H (.agg [n' c, n' t, .lit (.slice none 0 0)]) (eBook ⟨c, t, []⟩) := fun O ι w x h => by
 unfold eBook
 simp only [VRel] at h ⊢
 obtain ⟨C, hc, hr⟩ := h
 refine ⟨C, hc, ?_⟩
 obtain ⟨L⟩ := C
 match L, hr with
 | [a, b, d], hr =>
  simp only [VRels] at hr ⊢
  exact ⟨hr.1, hr.2.1, WeakH.nil H O ι w d hr.2.2.1, trivial⟩
 | [], hr => simp [VRels] at hr
 | [_], hr => simp [VRels] at hr
 | [_, _], hr => simp [VRels] at hr
 | _ :: _ :: _ :: _ :: _, hr => simp [VRels] at hr
theorem ACall.weakR {P : Program} {f : FuncId} {args : List AV} {v v' : AV} {H H' : List Blk} (hw : ∀ H, WeakH H v v') (h : ACall P f args H (.ret v) H') : ACall P f args H (.ret v') H' := by
 intro O ι w cs hR hargs
 refine (h O ι w cs hR hargs).mono ?_
 rintro e w' ⟨ι', hend, hR', hev, hnon⟩
 cases e with
 | panicked chain => exact hend.elim
 | outgrown => exact hend.elim
 | returned c => exact ⟨ι', hw H' O ι' w' c hend, hR', hev, hnon⟩
def bookR (b : Book) (v : AV) : Prop := v = eBook b ∨ (b.vs = [] ∧ v = .agg [n' b.cues, n' b.tunes, .lit (.slice none 0 0)])
theorem freeze_eBook (g : Nat → Option Blk) (b : Book) : AV.freeze g (eBook b) = eBook b := by
 show AV.agg [n' b.cues, n' b.tunes, AV.sl _ (AV.freezes g (b.vs.map eStates)) .unk] = _
 rw [freezes_map (freeze_states g)]
 rfl
theorem PC_end {t : Trie Blk} {q : Nat} : ∀ ps : List (Vers × Nat), Weaks' t (ps.map (cellV q)) (ps.map fun p => eStates p.1)
  | [] => .nil t
  | p :: ps => .cons (by
      unfold cellV
      split
      · rename_i h
        show Weak t _ (eStates p.1)
        rw [h]
        exact Weak.nil t
      · exact Weak.tail _ _ _ _) (PC_end ps)
theorem PC_vers (ini : List (Vers × Nat)) (v : Vers) (G : Nat) : (wVs ini ++ [v]).map eStates = (ini ++ [(v, G)]).map fun p => eStates p.1 := by
 unfold wVs
 rw [List.map_append, List.map_append, List.map_map]
 rfl
set_option maxHeartbeats 4000000 in
set_option maxRecDepth 100000 in
theorem c_parsed0 {l : List UInt8} (hl : l.length ≤ 600) :
    (∃ v, (∃ b, (parseB l = some b ∧ sealS (rowsB b) = bT l) ∧ bookR b v) ∧ ∀ H, ACall Tryz.prog 142 [sA (bT l)] H (.ret v) H) ∨ ∃ v, ((∀ b, ¬ (parseB l = some b ∧ sealS (rowsB b) = bT l)) ∧ ∃ k, v = why k) ∧ ∀ H, ACall Tryz.prog 142 [sA (bT l)] H (.pan v) H := by
  refine fn_ruleP (m := true) (fn := Tryz.f142) (c := (Tryz.f142.body).getD .skip) mixed (by kernel_rfl) (by kernel_rfl) (of_decide_eq_true (by kernel_rfl)) ⟨trivial, trivial⟩ (fun v h => ?_) (fun v h => ?_) ?_
  · obtain ⟨b, _, rfl | ⟨_, rfl⟩⟩ := h
    · exact under_eBook 0 _
    · exact ⟨trivial, trivial, trivial, trivial⟩
  · obtain ⟨_, k, rfl⟩ := h
    rfl
  · have hs := c_split l 10 (by omega)
    have hsp := spl_size (c := 10) l
    have hse := spl_each (c := 10) (l := l)
    have hbad : parseB l = none → ∀ b, ¬ (parseB l = some b ∧ sealS (rowsB b) = bT l) := fun h b h' => by
      rw [h] at h'
      cases h'.1
    have hP : parseB l = match spl 10 l with
      | [] => none
      | r0 :: rest => if rest.length < 2 then none else match toldW wBook r0 with
        | some [c, t] => match foldV [] (rest.take (rest.length - 2)) with
          | some vs => some ⟨c, t, vs⟩
          | none => none
        | _ => none := rfl
    cases hsl2 : spl 10 l with
    | nil => exact absurd hsl2 (spl_ne _ _)
    | cons r0 rest =>
      rw [hsl2] at hs hP hsp hse
      simp only at hP
      rw [List.length_cons] at hsp
      refine CallG.pure _ (hs) ?_
      refine If.mk (fun h3 => ?_) (fun h3 => ?_)
      · refine CallG.sure (fun _ => ?_) (fun e => by cases e)
        have h3' : ¬ rest.length < 2 := by
          rw [List.length_map, List.length_cons] at h3
          omega
        rw [if_neg h3'] at hP
        refine Ex.mk _ (jx_strs (l := (r0 :: rest).map bT) (r := 0) rfl rfl) ?_
        refine Ex.mk _ rfl ?_
        have hr0 := hse r0 (by simp)
        rcases c_told (l := r0) (kind := 0) (w := wBook) (by kernel_rfl) (by omega) with ⟨v, ⟨nums, hn, rfl⟩, hc⟩ | ⟨v, ⟨hn, k, rfl⟩, hc⟩
        · refine CallG.pure _ hc ?_
          rw [hn] at hP
          refine If.mk (fun h4 => ?_) (fun h4 => ?_)
          · refine CallG.sure (fun _ => ?_) (fun e => by cases e)
            obtain ⟨c, t, rfl⟩ : ∃ c t, nums = [c, t] := by
              rw [cuesI_length] at h4
              match nums, h4 with
              | [c, t], _ => exact ⟨c, t, rfl⟩
              | [], h => simp at h
              | [_], h => simp at h
              | _ :: _ :: _ :: _, h => simp at h; omega
            have hct := (told_low hn).1
            have hsl3 : sliceA Tryz.prog 176 (eStrs ((r0 :: rest).map bT)) (some 1) (some (rest.length - 1)) none = some (eStrs ((rest.take (rest.length - 2)).map bT)) := by
              rw [slice_strs (h := rest.length - 1) rfl (by omega) (by rw [List.length_map, List.length_cons]; omega), show rest.length - 1 = (rest.length - 2) + 1 by omega, List.map_cons, List.take_succ_cons, List.map_take]
              rfl
            have hml : ((r0 :: rest).map bT).length = rest.length + 1 := by rw [List.length_map, List.length_cons]
            refine Ex.mk _ rfl ?_
            refine Ex.mk _ rfl ?_
            refine Ex.mk _ rfl ?_
            refine Ex.mk _ rfl ?_
            refine Side.mk (fits64 (by omega)) ?_
            refine Ex.mk _ (aop_slice (a := eStrs ((r0 :: rest).map bT)) (l := some 1) (h := some (rest.length - 1)) rfl rfl (nat_of rfl) (nat_of (by rw [List.length_map, List.length_cons]; omega)) rfl rfl hsl3) ?_
            have hbr : ∀ u ∈ rest.take (rest.length - 2), u.length ≤ 600 := fun u hu => by
              have := hse u (by simp [List.mem_of_mem_take hu])
              omega
            have hbl : (rest.take (rest.length - 2)).length ≤ 600 := by
              rw [List.length_take]
              omega
            simp only at hP
            generalize rest.take (rest.length - 2) = body at *
            have hbm : (body.map bT).length = body.length := List.length_map _
            have hfail : foldV [] body = none → parseB l = none := fun h => by rw [hP, h]
            refine LoopG.at (n0 := 10) rfl (LoopG.round (m := true) mixed ?_)
            refine If.mk (fun h5 => ?_) (fun h5 => ?_)
            · refine ifY ?_
              obtain ⟨u, hu⟩ : ∃ u, body[0]? = some u := ⟨_, List.getElem?_eq_getElem (by omega)⟩
              have hul := hbr u (List.mem_of_getElem? hu)
              refine Ex.mk _ (jx_strs (l := body.map bT) (r := 0) rfl (by rw [List.getElem?_map, hu]; rfl)) ?_
              refine Ex.mk _ rfl ?_
              refine CallG.pure _ (c_row1) ?_
              refine IfB.mk (fun e => ?_) (fun e => ?_)
              · refine ex_app _ _ (app_vers0 (g := fun _ => none)) ?_
                refine Side.mk (by unfold fitsK; kernel_rfl) ?_
                have hst0 : stepV [] u = some [[]] := by
                  unfold stepV
                  rw [if_pos (sA_inj e)]
                  rfl
                refine LoopG.ghost (LoopG.at (n0 := 12) rfl (LoopG.settle (loop_r (m := true) (α := { a : PSt // PInv body a }) mixed (fun a => PS l body a.1) (fun a => PT c t a.1) (fun a => body.length - a.1.r) 8 ⟨⟨1, [], [], 0⟩, by show 1 ≤ body.length; omega, by show 0 < 1; decide, by show 0 < 1; decide, by
                  rw [show (1 : Nat) = 0 + 1 from rfl, take_snocB hu, List.take_zero]
                  show foldV [] [u] = _
                  rw [foldV, hst0]
                  rfl⟩ (leb rfl) ?_ ?_ ?_)))
                · exact ⟨wp rfl trivial, wp rfl (ltb rfl), wp rfl (ltb rfl), ⟨_, rfl, Weak.refl _ _, under_eStrs _ _⟩, wp rfl trivial, wp rfl trivial, trivial⟩
                · exact ⟨bk rfl rfl, bk rfl rfl, bk rfl rfl, bk rfl rfl, bk rfl rfl, trivial⟩
                · rintro ⟨⟨r, ini, v, G⟩, hI⟩
                  obtain ⟨hI1, hI2, hI3, hI4⟩ := hI
                  simp only at hI1 hI2 hI3 hI4
                  refine If.mk (fun h6 => ?_) (fun h6 => ?_)
                  · refine ifY ?_
                    have h6 : (r : Int) < ((body.map bT).length : Nat) := h6
                    obtain ⟨w, hw⟩ : ∃ w, body[r]? = some w := ⟨_, List.getElem?_eq_getElem (by omega)⟩
                    have hwl := hbr w (List.mem_of_getElem? hw)
                    have htk : foldV [] (body.take (r + 1)) = match stepV (wVs ini ++ [v]) w with
                        | none => none
                        | some vs => some vs := by
                      rw [take_snocB hw, foldV_append, hI4]
                      rfl
                    refine Ex.mk _ (jx_strs (l := body.map bT) (r := r) rfl (by rw [List.getElem?_map, hw]; rfl)) ?_
                    refine Ex.mk _ rfl ?_
                    refine CallG.pure _ (c_row1) ?_
                    refine IfB.mk (fun e2 => ?_) (fun e2 => ?_)
                    · refine ex_app _ _ (app_versM (PC_length 11 ⟨r, ini, v, G⟩) (by show ini.length + 1 < _; omega) rfl) ?_
                      refine Side.mk (fits64 (by omega)) ?_
                      have hst : stepV (wVs ini ++ [v]) w = some (wVs ini ++ [v] ++ [[]]) := by
                        unfold stepV
                        rw [if_pos (sA_inj e2)]
                      rw [hst] at htk
                      refine ⟨leb rfl, rfl, ⟨⟨r + 1, ini ++ [(v, G)], [], G⟩, by show r + 1 ≤ _; omega, by show (ini ++ [(v, G)]).length < r + 1; rw [List.length_append]; show ini.length + 1 < r + 1; omega, Nat.succ_pos _, ?_⟩, by show body.length - (r + 1) < body.length - r; omega, ?_, ?_, ?_⟩
                      · show foldV [] (body.take (r + 1)) = some (wVs (ini ++ [(v, G)]) ++ [[]])
                        rw [htk]
                        unfold wVs
                        rw [List.map_append]
                        rfl
                      · exact ⟨wp rfl trivial, wp rfl (ltb rfl), wp rfl (ltb rfl), ⟨_, rfl, Weak.refl _ _, under_eStrs _ _⟩, wp rfl trivial, wp rfl trivial, trivial⟩
                      · refine ⟨bk rfl rfl, ⟨?_, ltb rfl⟩, bk rfl rfl, ⟨?_, ltb rfl⟩, bk rfl rfl, trivial⟩
                        · show some (Blk.box [n' c, n' t, .msl 10 (ini.length + 1) (ini.length + 1 + 1) 1] 24) = some (Blk.box [n' c, n' t, .msl 10 (ini ++ [(v, G)]).length ((ini ++ [(v, G)]).length + 1) 1] 24)
                          rw [List.length_append]
                          rfl
                        · show some (Blk.mrow (ini.length + 1) (PC 11 ⟨r, ini, v, G⟩ ++ [.lit (.slice none 0 0)])) = some (Blk.mrow (ini ++ [(v, G)]).length (PC 11 ⟨r + 1, ini ++ [(v, G)], [], G⟩))
                          rw [List.length_append]
                          unfold PC
                          rw [List.map_append (l₂ := [(([] : Vers), G)])]
                          rfl
                      · exact ⟨⟨_, rfl, ⟨trivial, trivial, ltb rfl, trivial⟩⟩, ⟨_, rfl, trivial⟩, ⟨_, rfl, unders_append (cellV_under (ltb rfl) _) ⟨trivial, trivial⟩⟩, ⟨_, rfl, trivial⟩, trivial⟩
                    · rcases c_told (l := w) (kind := 2) (w := wState) (by kernel_rfl) hwl with ⟨vv, ⟨nums, hn, rfl⟩, hc⟩ | ⟨vv, ⟨hn, k, rfl⟩, hc⟩
                      · refine CallG.pure _ hc ?_
                        refine If.mk (fun _ => ?_) (fun h => absurd (by omega) h)
                        refine If.mk (fun h7 => ?_) (fun h7 => ?_)
                        · refine CallG.sure (fun _ => ?_) (fun e => by cases e)
                          rw [cuesI_length] at h7
                          have h7 : ((nums.length % 2 : Nat) : Int) = 0 := h7
                          have hpl := pairs_length (l := nums) (by omega)
                          have hnl := told_low hn
                          have hcl : (cuesI nums).length = nums.length := cuesI_length _
                          refine LoopG.ghost (LoopG.at (n0 := 13) rfl (LoopG.mrow 10 (ini.map (cellV 11) ++ [lastO 11 v G]) 10 (leb rfl) (Nat.le_refl _) rfl (by show _ = (PC 11 _).length; rw [PC_length, List.length_append, List.length_map]; rfl) (PC_weak rfl) (LoopG.after (loop_up mixed (m := true)
                            (fun k => [(0, sA (bT l)), (2, .ptr 0 0), (5, .ptr 8 0), (8, eInts (cuesI nums)), (9, .sl k (((pairsN nums).take k).flatMap eMove) (.own 12 k 2)), (10, n' (2 * k : Nat)), (39, eStrs (body.map bT)), (40, n' (body.map bT).length), (41, n' r)])
                            (fun k => [(0, .box [n' 0, n' 0, .lit (.slice none 0 0)] 24), (8, .box [n' c, n' t, .msl 10 ini.length (ini.length + 1) 1] 24), (9, .defd), (10, .mrow ini.length (ini.map (cellV 11) ++ [lastO 11 v G])), (11, .row G), (12, .row k)]) (fun _ => True) (pairsN nums).length 10 (leb rfl) trivial ?_ ?_ ?_))))
                          · exact ⟨wp rfl trivial, wp rfl (ltb rfl), wp rfl (ltb rfl), ⟨_, rfl, Weak.refl _ _, under_eInts _ _⟩, ⟨_, rfl, Weak.fullOwn (r := 12) (g := 0) rfl rfl, ⟨trivial, ltb rfl⟩⟩, wp rfl trivial, ⟨_, rfl, Weak.refl _ _, under_eStrs _ _⟩, wp rfl trivial, wp rfl trivial, trivial⟩
                          · exact ⟨bk rfl rfl, bk rfl rfl, bk rfl rfl, bk rfl rfl, bk rfl rfl, bk rfl rfl, trivial⟩
                          · intro k hk _
                            refine If.mk (fun h8 => ?_) (fun h8 => ?_)
                            · refine ifY ?_
                              have h8 : ((2 * k : Nat) : Int) < ((cuesI nums).length : Nat) := h8
                              obtain ⟨x, y, g1, g2, g3⟩ := pairs_at (l := nums) (k := k) (by omega)
                              refine Ex.mk _ (jx_ints (r := 2 * k) rfl (cues_at g1)) ?_
                              refine Ex.mk _ rfl ?_
                              refine Side.mk (fits64 (by omega)) ?_
                              refine Ex.mk _ (jx_ints (r := 2 * k + 1) (by omega) (cues_at g2)) ?_
                              refine Ex.mk _ rfl ?_
                              refine ex_app _ _ (app_moveM (by rw [flat_length, List.length_take]; omega) (by omega) rfl) ?_
                              refine Side.mk (fits64 (by omega)) ?_
                              refine ⟨leb rfl, rfl, by omega, trivial, ⟨wp rfl trivial, wp rfl (ltb rfl), wp rfl (ltb rfl), ⟨_, rfl, Weak.refl _ _, under_eInts _ _⟩, ⟨_, rfl, Weak.of_eq (?_), ⟨(under_state _ _).1, ltb rfl⟩⟩, ⟨_, rfl, Weak.of_eq (congrArg n' (by omega)), trivial⟩, ⟨_, rfl, Weak.refl _ _, under_eStrs _ _⟩, wp rfl trivial, wp rfl trivial, trivial⟩, ⟨bk rfl rfl, bk rfl rfl, bk rfl rfl, bk rfl rfl, bk rfl rfl, bk rfl rfl, trivial⟩, ⟨⟨_, rfl, trivial⟩, trivial⟩⟩
                              rw [take_snocB g3, List.flatMap_append]
                              rfl
                            · refine ifN ?_
                              have h8 : ¬ ((2 * k : Nat) : Int) < ((cuesI nums).length : Nat) := h8
                              obtain rfl : k = (pairsN nums).length := by omega
                              refine ⟨leb rfl, .inr ⟨[(0, sA (bT l)), (2, .ptr 0 0), (5, .ptr 8 0), (9, eState (pairsN nums)), (39, eStrs (body.map bT)), (40, n' (body.map bT).length), (41, n' r)], ⟨⟨_, rfl, Weak.refl _ _⟩, ⟨_, rfl, Weak.refl _ _⟩, ⟨_, rfl, Weak.refl _ _⟩, ⟨_, rfl, by rw [List.take_length]; exact Weak.tail _ _ _ _⟩, ⟨_, rfl, Weak.refl _ _⟩, ⟨_, rfl, Weak.refl _ _⟩, ⟨_, rfl, Weak.refl _ _⟩, trivial⟩, ?_⟩⟩
                              have hoff : (((ini.length + 1 : Nat) : Int) - 1).toNat * 1 = ini.length := by omega
                              refine Side.mk (fits64 (by omega)) ?_
                              refine Ex.mk _ (index_msl (elem := 32) (n := 1) (by kernel_rfl) (by kernel_rfl) ⟨by omega, by omega⟩) ?_
                              refine Ex.mk _ (load_mptr rfl (load_last hoff)) ?_
                              refine ex_app _ _ (app_stateM (by rw [List.length_map]) (by omega) rfl) ?_
                              refine Ex.mk _ (aop_store rfl rfl rfl (store_last rfl rfl hoff)) ?_
                              refine Side.mk (fits64 (by omega)) ?_
                              have hst : stepV (wVs ini ++ [v]) w = some (wVs ini ++ [v ++ [pairsN nums]]) := by
                                unfold stepV
                                rw [if_neg (str_false e2), hn]
                                simp only
                                rw [if_pos ⟨by simp, by omega⟩, addS_snoc]
                              rw [hst] at htk
                              refine ⟨leb rfl, rfl, ⟨⟨r + 1, ini, v ++ [pairsN nums], G + 1⟩, by show r + 1 ≤ _; omega, by show ini.length < r + 1; omega, by show (v ++ [pairsN nums]).length < r + 1; rw [List.length_append]; show v.length + 1 < r + 1; omega, htk⟩, by show body.length - (r + 1) < body.length - r; omega, ?_, ?_, ?_⟩
                              · exact ⟨wp rfl trivial, wp rfl (ltb rfl), wp rfl (ltb rfl), ⟨_, rfl, Weak.refl _ _, under_eStrs _ _⟩, wp rfl trivial, wp rfl trivial, trivial⟩
                              · refine ⟨bk rfl rfl, bk rfl rfl, bk rfl rfl, ⟨?_, ltb rfl⟩, bk rfl rfl, trivial⟩
                                show some (Blk.mrow ini.length (ini.map (cellV 11) ++ [.sl (v.length + 1) (v.map eState ++ [eState (pairsN nums)]) (.own 11 (G + 1) 1)])) = some (Blk.mrow ini.length (PC 11 ⟨r + 1, ini, v ++ [pairsN nums], G + 1⟩))
                                unfold PC
                                rw [List.map_append (l₂ := [(v ++ [pairsN nums], G + 1)])]
                                show _ = some (Blk.mrow ini.length (ini.map (cellV 11) ++ [cellV 11 (v ++ [pairsN nums], G + 1)]))
                                unfold cellV
                                rw [if_neg (by simp), List.length_append, List.map_append]
                                rfl
                              · exact ⟨⟨_, rfl, unders_append (cellV_under (ltb rfl) _) ⟨⟨unders_append (unders_map (under_state _) _) ⟨under_state _ _, trivial⟩, ltb rfl⟩, trivial⟩⟩, ⟨_, rfl, trivial⟩, trivial⟩
                        · refine CallG.sure (fun e => by cases e) (fun _ => ?_)
                          refine ⟨leb rfl, .inl (.inr ⟨_, rfl, rfl, hbad (hfail (foldV_none (k := r + 1) ?_)), _, rfl⟩)⟩
                          rw [htk]
                          unfold stepV
                          rw [if_neg (str_false e2), hn]
                          simp only
                          rw [if_neg]
                          intro h8
                          rw [cuesI_length] at h7
                          exact h7 (by show ((nums.length % 2 : Nat) : Int) = 0; rw [h8.2]; rfl)
                      · refine CallG.pan _ hc ?_
                        refine ⟨leb rfl, .inl (.inr ⟨_, rfl, rfl, hbad (hfail (foldV_none (k := r + 1) ?_)), _, rfl⟩)⟩
                        rw [htk]
                        unfold stepV
                        rw [if_neg (str_false e2), hn]
                  · refine ifN ?_
                    have h6 : ¬ (r : Int) < ((body.map bT).length : Nat) := h6
                    obtain rfl : r = body.length := by omega
                    rw [List.take_length] at hI4
                    rw [hI4] at hP
                    have hP : parseB l = some ⟨c, t, wVs ini ++ [v]⟩ := hP
                    have hlv : ((wVs ini ++ [v]).map eStates).length = ini.length + 1 := by
                      unfold wVs
                      rw [List.length_map, List.length_append, List.length_map]
                      rfl
                    refine ⟨leb rfl, .inr ⟨[(0, sA (bT l)), (2, .ptr 0 0), (5, .ptr 8 0)], 10, _, 8, _, (wVs ini ++ [v]).map eStates, _, [n' c, n' t, .sl (ini.length + 1) ((wVs ini ++ [v]).map eStates) .unk], 24, rfl, rfl, rfl, ?_, ?_, ?_, ⟨⟨_, rfl, Weak.refl _ _⟩, ⟨_, rfl, Weak.refl _ _⟩, ⟨_, rfl, Weak.refl _ _⟩, trivial⟩, ?_⟩⟩
                    · show ((wVs ini ++ [v]).map eStates).length = (PC 11 _).length
                      rw [PC_length, hlv]
                    · rw [PC_vers ini v G]
                      exact PC_end _
                    · exact .same (.same (.this hlv.symm .nil))
                    · have heb : AV.sl (ini.length + 1) ((wVs ini ++ [v]).map eStates) .unk = eVersions (wVs ini ++ [v]) := by
                        unfold eVersions
                        rw [← hlv, List.length_map]
                      rw [heb]
                      refine CallG.pure _ (c_text (parse_low hl hP)) ?_
                      refine CallG.sure (fun e => ?_) (fun e => ?_)
                      · exact .inl ⟨.inl rfl, _, ⟨_, ⟨hP, sA_inj e⟩, .inl rfl⟩, FinG.mk _ rfl rfl (freeze_eBook _ ⟨c, t, wVs ini ++ [v]⟩)⟩
                      · refine .inr ⟨_, rfl, rfl, fun b' hb => ?_, _, rfl⟩
                        rw [hP] at hb
                        cases hb.1
                        exact str_false e hb.2
              · rcases c_told (l := u) (kind := 2) (w := wState) (by kernel_rfl) hul with ⟨v, ⟨nums, hn, rfl⟩, hc⟩ | ⟨v, ⟨hn, k, rfl⟩, hc⟩
                · refine CallG.pure _ hc ?_
                  refine If.mk (fun h => absurd h (by decide)) (fun _ => ?_)
                  refine CallG.sure (fun e => by cases e) (fun _ => ?_)
                  refine .inr ⟨_, rfl, rfl, hbad (hfail (foldV_none (k := 1) ?_)), _, rfl⟩
                  rw [show (1 : Nat) = 0 + 1 from rfl, take_snocB hu, List.take_zero]
                  show foldV [] [u] = none
                  unfold foldV stepV
                  rw [if_neg (str_false e), hn]
                  rfl
                · refine CallG.pan _ hc ?_
                  refine .inr ⟨_, rfl, rfl, hbad (hfail (foldV_none (k := 1) ?_)), _, rfl⟩
                  rw [show (1 : Nat) = 0 + 1 from rfl, take_snocB hu, List.take_zero]
                  show foldV [] [u] = none
                  unfold foldV stepV
                  rw [if_neg (str_false e), hn]
            · refine ifN ?_
              have hb0 : body = [] := List.length_eq_zero_iff.1 (by omega)
              rw [hb0] at hP
              have hP : parseB l = some ⟨c, t, []⟩ := hP
              refine CallG.weak _ (.cons (fun H => wk_bookZ c t H) .nil) (c_text (parse_low hl hP)) ?_
              refine CallG.sure (fun e => ?_) (fun e => ?_)
              · exact .inl ⟨.inl rfl, _, ⟨_, ⟨hP, sA_inj e⟩, .inr ⟨rfl, rfl⟩⟩, FinG.mk _ rfl rfl (rfl)⟩
              · refine .inr ⟨_, rfl, rfl, fun b' hb => ?_, _, rfl⟩
                rw [hP] at hb
                cases hb.1
                exact str_false e hb.2
          · refine CallG.sure (fun e => by cases e) (fun _ => ?_)
            refine .inr ⟨_, rfl, rfl, hbad ?_, _, rfl⟩
            rw [hP]
            rw [cuesI_length] at h4
            match nums, h4 with
            | [c, t], h => exact absurd rfl h
            | [], _ => rfl
            | [_], _ => rfl
            | _ :: _ :: _ :: _, _ => rfl
        · refine CallG.pan _ hc ?_
          rw [hn] at hP
          exact .inr ⟨_, rfl, rfl, hbad hP, _, rfl⟩
      · refine CallG.sure (fun e => by cases e) (fun _ => ?_)
        refine .inr ⟨_, rfl, rfl, hbad ?_, _, rfl⟩
        rw [hP, if_pos]
        rw [List.length_map, List.length_cons] at h3
        omega
theorem wk_book1 {b : Book} {v : AV} (h : bookR b v) (H : List Blk) : WeakH H v (eBook b) := by
 rcases h with rfl | ⟨h1, rfl⟩
 ·exact WeakH.refl _ H
 ·obtain ⟨bc, bt, bv⟩ := b
  have h1 : bv = [] := h1
  subst h1
  exact wk_bookZ bc bt H
theorem c_parsed {l : List UInt8} (hl : l.length ≤ 600) :
  (∃ b, (parseB l = some b ∧ sealS (rowsB b) = bT l) ∧ ∀ H, ACall Tryz.prog 142 [sA (bT l)] H (.ret (eBook b)) H) ∨ ((∀ b, ¬ (parseB l = some b ∧ sealS (rowsB b) = bT l)) ∧ ∃ k, ∀ H, ACall Tryz.prog 142 [sA (bT l)] H (.pan (why k)) H) := by
 rcases c_parsed0 hl with ⟨v, ⟨b, hb, hv⟩, h⟩ | ⟨v, ⟨hb, k, rfl⟩, h⟩
 ·exact .inl ⟨b, hb, fun H => (h H).weakR (wk_book1 hv)⟩
 ·exact .inr ⟨hb, k, h⟩
end Go.Vm

namespace Go.Vm
open Go.Proofs Go.RowKit
theorem LowB.len {b : Book} (h : LowB b) : BLen b := by
 have h1 := h.n
 have h2 := rowsV_length b.vs
 have h3 : (rowsB b).length = (b.vs.flatMap rowsV).length + 1 := rfl
 have h4 : ∀ v ∈ b.vs, v.length + 1 ≤ (b.vs.flatMap rowsV).length := fun v hv => by
  have e : (rowsV v).length = v.length + 1 := by
   show (v.map lineS1).length + 1 = _
   rw [List.length_map]
  rw [← e]
  obtain ⟨s, t, he⟩ := List.append_of_mem hv
  rw [he, List.flatMap_append, List.flatMap_cons, List.length_append, List.length_append]
  omega
 refine ⟨by omega, fun v hv => ⟨by have := h4 v hv; omega, fun s hs => by have := (h.m v hv s hs).1; omega⟩⟩
def zB : AV := .agg [n' 0, n' 0, .lit (.slice none 0 0)]
open Classical in
noncomputable def readV (l : List UInt8) : AV := if 450 < l.length then .tup [zB, .lit (.int .i64 3)] else match bookOf l with
 | none => .tup [zB, .lit (.int .i64 4)]
 | some b => if BOk b then .tup [eBook b, .lit (.int .i64 0)] else .tup [zB, .lit (.int .i64 2)]
theorem readV_long {l : List UInt8} (h : 450 < l.length) : readV l = .tup [zB, .lit (.int .i64 3)] := if_pos h
theorem readV_none {l : List UInt8} (h : ¬ 450 < l.length) (hb : bookOf l = none) : readV l = .tup [zB, .lit (.int .i64 4)] := by
 unfold readV
 rw [if_neg h, hb]
theorem readV_ok {l : List UInt8} {b : Book} (h : ¬ 450 < l.length) (hb : bookOf l = some b) (ho : BOk b) : readV l = .tup [eBook b, .lit (.int .i64 0)] := by
 unfold readV
 rw [if_neg h, hb]
 exact if_pos ho
theorem readV_bad {l : List UInt8} {b : Book} (h : ¬ 450 < l.length) (hb : bookOf l = some b) (ho : ¬ BOk b) : readV l = .tup [zB, .lit (.int .i64 2)] := by
 unfold readV
 rw [if_neg h, hb]
 exact if_neg ho
theorem readV_under (l : List UInt8) : (readV l).under 0 := by
 unfold readV
 split
 ·exact ⟨⟨trivial, trivial, trivial, trivial⟩, trivial, trivial⟩
 ·split
  ·exact ⟨⟨trivial, trivial, trivial, trivial⟩, trivial, trivial⟩
  ·split
   ·exact ⟨under_eBook 0 _, trivial, trivial⟩
   ·exact ⟨⟨trivial, trivial, trivial, trivial⟩, trivial, trivial⟩
set_option maxHeartbeats 4000000 in
set_option maxRecDepth 100000 in
theorem c_Read {l : List UInt8} (hl : l.length ≤ 600) (H : List Blk) : ACall Tryz.prog 83 [sA (bT l)] H (.ret (readV l)) H := by
 refine fn_rule (m := false) (fn := Tryz.f83) (c := (Tryz.f83.body).getD .skip) mixed (by kernel_rfl) (by kernel_rfl) (of_decide_eq_true (by kernel_rfl)) ?_ ?_ ?_ H
 ·exact ⟨trivial, trivial⟩
 ·exact readV_under l
 ·refine If.mk (fun h1 => ?_) (fun h1 => ?_)
  ·refine ifY ?_
   have h1 : 450 < l.length := Int.ofNat_lt.1 h1
   exact ⟨.inl rfl, FinG.mk _ rfl rfl (readV_long h1).symm⟩
  ·refine ifN ?_
   have h1 : ¬ 450 < l.length := fun h => h1 (Int.ofNat_lt.2 h)
   refine CallG.tryW rfl rfl ?_
   refine CallG.inlineP (m := false) (fn := Tryz.f141) (c := (Tryz.f141.body).getD .skip) mixed (by kernel_rfl) (by kernel_rfl) (of_decide_eq_true (by kernel_rfl)) ?_
   rcases c_parsed hl with ⟨b, hb, hc⟩ | ⟨hb, k, hc⟩
   ·have hbk := bookOf_some.2 ((read_iff hl).1 hb)
    have hlow := ((read_iff hl).1 hb).1
    refine CallG.pure _ hc ?_
    refine .inl ⟨.inr rfl, _, rfl, rfl, ⟨_, rfl⟩, ?_⟩
    refine If.mk (fun _ => ?_) (fun h => absurd (by decide) h)
    refine ifN ?_
    refine CallG.bool (c_isBook hlow.len) (fun ho => ?_) (fun ho => ?_)
    ·refine ifN ?_
     refine ⟨.inl rfl, FinG.mk _ rfl rfl ?_⟩
     rw [readV_ok h1 hbk ho]
     show AV.tup [AV.freeze _ (eBook b), .lit (.int .i64 0)] = _
     rw [freeze_eBook]
    ·refine ifY ?_
     exact ⟨.inl rfl, FinG.mk _ rfl rfl (readV_bad h1 hbk ho).symm⟩
   ·have hbk : bookOf l = none := by
     cases he : bookOf l with
     | none => rfl
     | some b => exact absurd ((read_iff hl).2 (bookOf_some.1 he)) (hb b)
    refine CallG.pan _ hc ?_
    refine .inr ⟨_, rfl, rfl, ⟨_, rfl⟩, ⟨_, rfl⟩, ?_⟩
    refine If.mk (fun h => absurd h (by decide)) (fun _ => ?_)
    refine ifY ?_
    exact ⟨.inl rfl, FinG.mk _ rfl rfl (readV_none h1 hbk).symm⟩
end Go.Vm

namespace Go.Vm
open Go.Proofs Go.RowKit
theorem idx_bT {l : List UInt8} {i : Int} {r : Nat} {x : UInt8} (hi : i = r) (h : l[r]? = some x) : indexA Tryz.prog 9 (sA (bT l)) (n' i) = some (.lit (.int .u8 (x.toNat : Nat))) := by
 subst hi
 obtain ⟨h1, rfl⟩ := List.getElem?_eq_some_iff.1 h
 rw [idx_str (s := bT l) (j := r) h1]
 have e : byteI (bT l) r = (l[r]).toNat := by
  unfold byteI
  rw [List.getD_eq_getElem?_getD]
  show ((l[r]?).getD 0).toNat = _
  rw [h]
  rfl
 rw [e]
end Go.Vm

namespace Go.Vm
open Go.Proofs Go.RowKit
theorem fits8 {n : Int} (h : 0 ≤ n ∧ n < 256) : fitsK .u8 n := by
 unfold fitsK
 simp only [IntKind.wrap, IntKind.bits, IntKind.signed]
 simp
 omega
end Go.Vm

namespace Go.Vm
open Go.Proofs
theorem set_lines {c v x : UInt8} (hx : x ≠ c) (rest : List UInt8) : ∀ (L : List (List UInt8)) (at' : Nat), (L.flatMap (fun a => a ++ [c]) ++ rest)[at']? = some x →
  (∃ i k row, L[i]? = some row ∧ row[k]? = some x ∧ (L.flatMap (fun a => a ++ [c]) ++ rest).set at' v = (L.set i (row.set k v)).flatMap (fun a => a ++ [c]) ++ rest) ∨
   ∃ k, rest[k]? = some x ∧ (L.flatMap (fun a => a ++ [c]) ++ rest).set at' v = L.flatMap (fun a => a ++ [c]) ++ rest.set k v
 | [], at', h => .inr ⟨at', h, rfl⟩
 | a :: L, at', h => by
  have e : (a :: L).flatMap (fun a => a ++ [c]) ++ rest = a ++ c :: (L.flatMap (fun a => a ++ [c]) ++ rest) := by
   rw [List.flatMap_cons, List.append_assoc, List.append_assoc]; rfl
  rw [e] at h ⊢
  rcases Nat.lt_trichotomy at' a.length with hlt | heq | hgt
  ·refine .inl ⟨0, at', a, rfl, by rw [List.getElem?_append_left hlt] at h; exact h, ?_⟩
   rw [List.set_append_left _ _ hlt]
   show _ = (a.set at' v :: L).flatMap (fun a => a ++ [c]) ++ rest
   rw [List.flatMap_cons, List.append_assoc, List.append_assoc]; rfl
  ·rw [List.getElem?_append_right (by omega), heq, Nat.sub_self] at h
   cases h
   exact absurd rfl hx
  ·obtain ⟨j, rfl⟩ : ∃ j, at' = a.length + (j + 1) := ⟨at' - a.length - 1, by omega⟩
   rw [List.getElem?_append_right (by omega), show a.length + (j + 1) - a.length = j + 1 by omega, List.getElem?_cons_succ] at h
   rw [List.set_append_right _ _ (by omega), show a.length + (j + 1) - a.length = j + 1 by omega, List.set_cons_succ]
   rcases set_lines hx rest L j h with ⟨i, k, row, h1, h2, h3⟩ | ⟨k, h2, h3⟩
   ·refine .inl ⟨i + 1, k, row, by rw [List.getElem?_cons_succ]; exact h1, h2, ?_⟩
    rw [h3, List.set_cons_succ, List.flatMap_cons, List.append_assoc, List.append_assoc]; rfl
   ·refine .inr ⟨k, h2, ?_⟩
    rw [h3, List.flatMap_cons, List.append_assoc, List.append_assoc]; rfl
theorem byteI_bT (l : List UInt8) (j : Nat) : byteI (bT l) j = (l.getD j 0).toNat := rfl
theorem byte_set {l : List UInt8} {k : Nat} {x v : UInt8} (h : l[k]? = some x) (j : Nat) : byteI (bT (l.set k v)) j + (if k = j then x.toNat else 0) = byteI (bT l) j + (if k = j then v.toNat else 0) := by
 obtain ⟨hk, hx⟩ := List.getElem?_eq_some_iff.1 h
 rw [byteI_bT, byteI_bT, List.getD_eq_getElem?_getD, List.getD_eq_getElem?_getD]
 by_cases e : k = j
 ·subst e
  rw [List.getElem?_set_self hk, h, if_pos rfl, if_pos rfl]
  exact Nat.add_comm _ _
 ·rw [List.getElem?_set_ne e, if_neg e, if_neg e]
theorem rw_set {l : List UInt8} {k i : Nat} {x v : UInt8} (h : l[k]? = some x) : ∀ n, rwF (bT (l.set k v)) i n + (if k < n then x.toNat * (k + 1) * (i + 1) else 0) = rwF (bT l) i n + (if k < n then v.toNat * (k + 1) * (i + 1) else 0)
 | 0 => rfl
 | n + 1 => by
  have ih := rw_set (i := i) (v := v) h n
  have hb := byte_set (v := v) h n
  show rwF (bT (l.set k v)) i n + byteI (bT (l.set k v)) n * (n + 1) * (i + 1) + _ = rwF (bT l) i n + byteI (bT l) n * (n + 1) * (i + 1) + _
  rcases Nat.lt_trichotomy k n with hk | hk | hk
  ·rw [if_neg (by omega), if_neg (by omega)] at hb
   rw [if_pos hk, if_pos hk] at ih
   rw [if_pos (by omega), if_pos (by omega), show byteI (bT (l.set k v)) n = byteI (bT l) n by omega]
   omega
  ·subst hk
   rw [if_pos rfl, if_pos rfl] at hb
   rw [if_neg (Nat.lt_irrefl _), if_neg (Nat.lt_irrefl _)] at ih
   rw [if_pos (by omega), if_pos (by omega)]
   have h1 : byteI (bT (l.set k v)) k * (k + 1) * (i + 1) + x.toNat * (k + 1) * (i + 1) = byteI (bT l) k * (k + 1) * (i + 1) + v.toNat * (k + 1) * (i + 1) := by
    rw [← Nat.add_mul, ← Nat.add_mul, ← Nat.add_mul, ← Nat.add_mul, hb]
   omega
  ·rw [if_neg (by omega), if_neg (by omega)] at hb
   rw [if_neg (by omega), if_neg (by omega)] at ih
   rw [if_neg (by omega), if_neg (by omega), show byteI (bT (l.set k v)) n = byteI (bT l) n by omega]
   omega
theorem sm_set {L : List ByteArray} {i : Nat} {s s' : ByteArray} (h : L[i]? = some s) : ∀ n, smF (L.set i s') n + (if i < n then rwF s i s.size else 0) = smF L n + (if i < n then rwF s' i s'.size else 0)
 | 0 => rfl
 | n + 1 => by
  have ih := sm_set (s' := s') h n
  obtain ⟨hi, _⟩ := List.getElem?_eq_some_iff.1 h
  show smF (L.set i s') n + rwF ((L.set i s').getD n default) n ((L.set i s').getD n default).size + _ = smF L n + rwF (L.getD n default) n (L.getD n default).size + _
  rcases Nat.lt_trichotomy i n with hk | hk | hk
  ·have e : (L.set i s').getD n default = L.getD n default := by
    rw [List.getD_eq_getElem?_getD, List.getD_eq_getElem?_getD, List.getElem?_set_ne (by omega)]
   rw [if_pos hk, if_pos hk] at ih
   rw [e, if_pos (by omega), if_pos (by omega)]
   omega
  ·subst hk
   have e1 : (L.set i s').getD i default = s' := by rw [List.getD_eq_getElem?_getD, List.getElem?_set_self hi]; rfl
   have e2 : L.getD i default = s := by rw [List.getD_eq_getElem?_getD, h]; rfl
   rw [if_neg (Nat.lt_irrefl _), if_neg (Nat.lt_irrefl _)] at ih
   rw [e1, e2, if_pos (by omega), if_pos (by omega)]
   omega
  ·have e : (L.set i s').getD n default = L.getD n default := by
    rw [List.getD_eq_getElem?_getD, List.getD_eq_getElem?_getD, List.getElem?_set_ne (by omega)]
   rw [if_neg (by omega), if_neg (by omega)] at ih
   rw [e, if_neg (by omega), if_neg (by omega)]
   omega
theorem cop {x : Nat} (h0 : 0 < x) (h1 : x < 191) : Nat.Coprime 191 x := by
 have all : ((List.range 191).all fun x => decide (x = 0) || decide (Nat.gcd 191 x = 1)) = true := by decide +kernel
 have := List.all_eq_true.1 all x (List.mem_range.2 h1)
 simp only [Bool.or_eq_true, decide_eq_true_eq] at this
 rcases this with h | h
 ·omega
 ·exact h
theorem not_mod {a b x y p q : Nat} (hx : x < 10) (hy : y < 10) (hne : x ≠ y) (hp : p < 190) (hq : q < 190) (e : a + (48 + x) * (p + 1) * (q + 1) = b + (48 + y) * (p + 1) * (q + 1)) : a % 191 ≠ b % 191 := by
 have key : ∀ {a b x y : Nat}, x < y → y < 10 → a + (48 + x) * (p + 1) * (q + 1) = b + (48 + y) * (p + 1) * (q + 1) → a % 191 ≠ b % 191 := fun {a b x y} hlt hy e h => by
  obtain ⟨d, rfl⟩ : ∃ d, y = x + d := ⟨y - x, by omega⟩
  have e3 : (48 + (x + d)) * (p + 1) * (q + 1) = (48 + x) * (p + 1) * (q + 1) + d * (p + 1) * (q + 1) := by
   rw [← Nat.add_mul, ← Nat.add_mul, Nat.add_assoc]
  have e2 : a = b + d * (p + 1) * (q + 1) := by
   rw [e3] at e
   generalize (48 + x) * (p + 1) * (q + 1) = z at e
   generalize d * (p + 1) * (q + 1) = z2 at e ⊢
   omega
  have h3 : 191 ∣ d * (p + 1) * (q + 1) := by
   rw [e2] at h
   have h4 := Nat.sub_mod_eq_zero_of_mod_eq h
   rw [Nat.add_sub_cancel_left] at h4
   exact Nat.dvd_of_mod_eq_zero h4
  have h5 := (cop (x := q + 1) (by omega) (by omega)).dvd_of_dvd_mul_right h3
  have h6 := (cop (x := p + 1) (by omega) (by omega)).dvd_of_dvd_mul_right h5
  have := Nat.le_of_dvd (by omega) h6
  omega
 rcases Nat.lt_or_ge x y with h | h
 ·exact key h hy e
 ·exact fun h' => key (show y < x by omega) hx e.symm h'.symm
theorem sealN_of {L L' : List ByteArray} (h : sealE L = sealE L') : sealN L = sealN L' := by
 have h1 : sealN L < 191 := Nat.mod_lt _ (by decide)
 have h2 : sealN L' < 191 := Nat.mod_lt _ (by decide)
 unfold sealE at h
 generalize sealN L = a at *
 generalize sealN L' = b at *
 have dig : ∀ {n : Nat}, n < 10 → lB (decS n) = [UInt8.ofNat (48 + n)] := fun {n} hn => by
  unfold decS
  rw [if_pos hn]
  rfl
 simp only [lB_app, dig (show a / 100 < 10 by omega), dig (show a / 10 % 10 < 10 by omega), dig (show a % 10 < 10 by omega), dig (show b / 100 < 10 by omega), dig (show b / 10 % 10 < 10 by omega), dig (show b % 10 < 10 by omega), List.append_assoc, List.append_cancel_left_eq,
  List.cons_append, List.nil_append, List.cons.injEq, and_true] at h
 have inj : ∀ {m n : Nat}, m < 10 → n < 10 → UInt8.ofNat (48 + m) = UInt8.ofNat (48 + n) → m = n := fun {m n} hm hn e => by
  have := congrArg UInt8.toNat e
  simp only [UInt8.toNat_ofNat'] at this
  omega
 have k1 := inj (by omega) (by omega) h.1
 have k2 := inj (by omega) (by omega) h.2.1
 have k3 := inj (by omega) (by omega) h.2.2
 omega
theorem rows_small {b : Book} (h : BOk b) : (rowsB b).length ≤ 100 ∧ ∀ s ∈ rowsB b, s.size ≤ 100 := by
 obtain ⟨⟨hc, ht, hv⟩, hV⟩ := h
 unfold inI at hc ht hv
 have key : ∀ l : List Vers, (∀ v ∈ l, v.length ≤ 4) → (l.flatMap rowsV).length ≤ 5 * l.length := fun l hl => by
  induction l with
  | nil => exact Nat.le_refl _
  | cons v l ih =>
   have h1 := ih fun w hw => hl w (by simp [hw])
   have h2 := hl v (by simp)
   have h3 : (rowsV v).length = v.length + 1 := by
    show (v.map lineS1).length + 1 = _
    rw [List.length_map]
   rw [List.flatMap_cons, List.length_append, List.length_cons, h3]
   omega
 refine ⟨?_, fun s hs => ?_⟩
 ·have := key b.vs fun v hv => by
   have := (hV v hv).2
   unfold inI at this
   omega
  show (b.vs.flatMap rowsV).length + 1 ≤ 100
  omega
 ·unfold rowsB at hs
  rcases List.mem_cons.1 hs with rfl | hs
  ·exact Nat.le_trans (lineS_size _ _) (by show 4 + 3 * 2 ≤ 100; decide)
  ·obtain ⟨v, hv, hs⟩ := List.mem_flatMap.1 hs
   rcases List.mem_cons.1 hs with rfl | hs
   ·decide
   ·obtain ⟨st, hst, rfl⟩ := List.mem_map.1 hs
    obtain ⟨h1, h2⟩ := hV v hv
    obtain ⟨h3, h4⟩ := h1 st hst
    have h5 := lineS_size (flatM st) wState
    rw [flatM_length] at h5
    have e : wState.size = 5 := rfl
    unfold lineS1
    omega
theorem spoilt {b b' : Book} (hb : BOk b) (hb' : LowB b') {at' : Nat} {x v : UInt8} (hx : (lB (sealS (rowsB b)))[at']? = some x) (h1 : isDig x = true) (h2 : isDig v = true) (hne : x ≠ v) : lB (sealS (rowsB b')) ≠ (lB (sealS (rowsB b))).set at' v := by
 intro e
 have hlow := BOk.low hb
 obtain ⟨hx1, hx2⟩ := isDig_dg h1
 obtain ⟨hv1, hv2⟩ := isDig_dg h2
 have hdne : dg x ≠ dg v := fun h => hne (by
  apply UInt8.toNat_inj.1
  omega)
 have hx10 : x ≠ 10 := fun h => by rw [h] at hx2; have : (10 : UInt8).toNat = 10 := rfl; omega
 have hv10 : v ≠ 10 := fun h => by rw [h] at hv2; have : (10 : UInt8).toNat = 10 := rfl; omega
 have hs' := spl_seal hb'
 rw [e] at hs'
 rw [lB_seal] at hx hs'
 have no_set : ∀ {l : List UInt8} {k : Nat}, (10 : UInt8) ∉ l → (10 : UInt8) ∉ l.set k v := fun {l k} h h' => by
  rcases List.mem_or_eq_of_mem_set h' with h'' | h''
  ·exact h h''
  ·exact hv10 h''.symm
 have back : ∀ L : List ByteArray, (L.map lB).map bT = L := fun L => by
  rw [List.map_map]
  exact List.map_id' L
 rcases set_lines (v := v) hx10 (sealE (rowsB b) ++ [10]) ((rowsB b).map lB) at' hx with ⟨i, k, row, k1, k2, k3⟩ | ⟨k, k2, k3⟩
 ·rw [k3, spl_lines _ (fun a ha => by
   rcases List.mem_or_eq_of_mem_set ha with h | rfl
   ·exact rows_no hlow a h
   ·exact no_set (rows_no hlow row (List.mem_of_getElem? k1))), spl_front [] (sealE_no _)] at hs'
  obtain ⟨q1, q2⟩ := List.append_inj' hs' rfl
  have q3 : sealE (rowsB b) = sealE (rowsB b') := by
   have := (List.cons.inj q2).1
   exact this
  have q4 := sealN_of q3
  have q5 : rowsB b' = (rowsB b).set i (bT (row.set k v)) := by
   have := congrArg (List.map bT) q1
   rw [back, List.map_set, back] at this
   exact this.symm
  have k1' : (rowsB b)[i]? = some (bT row) := by
   have h := k1
   rw [List.getElem?_map] at h
   cases hr : (rowsB b)[i]? with
   | none => rw [hr] at h; cases h
   | some s => rw [hr] at h; cases h; rfl
  obtain ⟨r1, r2⟩ := rows_small hb
  obtain ⟨hi, _⟩ := List.getElem?_eq_some_iff.1 k1'
  obtain ⟨hk, _⟩ := List.getElem?_eq_some_iff.1 k2
  have hrow : row.length ≤ 100 := r2 _ (List.mem_of_getElem? k1')
  have m1 := sm_set (s' := bT (row.set k v)) k1' (rowsB b).length
  rw [if_pos hi, if_pos hi] at m1
  have m2 := rw_set (i := i) (v := v) k2 row.length
  rw [if_pos hk, if_pos hk] at m2
  have sz : (bT (row.set k v)).size = row.length := by rw [bT_size, List.length_set]
  rw [sz, bT_size] at m1
  have m3 : smF ((rowsB b).set i (bT (row.set k v))) (rowsB b).length + x.toNat * (k + 1) * (i + 1) = smF (rowsB b) (rowsB b).length + v.toNat * (k + 1) * (i + 1) := by omega
  rw [hx2, hv2] at m3
  refine not_mod hx1 hv1 hdne (by omega) (by omega) m3 ?_
  unfold sealN at q4
  rw [q5, List.length_set] at q4
  exact q4.symm
 ·have hk : k < (sealE (rowsB b)).length := by
   obtain ⟨hk, hk2⟩ := List.getElem?_eq_some_iff.1 k2
   rw [List.length_append, List.length_singleton] at hk
   rcases Nat.lt_or_ge k (sealE (rowsB b)).length with h | h
   ·exact h
   ·rw [List.getElem?_append_right h, show k - (sealE (rowsB b)).length = 0 by omega] at k2
    cases k2
    exact absurd rfl hx10
  rw [List.getElem?_append_left hk] at k2
  rw [k3, List.set_append_left _ _ hk, spl_lines _ (rows_no hlow), spl_front [] (no_set (sealE_no _))] at hs'
  obtain ⟨q1, q2⟩ := List.append_inj' hs' rfl
  have q5 : rowsB b' = rowsB b := by
   have := congrArg (List.map bT) q1
   rw [back, back] at this
   exact this.symm
  have q3 : (sealE (rowsB b)).set k v = sealE (rowsB b') := (List.cons.inj q2).1
  rw [q5] at q3
  have q6 : (sealE (rowsB b))[k]? = some v := by
   rw [← q3, List.getElem?_set_self hk]
  rw [k2] at q6
  cases q6
  exact hne rfl
end Go.Vm
