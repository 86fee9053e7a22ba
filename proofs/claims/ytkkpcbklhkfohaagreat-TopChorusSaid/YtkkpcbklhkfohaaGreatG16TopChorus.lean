/-
  Texts of the proof, part 16: the machine, contracts of functions, plain laws. (Own work.)
-/
import Derived.Test.YtkkpcbklhkfohaaGreatG15TopChorus
import Derived.Test.YtkkpcbklhkfohaaGreatG12TopChorus
import Derived.Test.YtkkpcbklhkfohaaGreatG11TopChorus

namespace Go.Vm
structure MixOk (x : List Int) (L : List (List Int)) (o : List Int) : Prop where
 len : o.length = x.length
 at' : ∀ i, i < x.length → (o[i]? = x[i]? ∧ ∀ y ∈ L, y[i]? = x[i]?) ∨ (o[i]? = some (-1) ∧ ∃ y ∈ L, y[i]? ≠ x[i]?)
theorem MixOk.nil (x : List Int) : MixOk x [] x := ⟨rfl, fun i h => .inl ⟨rfl, fun y hy => by cases hy⟩⟩
theorem mix_get {o t : List Int} (h : o.length = t.length) (i : Nat) (hi : i < o.length) : (mix o t)[i]? = some (if o[i]? = t[i]? then o.getD i 0 else -1) := by
 unfold mix
 rw [List.getElem?_zipWith, List.getElem?_eq_getElem hi, List.getElem?_eq_getElem (show i < t.length by omega), List.getD, List.getElem?_eq_getElem hi]
 simp
theorem MixOk.add {x o t : List Int} {L : List (List Int)} (h : MixOk x L o) (ht : t.length = x.length) (h0 : ∀ y ∈ t, 0 ≤ y) : MixOk x (L ++ [t]) (mix o t) := by
 have hol := h.len
 have hml : (mix o t).length = x.length := by unfold mix; rw [List.length_zipWith]; omega
 refine ⟨hml, fun i hi => ?_⟩
 have hm := mix_get (o := o) (t := t) (by omega) i (by omega)
 have htI : t[i]? = some t[i] := List.getElem?_eq_getElem (by omega)
 have ht0 := h0 t[i] (List.getElem_mem (by omega))
 rcases h.at' i hi with ⟨h1, h2⟩ | ⟨h1, y, hy, h2⟩
 ·by_cases e : o[i]? = t[i]?
  ·left
   rw [if_pos e] at hm
   refine ⟨?_, fun y hy => ?_⟩
   ·rw [hm, ← h1, List.getD, List.getElem?_eq_getElem (show i < o.length by omega)]
    rfl
   ·rcases List.mem_append.1 hy with h3 | h3
    ·exact h2 y h3
    ·simp at h3
     rw [h3, ← e, h1]
  ·right
   rw [if_neg e] at hm
   exact ⟨hm, t, by simp, fun e2 => e (h1.trans e2.symm)⟩
 ·right
  have e : ¬ o[i]? = t[i]? := fun e => by
   rw [h1, htI] at e
   have := Option.some.inj e
   omega
  rw [if_neg e] at hm
  exact ⟨hm, y, by simp [hy], h2⟩
theorem MixOk.fold {x : List Int} : ∀ {M L : List (List Int)} {o : List Int}, MixOk x L o → (∀ t ∈ M, t.length = x.length ∧ ∀ y ∈ t, 0 ≤ y) → MixOk x (L ++ M) (M.foldl mix o)
 | [], L, o, h, _ => by rw [List.append_nil]; exact h
 | t :: M, L, o, h, hM => by
  rw [List.foldl_cons, show L ++ t :: M = (L ++ [t]) ++ M by simp]
  exact (h.add (hM t (by simp)).1 (hM t (by simp)).2).fold fun y hy => hM y (by simp [hy])
theorem MixOk.sure {x o : List Int} {L : List (List Int)} (h : MixOk x L o) (hx : ∀ y ∈ x, 0 ≤ y) (hL : ∀ t ∈ L, t.length = x.length) : ((-1 : Int) ∈ o ↔ ¬ ∀ t ∈ L, t = x) ∧ ((∀ t ∈ L, t = x) → o = x) := by
 constructor
 ·constructor
  ·intro hm hall
   obtain ⟨i, hi, e⟩ := List.getElem_of_mem hm
   have hi' : i < x.length := by have := h.len; omega
   rcases h.at' i hi' with ⟨h1, _⟩ | ⟨_, y, hy, h2⟩
   ·rw [List.getElem?_eq_getElem hi, List.getElem?_eq_getElem hi', e] at h1
    have := hx x[i] (List.getElem_mem hi')
    have e2 := Option.some.inj h1
    omega
   ·exact h2 (by rw [hall y hy])
  ·intro hn
   refine Classical.byContradiction fun hm => hn fun t ht => ?_
   refine List.ext_getElem? fun i => ?_
   by_cases hi : i < x.length
   ·rcases h.at' i hi with ⟨_, h2⟩ | ⟨h1, _⟩
    ·exact h2 t ht
    ·exact absurd (List.mem_of_getElem? h1) hm
   ·rw [List.getElem?_eq_none (by have := hL t ht; omega), List.getElem?_eq_none (by omega)]
 ·intro hall
  refine List.ext_getElem? fun i => ?_
  by_cases hi : i < x.length
  ·rcases h.at' i hi with ⟨h1, _⟩ | ⟨_, y, hy, h2⟩
   ·exact h1
   ·exact absurd (by rw [hall y hy]) h2
  ·rw [List.getElem?_eq_none (by have := h.len; omega), List.getElem?_eq_none (by omega)]
theorem foldl_map_mix {α : Type} (f : α → List Int) : ∀ (l : List α) (o : List Int), l.foldl (fun o j => mix o (f j)) o = (l.map f).foldl mix o
 | [], _ => rfl
 | _ :: l, _ => foldl_map_mix f l _
end Go.Vm

namespace Go.Vm
open Go.Proofs Go.RowKit
def swI (ι : Nat → Option (Nat × Nat)) (N R : Nat) : Nat → Option (Nat × Nat) := fun i => if i = N then none else if i = R then ι N else ι i
def swH (H : List Blk) (N R h g : Nat) (cells : List AV) : List Blk := (H.set N (.row (h + 1))).set R (.mrow (g + 1) cells)
section
variable {H : List Blk} {N R h g : Nat} {cells c0 : List AV}
theorem swH_R (hR : R < H.length) : (swH H N R h g cells)[R]? = some (.mrow (g + 1) cells) := by
 unfold swH
 rw [List.getElem?_set_self (by rw [List.length_set]; exact hR)]
theorem swH_N (hN : N < H.length) (hne : N ≠ R) : (swH H N R h g cells)[N]? = some (.row (h + 1)) := by
 unfold swH
 rw [List.getElem?_set_ne (Ne.symm hne), List.getElem?_set_self hN]
theorem swH_other {i : Nat} (h1 : i ≠ N) (h2 : i ≠ R) : (swH H N R h g cells)[i]? = H[i]? := by
 unfold swH
 rw [List.getElem?_set_ne (Ne.symm h2), List.getElem?_set_ne (Ne.symm h1)]
theorem swH_length : (swH H N R h g cells).length = H.length := by simp [swH]
variable [Outer] {ι : Nat → Option (Nat × Nat)} {w : World}
theorem ev_swap (hN : H[N]? = some (.mrow h cells)) (hR : H[R]? = some (.mrow g c0)) (hne : N ≠ R) : Ev ⟨H, ι, w⟩ ⟨swH H N R h g cells, swI ι N R, w⟩ := by
 have ltN : N < H.length := (List.getElem?_eq_some_iff.1 hN).1
 have ltR : R < H.length := (List.getElem?_eq_some_iff.1 hR).1
 have other : ∀ {i : Nat} {B : Blk}, H[i]? = some B → (∀ g c, B ≠ .mrow g c) → i ≠ N ∧ i ≠ R ∧ (swH H N R h g cells)[i]? = some B := fun {i B} hB hno => by
  have h1 : i ≠ N := by rintro rfl; rw [hN] at hB; cases hB; exact hno _ _ rfl
  have h2 : i ≠ R := by rintro rfl; rw [hR] at hB; cases hB; exact hno _ _ rfl
  exact ⟨h1, h2, by rw [swH_other h1 h2]; exact hB⟩
 have same : ∀ {i : Nat}, i ≠ N → i ≠ R → swI ι N R i = ι i := fun h1 h2 => by
  unfold swI
  rw [if_neg h1, if_neg h2]
 refine ⟨fun i hn => ?_, fun b lim hf => ⟨?_, fun _ _ => rfl⟩, fun i g0 hg => ?_, fun i g0 c1 hg => ?_, fun _ _ _ => rfl, Rest.refl _⟩
 ·obtain ⟨B, hB, hr⟩ := hn
  obtain ⟨h1, h2, h3⟩ := other (show H[i]? = some B from hB) (fun g c e => by subst e; cases hr)
  exact ⟨⟨B, h3, hr⟩, fun b wm e => ⟨wm, (same h1 h2).trans e⟩⟩
 ·obtain ⟨C, t, f, h1, h2, h3, h4⟩ := hf
  refine ⟨C, t, f, h1, h2, fun i wm e => ?_, h4⟩
  have e' : swI ι N R i = some (b, wm) := e
  by_cases hi : i = N
  ·unfold swI at e'
   rw [if_pos hi] at e'
   cases e'
  ·by_cases hr : i = R
   ·unfold swI at e'
    rw [if_neg hi, if_pos hr] at e'
    obtain ⟨⟨g', hg'⟩, _⟩ := h3 N wm e'
    have hg' : H[N]? = some (.row g') := hg'
    rw [hN] at hg'
    cases hg'
   ·rw [same hi hr] at e'
    obtain ⟨⟨g', hg'⟩, hle⟩ := h3 i wm e'
    exact ⟨⟨g', (swH_other hi hr).trans hg'⟩, hle⟩
 ·obtain ⟨h1, h2, h3⟩ := other (show H[i]? = some (.row g0) from hg) (fun _ _ e => by cases e)
  exact ⟨g0, h3, Nat.le_refl _, fun _ => ⟨same h1 h2, fun _ _ C t _ h => ⟨C, t, h, rfl⟩⟩⟩
 ·have hg : H[i]? = some (.mrow g0 c1) := hg
  by_cases hi : i = N
  ·subst hi
   rw [hN] at hg; cases hg
   exact ⟨.row (h + 1), h + 1, swH_N ltN hne, rfl, Nat.le_succ _, fun e => by omega⟩
  ·by_cases hr : i = R
   ·subst hr
    rw [hR] at hg; cases hg
    exact ⟨.mrow (g + 1) cells, g + 1, swH_R ltR, rfl, Nat.le_succ _, fun e => by omega⟩
   ·exact ⟨_, g0, (swH_other hi hr).trans hg, rfl, Nat.le_refl _, fun _ => ⟨⟨c1, rfl⟩, same hi hr, fun _ _ C t _ h => ⟨C, t, h, rfl⟩⟩⟩
theorem rel_swap (hr : Rel ⟨H, ι, w⟩) (hN : H[N]? = some (.mrow h cells)) (hR : H[R]? = some (.mrow g c0)) (hne : N ≠ R) : Rel ⟨swH H N R h g cells, swI ι N R, w⟩ := by
 have hev := ev_swap (ι := ι) (w := w) hN hR hne
 have ltR : R < H.length := (List.getElem?_eq_some_iff.1 hR).1
 -- a name of the new situation is one of the old one
 have old : ∀ {i b wm : Nat}, swI ι N R i = some (b, wm) → i ≠ N ∧ ι (if i = R then N else i) = some (b, wm) := fun {i b wm} e => by
  unfold swI at e
  by_cases hi : i = N
  ·rw [if_pos hi] at e; cases e
  ·rw [if_neg hi] at e
   by_cases h2 : i = R
   ·rw [if_pos h2] at e; rw [if_pos h2]; exact ⟨hi, e⟩
   ·rw [if_neg h2] at e; rw [if_neg h2]; exact ⟨hi, e⟩
 refine ⟨fun i b wm e => ?_, fun i j b wm wm' e e' => ?_, fun b x e => ⟨(hr.out b x e).1, fun i wm e' => (hr.out b x e).2 _ wm (old e').2⟩⟩
 ·obtain ⟨hi, e1⟩ := old e
  obtain ⟨B, hB, hrel⟩ := hr.blk _ b wm e1
  by_cases h2 : i = R
  ·subst h2
   rw [if_pos rfl] at hB
   have hB : H[N]? = some B := hB
   rw [hN] at hB; cases hB
   have h3 := hrel.ev hev rfl
   exact ⟨.mrow (g + 1) cells, swH_R ltR, h3⟩
  ·rw [if_neg h2] at hB
   exact ⟨B, (swH_other hi h2).trans hB, hrel.ev hev rfl⟩
 ·obtain ⟨hi, e1⟩ := old e
  obtain ⟨hj, e2⟩ := old e'
  have := hr.inj _ _ b wm wm' e1 e2
  by_cases h1 : i = R <;> by_cases h2 : j = R
  ·rw [h1, h2]
  ·rw [if_pos h1, if_neg h2] at this; exact absurd this.symm hj
  ·rw [if_neg h1, if_pos h2] at this; exact absurd this hi
  ·rw [if_neg h1, if_neg h2] at this; exact this
theorem vrel_swap (hN : H[N]? = some (.mrow h cells)) (hR : H[R]? = some (.mrow g c0)) (hne : N ≠ R) {len sz : Nat} {c : Value} (hx : VRel ⟨H, ι, w⟩ (.msl N h len sz) c) : VRel ⟨swH H N R h g cells, swI ι N R, w⟩ (.msl R (g + 1) len sz) c := by
 have ltR : R < H.length := (List.getElem?_eq_some_iff.1 hR).1
 simp only [VRel] at hx ⊢
 obtain ⟨base, cap, hc, hle, hs⟩ := hx
 refine ⟨base, cap, hc, hle, ?_⟩
 rcases hs with ⟨b, e, hm⟩ | ⟨e, e2, _⟩
 ·obtain ⟨b', wm, C, t, hi, hC, hb, hcap⟩ := hm.here (cells := cells) hN
  refine .inl ⟨b, e, .mrow (g + 1) cells, g + 1, swH_R ltR, rfl, Nat.le_refl _, fun _ _ => ⟨b', wm, C, t, ?_, hC, hb, hcap⟩⟩
  show swI ι N R R = _
  unfold swI
  rw [if_neg (Ne.symm hne), if_pos rfl]
  exact hi
 ·exact .inr ⟨e, e2, .mrow (g + 1) cells, g + 1, swH_R ltR, rfl, Nat.le_refl _⟩
end
theorem Run.swap {P : Program} {ro : Option Nat} {c : Code} {k : Nat} {V1 : Trie AV} {σ : St} {H1 : List Blk} {d : List Nat} {N R h g s len sz : Nat} {cells c0 : List AV} (x : Run P ro c σ .normal ⟨k, V1, H1, d⟩)
  (hN : H1[N]? = some (.mrow h cells)) (hR : H1[R]? = some (.mrow g c0)) (hne : N ≠ R) (hs : get V1 s = some (.msl N h len sz)) : Run P ro c σ .normal ⟨k, set V1 s (.msl R (g + 1) len sz), swH H1 N R h g cells, d⟩ := by
 intro O ι a w cro hro hsr
 refine wpIn_mono (x O ι a w cro hro hsr) ?_
 rintro e1 a1 w1 ⟨ι1, hx, hs1, hev, hnon⟩
 cases e1 with
 | normal =>
  have ev2 := ev_swap (ι := ι1) (w := w1) hN hR hne
  have hkd : ∀ id : Nat, H1[id]? = some Blk.defd → (swH H1 N R h g cells)[id]? = some Blk.defd := fun id hd => by
   have h1 : id ≠ N := by rintro rfl; rw [hN] at hd; cases hd
   have h2 : id ≠ R := by rintro rfl; rw [hR] at hd; cases hd
   rw [swH_other h1 h2]; exact hd
  refine ⟨swI ι1 N R, trivial, ⟨rel_swap hs1.rel hN hR hne, hs1.size, fun t v hg => ?_, hs1.defs.ev ev2 hkd⟩, hev.trans ev2, hnon.trans hev ?_⟩
  ·by_cases ht : s = t
   ·subst ht
    rw [get_set_same] at hg
    cases hg
    obtain ⟨c, hc, hr⟩ := hs1.vars s _ hs
    exact ⟨c, hc, vrel_swap hN hR hne hr⟩
   ·rw [get_set_other _ _ _ _ ht] at hg
    obtain ⟨c, hc, hr⟩ := hs1.vars t v hg
    exact ⟨c, hc, hr.ev ev2⟩
  ·intro id hn e
   obtain ⟨B, hB, hr⟩ := hn
   have hB : H1[id]? = some B := hB
   have h1 : id ≠ N := by rintro rfl; rw [hN] at hB; cases hB; cases hr
   have h2 : id ≠ R := by rintro rfl; rw [hR] at hB; cases hB; cases hr
   show swI ι1 N R id = none
   unfold swI
   rw [if_neg h1, if_neg h2]
   exact e
 | _ => exact hx.elim
def SwapM (N R s : Nat) (e : ES) (lo : Nat) (e2 : ES) (lo2 : Nat) : Prop :=
 ∃ h g len sz cells c0, N ≠ R ∧ get e.t N = some (.mrow h cells) ∧ get e.t R = some (.mrow g c0) ∧ get e.vars s = some (.msl N h len sz) ∧
  e2 = ⟨set e.vars s (.msl R (g + 1) len sz), set (set e.t N (.row (h + 1))) R (.mrow (g + 1) cells), e.n, e.defs⟩ ∧ lo2 = min lo (min N R)
theorem HT.swap {t : Trie Blk} {n : Nat} {H : List Blk} {N R h g : Nat} {cells c0 : List AV} (hH : HT t n H) (hN : get t N = some (.mrow h cells)) (hR : get t R = some (.mrow g c0)) : HT (Vm.set (Vm.set t N (.row (h + 1))) R (.mrow (g + 1) cells)) n (swH H N R h g cells) := by
 unfold swH
 exact (hH.set (hH.lt hN) _).set (by have := hH.lt hR; exact this) _
theorem loop_rM {P : Program} {m : Bool} {k : Nat} {ro : Option Nat} {c : Code} {α : Type} (hm : P.follows .mixedOrders = true) {vars : Trie AV} {t : Trie Blk} {n lo : Nat} {d : List Nat} {Q : CodeQ}
  (S : α → List (Nat × AV)) (T : α → List (Nat × Blk)) (μ : α → Nat) (L : Nat) (a0 : α) (hlo : L ≤ lo) (hv : Slots (get vars) t noLo (S a0)) (ht : Blks (get t) noLo (T a0))
  (body : ∀ a, gCode P m k ro c (ofL (S a)) (ofL (T a)) n d noLo (fun x e lo' => RoundR S T μ L n d Q a x e lo' ∨ (x = .normal ∧ ∃ N R s e2 lo2, SwapM N R s e lo' e2 lo2 ∧ RoundR S T μ L n d Q a .normal e2 lo2))) : LoopG P ro c k vars t n d lo Q := by
 have key : ∀ j a, μ a = j → ∀ H H0, HT (ofL (T a)) n H → Keep H0 H L → ∃ x e lo' H', HT e.t e.n H' ∧ Keep H0 H' lo' ∧ InL P ro c ⟨k, ofL (S a), H, d⟩ x ⟨k, e.vars, H', e.defs⟩ ∧ Q x e lo' := by
  intro j
  induction j using Nat.strongRecOn with
  | _ j ih =>
  intro a hj H H0 hH hk
  have hbody : ∃ x e lo' H1, HT e.t e.n H1 ∧ Keep H H1 lo' ∧ Run P ro c ⟨k, ofL (S a), H, d⟩ x ⟨k, e.vars, H1, e.defs⟩ ∧ RoundR S T μ L n d Q a x e lo' := by
   obtain ⟨x, e, lo', H1, hH1, hk1, hrun, hq⟩ := gCode_spec hm c _ _ _ _ _ _ (body a) H H hH (Keep.refl _ _)
   rcases hq with hq | ⟨rfl, N, R, s, e2, lo2, ⟨h, g, len, sz, cells, c0, hne, gN, gR, gs, rfl, rfl⟩, hq⟩
   ·exact ⟨x, e, lo', H1, hH1, hk1, hrun, hq⟩
   ·have bN := hH1.blk _ _ gN
    have bR := hH1.blk _ _ gR
    refine ⟨.normal, _, _, swH H1 N R h g cells, hH1.swap gN gR, ?_, hrun.swap bN bR hne gs, hq⟩
    refine ⟨by rw [swH_length]; exact hk1.le, fun id h1 h2 => ?_, fun id hid => ?_⟩
    ·rw [swH_other (by omega) (by omega)]
     exact hk1.low id (by omega) h2
    ·have hd := hk1.marks id hid
     have h1 : id ≠ N := by rintro rfl; rw [bN] at hd; cases hd
     have h2 : id ≠ R := by rintro rfl; rw [bR] at hd; cases hd
     rw [swH_other h1 h2]; exact hd
  obtain ⟨x, e, lo', H1, hH1, hk1, hrun, hq⟩ := hbody
  cases x with
  | normal =>
   obtain ⟨hL, hd, a', hμ, hS, hT, hB⟩ := hq
   have hlen := hH.len
   rw [hd] at hrun
   have hchg : ∀ id, id < H.length → H1[id]? = H[id]? ∨ ∃ B, H1[id]? = some B ∧ B.under H.length := by
    intro id hlt
    rcases Nat.lt_or_ge id lo' with h | h
    ·exact .inl (hk1.low id h hlt)
    ·obtain ⟨B, hB1, hB2⟩ := hB.mem id (by rw [List.mem_range'_1]; omega)
     exact .inr ⟨B, hH1.blk _ _ hB1, by rw [hlen]; exact hB2⟩
   have hback := hrun.back (V2 := ofL (S a')) (fun s v hg => by
    obtain ⟨v1, h1, h2, h3⟩ := hS.mem _ (get_ofL hg)
    exact ⟨v1, h1, h2 _ _ hH1, by rw [hlen]; exact h3⟩) hchg
   have hle := hk1.le
   have hH2 : HT (ofL (T a')) n (H1.take H.length) := by
    refine ⟨by rw [List.length_take]; omega, fun id B hg => ?_⟩
    obtain ⟨h1, h2⟩ := hT.mem _ (get_ofL hg)
    have h2 : id < n := h2
    rw [List.getElem?_take_of_lt (by omega)]
    exact hH1.blk _ _ h1
   have hk2 : Keep H (H1.take H.length) L := by
    refine ⟨by rw [List.length_take]; omega, fun id h1 h2 => ?_, fun id hid => ?_⟩
    ·rw [List.getElem?_take_of_lt h2]; exact hk1.low id (by omega) h2
    ·have hlt := (List.getElem?_eq_some_iff.1 hid).1
     rw [List.getElem?_take_of_lt hlt]; exact hk1.marks id hid
   obtain ⟨x, e2, lo2, H2, hH3, hk3, hin, hq2⟩ := ih (μ a') (by omega) a' rfl (H1.take H.length) H0 hH2 (hk.trans hk2 (Nat.le_refl _) (Nat.le_refl _))
   exact ⟨x, e2, lo2, H2, hH3, hk3, .go hback hin, hq2⟩
  | exit i => exact ⟨_, e, L, H1, hH1, hk.trans hk1 (Nat.le_refl _) hq.1, .out hrun rfl, hq.2⟩
  | ret => exact ⟨_, e, L, H1, hH1, hk.trans hk1 (Nat.le_refl _) hq.1, .out hrun rfl, hq.2⟩
  | pan v => exact ⟨_, e, L, H1, hH1, hk.trans hk1 (Nat.le_refl _) hq.1, .out hrun rfl, hq.2⟩
 refine ⟨fun H H0 hH hk => ?_⟩
 obtain ⟨x, e, lo', H', h1, h2, h3, h4⟩ := key _ a0 rfl H H0 ⟨hH.len, fun id B hg => hH.blk _ _ (ht.mem _ (get_ofL hg)).1⟩ (hk.mono hlo)
 exact ⟨x, e, lo', H', h1, h2, (h3.fewer fun s v hg => by
  obtain ⟨v1, g1, g2, _⟩ := hv.mem _ (get_ofL hg)
  exact ⟨v1, g1, g2 _ _ hH⟩), h4⟩
end Go.Vm

namespace Go.Vm
open Go.Proofs
def LineOk (l : List Int) : Prop := l.length ≤ 4 ∧ ∀ x ∈ l, 0 ≤ x ∧ x < 3
theorem line_mem {l : List Int} : l ∈ linesW 3 ↔ LineOk l := mem_linesW
structure VbOk (C : List (List Int)) : Prop where
 n : 1 ≤ C.length ∧ C.length ≤ 5
 line : ∀ c ∈ C, LineOk c
def eCp (l : List Int) : AV := .sl 1 [nb false, eInts l] .unk
def eCps (C : List (List Int)) : AV := .sl C.length (C.map eCp) .unk
def vbC (C : List (List Int)) : List AV := [n' 3, eCps C]
def eVB (C : List (List Int)) : AV := .agg (vbC C)
def vbBox (C : List (List Int)) : Blk := .box (vbC C) 80
theorem under_eCp (n : Nat) (l : List Int) : (eCp l).under n := ⟨⟨trivial, under_eInts _ _, trivial⟩, trivial⟩
theorem under_eCps (n : Nat) (C : List (List Int)) : (eCps C).under n := ⟨unders_map (under_eCp n) _, trivial⟩
theorem under_vbC (n : Nat) (C : List (List Int)) : AV.unders n (vbC C) := ⟨trivial, under_eCps _ _, trivial⟩
theorem vbBox_under (n : Nat) (C : List (List Int)) : (vbBox C).under n := under_vbC n C
theorem jx_cps {C : List (List Int)} {tl : Tail} {i : Int} {r : Nat} {x : List Int} (hi : i = r) (h : C[r]? = some x) : indexOp Tryz.prog 78 (.sl C.length (C.map eCp) tl) (.lit (.int .i64 i)) = some (.eptr [eCp x]) := by
 obtain ⟨h1, rfl⟩ := List.getElem?_eq_some_iff.1 h
 exact ix_one (e := 85) (by kernel_rfl) (by kernel_rfl) hi h1
set_option maxRecDepth 100000 in
theorem c_vin (a b c : Int) (H : List Blk) : ACall Tryz.prog 133 [n' a, n' b, n' c] H (.ret (.lit (.bool (decide (b ≤ a ∧ a ≤ c))))) H := by
 refine fn_rule (m := false) (fn := Tryz.f133) (c := (Tryz.f133.body).getD .skip) mixed (by kernel_rfl) (by kernel_rfl) (of_decide_eq_true (by kernel_rfl)) ?_ ?_ ?_ H
 ·exact ⟨trivial, trivial, trivial, trivial⟩
 ·exact trivial
 ·refine If.mk (fun h => ?_) (fun h => ?_)
  ·refine If.mk (fun h2 => ?_) (fun h2 => ?_)
   ·exact ⟨.inl rfl, FinG.yes rfl rfl (⟨h, h2⟩)⟩
   ·exact ⟨.inl rfl, FinG.no rfl rfl (fun e => h2 e.2)⟩
  ·exact ⟨.inl rfl, FinG.no rfl rfl (fun e => h e.1)⟩
set_option maxRecDepth 100000 in
theorem c_139 (C : List (List Int)) (x : Int) {n0 : Nat} (hn : n0 ≤ noLo) (H : List Blk) (hH : HT (ofL [(0, vbBox C)]) n0 H) : ACall Tryz.prog 139 [n' x, .ptr 0 0] H (.ret (.lit (.bool (decide (¬ (0 ≤ x ∧ x ≤ 2)))))) H := by
 refine fn_at (m := false) (fn := Tryz.f139) (c := (Tryz.f139.body).getD .skip) mixed (by kernel_rfl) (by kernel_rfl) (of_decide_eq_true (by kernel_rfl)) rfl ?_ H hH
 refine Side.mk (by unfold fitsK; kernel_rfl) ?_
 refine CallG.bool (c_vin _ _ _) (fun h => ?_) (fun h => ?_)
 ·exact ⟨.inl rfl, hn, FinF.bool rfl rfl ⟨fun x => absurd h x, fun x => by cases x⟩⟩
 ·exact ⟨.inl rfl, hn, FinF.bool rfl rfl ⟨fun _ => rfl, fun _ => h⟩⟩
set_option maxRecDepth 100000 in
theorem c_isLine (C : List (List Int)) {l : List Int} (hl : LineOk l) (H : List Blk) : ACall Tryz.prog 83 [eVB C, eInts l] H (.ret (nb true)) H := by
 have h1 := hl.1
 have hno : ¬ ∃ x ∈ l, ¬ (0 ≤ x ∧ x ≤ 2) := by
  rintro ⟨x, hx, h⟩
  have := hl.2 x hx
  omega
 refine fn_rule (m := false) (fn := Tryz.f83) (c := (Tryz.f83.body).getD .skip) mixed (by kernel_rfl) (by kernel_rfl) (of_decide_eq_true (by kernel_rfl)) ?_ ?_ ?_ H
 ·exact ⟨under_vbC 0 C, under_eInts _ _, trivial⟩
 ·exact trivial
 ·refine If.mk (fun _ => ?_) (fun h => absurd ((show (l.length : Int) ≤ 4 by omega)) h)
  refine CallG.fresh (n0 := 1) [eInts l, clo 139 [.ptr 0 0]] [(0, vbBox C)] rfl (.cons (fun H => WeakH.refl _ H) (.cons (fun H => WeakH.refl _ H) .nil)) ⟨bk rfl rfl, trivial⟩ ?_
  refine CallG.atB (p := ∃ x ∈ l, ¬ (0 ≤ x ∧ x ≤ 2)) (fun H hH => c_containsI (n0 := 1) (L0 := [(0, vbBox C)]) (leb rfl) ⟨bk rfl rfl, trivial⟩ 139 [.ptr 0 0] ⟨ltb rfl, trivial⟩ (fun x => ¬ (0 ≤ x ∧ x ≤ 2)) l (by omega) rfl (fun x _ H hH => c_139 C x (leb rfl) H hH) H (hH.sub ⟨bk rfl rfl, trivial⟩)) (fun h4 => absurd h4 hno) (fun _ => ?_)
  exact ⟨.inl rfl, FinG.mk _ rfl rfl rfl⟩
end Go.Vm

namespace Go.Vm
open Go.Proofs
theorem ed_le (a b : List Int) : edL a b ≤ a.length + b.length := by
 unfold edL
 have h := (Edt.drops a.reverse).trans (Edt.adds b.reverse)
 obtain ⟨k, hk, h⟩ := h
 have := ed_least _ (Nat.le_refl _) h
 simp only [List.length_reverse] at hk
 omega
def edA (a b : List Int) (i j : Nat) : Int := if j ≤ b.length then (edL (a.take i) (b.take j) : Nat) else 0
def edR (a b : List Int) (i k j : Nat) : Int := if j ≤ k then edA a b (i + 1) j else edA a b i j
def row5 (f : Nat → Int) : List AV := [n' (f 0), n' (f 1), n' (f 2), n' (f 3), n' (f 4)]
theorem under_row5 (f : Nat → Int) (n : Nat) : AV.unders n (row5 f) := ⟨trivial, trivial, trivial, trivial, trivial, trivial⟩
def ed0 (r j : Nat) : Int := if 1 ≤ j ∧ j ≤ r then j else 0
theorem edA_pos (a b : List Int) (i j : Nat) (ha : a.length ≤ 4) (hb : b.length ≤ 4) : 0 ≤ edA a b i j ∧ edA a b i j ≤ 8 := by
 unfold edA
 split
 ·have := ed_le (a.take i) (b.take j)
  simp only [List.length_take] at this
  omega
 ·omega
theorem edA_zero {a b : List Int} {j : Nat} : edA a b 0 j = ed0 b.length j := by
 unfold edA ed0
 rw [List.take_zero, ed_left, List.length_take]
 by_cases h : j ≤ b.length
 ·rw [if_pos h, Nat.min_eq_left h]
  by_cases h1 : 1 ≤ j
  ·rw [if_pos ⟨h1, h⟩]
  ·rw [if_neg fun x => h1 x.1]
   omega
 ·rw [if_neg h, if_neg fun x => h x.2]
theorem edA_first {a b : List Int} {i : Nat} (hi : i ≤ a.length) : edA a b i 0 = i := by
 unfold edA
 rw [if_pos (Nat.zero_le _), List.take_zero, ed_right, List.length_take, Nat.min_eq_left hi]
theorem edA_snoc {a b : List Int} {i k : Nat} {x y : Int} (hx : a[i]? = some x) (hy : b[k]? = some y) : edA a b (i + 1) (k + 1) = if x = y then edA a b i k else 1 + (if edA a b (i + 1) k < (if edA a b i (k + 1) < edA a b i k then edA a b i (k + 1) else edA a b i k) then edA a b (i + 1) k else (if edA a b i (k + 1) < edA a b i k then edA a b i (k + 1) else edA a b i k)) := by
 have hk := (List.getElem?_eq_some_iff.1 hy).1
 have e1 : a.take (i + 1) = a.take i ++ [x] := by rw [List.take_add_one, hx]; rfl
 have e2 : b.take (k + 1) = b.take k ++ [y] := by rw [List.take_add_one, hy]; rfl
 unfold edA
 rw [if_pos (show k + 1 ≤ b.length by omega), if_pos (show k ≤ b.length by omega), if_pos (show k ≤ b.length by omega), if_pos (show k + 1 ≤ b.length by omega), e1, e2, ed_snoc]
 by_cases h : x = y
 ·rw [if_pos h, if_pos h]
 ·rw [if_neg h, if_neg h]
  simp only [Nat.min_def]
  split <;> split <;> split <;> split <;> omega
set_option maxHeartbeats 4000000 in
set_option maxRecDepth 100000 in
theorem c_between {a b : List Int} (ha : a.length ≤ 4) (hb : b.length ≤ 4) (H : List Blk) : ACall Tryz.prog 86 [eInts a, eInts b] H (.ret (n' (edL a b : Nat))) H := by
 refine fn_rule (m := false) (fn := Tryz.f86) (c := (Tryz.f86.body).getD .skip) mixed (by kernel_rfl) (by kernel_rfl) (of_decide_eq_true (by kernel_rfl)) ?_ ?_ ?_ H
 ·exact ⟨under_eInts _ _, under_eInts _ _, trivial⟩
 ·exact trivial
 ·refine LoopG.at (n0 := 1) rfl ?_
  refine loop_up mixed (m := false) (fun r => [(0, eInts a), (1, eInts b), (5, .ptr 0 0), (12, eInts b), (13, n' b.length), (14, n' r)]) (fun r => [(0, .box (row5 (ed0 r)) 114)]) (fun _ => True) b.length 0 (leb rfl) trivial ?_ ?_ ?_
  ·exact ⟨⟨_, rfl, Weak.refl _ _, under_eInts _ _⟩, ⟨_, rfl, Weak.refl _ _, under_eInts _ _⟩, wp rfl (ltb rfl), ⟨_, rfl, Weak.refl _ _, under_eInts _ _⟩, wp rfl trivial, wp rfl trivial, trivial⟩
  ·exact ⟨bk rfl rfl, trivial⟩
  ·intro r hr _
   refine If.mk (fun h1 => ?_) (fun h1 => ?_)
   ·refine ifY ?_
    have hrb : r < b.length := by omega
    have hr4 : r < 4 := by omega
    match r, hr4 with
    | 0, _ =>
     refine Side.mk (by unfold fitsK; kernel_rfl) ?_
     refine Side.mk (by unfold fitsK; kernel_rfl) ?_
     refine Side.mk (by unfold fitsK; kernel_rfl) ?_
     exact ⟨leb rfl, rfl, hrb, trivial, ⟨⟨_, rfl, Weak.refl _ _, under_eInts _ _⟩, ⟨_, rfl, Weak.refl _ _, under_eInts _ _⟩, wp rfl (ltb rfl), ⟨_, rfl, Weak.refl _ _, under_eInts _ _⟩, wp rfl trivial, wp rfl trivial, trivial⟩, ⟨bk rfl rfl, trivial⟩, ⟨_, rfl, trivial, trivial, trivial, trivial, trivial, trivial⟩, trivial⟩
    | 1, _ =>
     refine Side.mk (by unfold fitsK; kernel_rfl) ?_
     refine Side.mk (by unfold fitsK; kernel_rfl) ?_
     refine Side.mk (by unfold fitsK; kernel_rfl) ?_
     exact ⟨leb rfl, rfl, hrb, trivial, ⟨⟨_, rfl, Weak.refl _ _, under_eInts _ _⟩, ⟨_, rfl, Weak.refl _ _, under_eInts _ _⟩, wp rfl (ltb rfl), ⟨_, rfl, Weak.refl _ _, under_eInts _ _⟩, wp rfl trivial, wp rfl trivial, trivial⟩, ⟨bk rfl rfl, trivial⟩, ⟨_, rfl, trivial, trivial, trivial, trivial, trivial, trivial⟩, trivial⟩
    | 2, _ =>
     refine Side.mk (by unfold fitsK; kernel_rfl) ?_
     refine Side.mk (by unfold fitsK; kernel_rfl) ?_
     refine Side.mk (by unfold fitsK; kernel_rfl) ?_
     exact ⟨leb rfl, rfl, hrb, trivial, ⟨⟨_, rfl, Weak.refl _ _, under_eInts _ _⟩, ⟨_, rfl, Weak.refl _ _, under_eInts _ _⟩, wp rfl (ltb rfl), ⟨_, rfl, Weak.refl _ _, under_eInts _ _⟩, wp rfl trivial, wp rfl trivial, trivial⟩, ⟨bk rfl rfl, trivial⟩, ⟨_, rfl, trivial, trivial, trivial, trivial, trivial, trivial⟩, trivial⟩
    | 3, _ =>
     refine Side.mk (by unfold fitsK; kernel_rfl) ?_
     refine Side.mk (by unfold fitsK; kernel_rfl) ?_
     refine Side.mk (by unfold fitsK; kernel_rfl) ?_
     exact ⟨leb rfl, rfl, hrb, trivial, ⟨⟨_, rfl, Weak.refl _ _, under_eInts _ _⟩, ⟨_, rfl, Weak.refl _ _, under_eInts _ _⟩, wp rfl (ltb rfl), ⟨_, rfl, Weak.refl _ _, under_eInts _ _⟩, wp rfl trivial, wp rfl trivial, trivial⟩, ⟨bk rfl rfl, trivial⟩, ⟨_, rfl, trivial, trivial, trivial, trivial, trivial, trivial⟩, trivial⟩
   ·refine ifN ?_
    refine ⟨leb rfl, ?_⟩
    obtain rfl : r = b.length := by omega
    refine LoopG.at (n0 := 1) rfl ?_
    obtain ⟨n, hn⟩ : ∃ n, b.length = n := ⟨_, rfl⟩
    refine loop_up mixed (m := false) (fun i => [(0, eInts a), (1, .sl n (b.map n') .unk), (5, .ptr 0 0), (23, eInts a), (24, n' a.length), (25, n' i)]) (fun i => [(0, .box (row5 (edA a b i)) 114)]) (fun _ => True) a.length 0 (leb rfl) trivial ?_ ?_ ?_
    ·exact ⟨⟨_, rfl, Weak.refl _ _, under_eInts _ _⟩, ⟨_, rfl, Weak.of_eq (congrArg (fun z => AV.sl z (b.map n') .unk) hn), ⟨under_ints _ _, trivial⟩⟩, wp rfl (ltb rfl), ⟨_, rfl, Weak.refl _ _, under_eInts _ _⟩, wp rfl trivial, wp rfl trivial, trivial⟩
    ·refine ⟨⟨?_, ltb rfl⟩, trivial⟩
     rw [show edA a b 0 = ed0 b.length from funext fun j => edA_zero]
     rfl
    ·intro i hi _
     refine If.mk (fun h2 => ?_) (fun h2 => ?_)
     ·refine ifY ?_
      have hia : i < a.length := by omega
      subst hn
      obtain ⟨x, hx, _, _⟩ := at_some (l := a) (r := i) hia
      have hf : edA a b i 0 + 1 = edA a b (i + 1) 0 := by
       rw [edA_first (by omega), edA_first (by omega)]
       rfl
      have hp := fun i j => edA_pos a b i j ha hb
      refine Ex.mk _ (jx_ints (r := i) rfl hx) ?_
      refine Ex.mk _ rfl ?_
      refine Side.mk (fits64 (by have := hp i 0; omega)) ?_
      refine LoopG.at (n0 := 2) rfl ?_
      refine loop_up mixed (m := false) (fun k => [(0, eInts a), (1, eInts b), (5, .ptr 0 0), (8, n' x), (9, .ptr 1 0), (23, eInts a), (24, n' a.length), (25, n' i), (34, eInts b), (35, n' b.length), (36, n' k)]) (fun k => [(0, .box (row5 (edR a b i k)) 114), (1, .box (row5 (edA a b i)) 114)]) (fun _ => True) b.length 0 (leb rfl) trivial ?_ ?_ ?_
      ·exact ⟨⟨_, rfl, Weak.refl _ _, under_eInts _ _⟩, ⟨_, rfl, Weak.refl _ _, under_eInts _ _⟩, wp rfl (ltb rfl), wp rfl trivial, wp rfl (ltb rfl), ⟨_, rfl, Weak.refl _ _, under_eInts _ _⟩, wp rfl trivial, wp rfl trivial, ⟨_, rfl, Weak.refl _ _, under_eInts _ _⟩, wp rfl trivial, wp rfl trivial, trivial⟩
      ·refine ⟨⟨?_, ltb rfl⟩, bk rfl rfl, trivial⟩
       exact congrArg (fun z => some (Blk.box [n' z, n' (edA a b i 1), n' (edA a b i 2), n' (edA a b i 3), n' (edA a b i 4)] 114)) hf
      ·intro k hk _
       refine If.mk (fun h3 => ?_) (fun h3 => ?_)
       ·refine ifY ?_
        have hkb : k < b.length := by omega
        have hk4 : k < 4 := by omega
        obtain ⟨y, hy, _, _⟩ := at_some (l := b) (r := k) hkb
        have hs := edA_snoc hx hy
        refine Ex.mk _ (jx_ints (r := k) rfl hy) ?_
        refine Ex.mk _ rfl ?_
        match k, hk4 with
        | 0, _ =>
         refine Side.mk (by unfold fitsK; kernel_rfl) ?_
         refine If.mk (fun hxy => ?_) (fun hxy => ?_)
         ·refine ifN ?_
          refine Side.mk (by unfold fitsK; kernel_rfl) ?_
          rw [if_pos hxy] at hs
          exact ⟨leb rfl, rfl, hkb, trivial, ⟨⟨_, rfl, Weak.refl _ _, under_eInts _ _⟩, ⟨_, rfl, Weak.refl _ _, under_eInts _ _⟩, wp rfl (ltb rfl), wp rfl trivial, wp rfl (ltb rfl), ⟨_, rfl, Weak.refl _ _, under_eInts _ _⟩, wp rfl trivial, wp rfl trivial, ⟨_, rfl, Weak.refl _ _, under_eInts _ _⟩, wp rfl trivial, wp rfl trivial, trivial⟩, ⟨⟨congrArg (fun z => some (Blk.box [n' (edA a b (i + 1) 0), n' z, n' (edA a b i 2), n' (edA a b i 3), n' (edA a b i 4)] 114)) hs.symm, ltb rfl⟩, bk rfl rfl, trivial⟩, ⟨_, rfl, trivial, trivial, trivial, trivial, trivial, trivial⟩, ⟨_, rfl, under_row5 _ _⟩, trivial⟩
         ·refine ifY ?_
          rw [if_neg hxy] at hs
          have b1 := hp i 0
          have b2 := hp i 1
          have b3 := hp (i + 1) 0
          have b4 : 0 ≤ edA a b (i + 1) (0 + 1) ∧ edA a b (i + 1) (0 + 1) ≤ 8 := hp (i + 1) (0 + 1)
          refine Side.mk (by unfold fitsK; kernel_rfl) ?_
          refine Side.mk (by unfold fitsK; kernel_rfl) ?_
          have hfit : fitsK IntKind.i64 (edA a b (i + 1) (0 + 1)) := fits64 (by generalize edA a b (i + 1) (_ + 1) = z at b4 ⊢; omega)
          rw [hs] at hfit
          refine Ex.mk _ rfl ?_
          refine Side.mk hfit ?_
          refine Side.mk (by unfold fitsK; kernel_rfl) ?_
          exact ⟨leb rfl, rfl, hkb, trivial, ⟨⟨_, rfl, Weak.refl _ _, under_eInts _ _⟩, ⟨_, rfl, Weak.refl _ _, under_eInts _ _⟩, wp rfl (ltb rfl), wp rfl trivial, wp rfl (ltb rfl), ⟨_, rfl, Weak.refl _ _, under_eInts _ _⟩, wp rfl trivial, wp rfl trivial, ⟨_, rfl, Weak.refl _ _, under_eInts _ _⟩, wp rfl trivial, wp rfl trivial, trivial⟩, ⟨⟨congrArg (fun z => some (Blk.box [n' (edA a b (i + 1) 0), n' z, n' (edA a b i 2), n' (edA a b i 3), n' (edA a b i 4)] 114)) hs.symm, ltb rfl⟩, bk rfl rfl, trivial⟩, ⟨_, rfl, trivial, trivial, trivial, trivial, trivial, trivial⟩, ⟨_, rfl, under_row5 _ _⟩, trivial⟩
        | 1, _ =>
         refine Side.mk (by unfold fitsK; kernel_rfl) ?_
         refine If.mk (fun hxy => ?_) (fun hxy => ?_)
         ·refine ifN ?_
          refine Side.mk (by unfold fitsK; kernel_rfl) ?_
          rw [if_pos hxy] at hs
          exact ⟨leb rfl, rfl, hkb, trivial, ⟨⟨_, rfl, Weak.refl _ _, under_eInts _ _⟩, ⟨_, rfl, Weak.refl _ _, under_eInts _ _⟩, wp rfl (ltb rfl), wp rfl trivial, wp rfl (ltb rfl), ⟨_, rfl, Weak.refl _ _, under_eInts _ _⟩, wp rfl trivial, wp rfl trivial, ⟨_, rfl, Weak.refl _ _, under_eInts _ _⟩, wp rfl trivial, wp rfl trivial, trivial⟩, ⟨⟨congrArg (fun z => some (Blk.box [n' (edA a b (i + 1) 0), n' (edA a b (i + 1) 1), n' z, n' (edA a b i 3), n' (edA a b i 4)] 114)) hs.symm, ltb rfl⟩, bk rfl rfl, trivial⟩, ⟨_, rfl, trivial, trivial, trivial, trivial, trivial, trivial⟩, ⟨_, rfl, under_row5 _ _⟩, trivial⟩
         ·refine ifY ?_
          rw [if_neg hxy] at hs
          have b1 := hp i 1
          have b2 := hp i 2
          have b3 := hp (i + 1) 1
          have b4 : 0 ≤ edA a b (i + 1) (1 + 1) ∧ edA a b (i + 1) (1 + 1) ≤ 8 := hp (i + 1) (1 + 1)
          refine Side.mk (by unfold fitsK; kernel_rfl) ?_
          refine Side.mk (by unfold fitsK; kernel_rfl) ?_
          have hfit : fitsK IntKind.i64 (edA a b (i + 1) (1 + 1)) := fits64 (by generalize edA a b (i + 1) (_ + 1) = z at b4 ⊢; omega)
          rw [hs] at hfit
          refine Ex.mk _ rfl ?_
          refine Side.mk hfit ?_
          refine Side.mk (by unfold fitsK; kernel_rfl) ?_
          exact ⟨leb rfl, rfl, hkb, trivial, ⟨⟨_, rfl, Weak.refl _ _, under_eInts _ _⟩, ⟨_, rfl, Weak.refl _ _, under_eInts _ _⟩, wp rfl (ltb rfl), wp rfl trivial, wp rfl (ltb rfl), ⟨_, rfl, Weak.refl _ _, under_eInts _ _⟩, wp rfl trivial, wp rfl trivial, ⟨_, rfl, Weak.refl _ _, under_eInts _ _⟩, wp rfl trivial, wp rfl trivial, trivial⟩, ⟨⟨congrArg (fun z => some (Blk.box [n' (edA a b (i + 1) 0), n' (edA a b (i + 1) 1), n' z, n' (edA a b i 3), n' (edA a b i 4)] 114)) hs.symm, ltb rfl⟩, bk rfl rfl, trivial⟩, ⟨_, rfl, trivial, trivial, trivial, trivial, trivial, trivial⟩, ⟨_, rfl, under_row5 _ _⟩, trivial⟩
        | 2, _ =>
         refine Side.mk (by unfold fitsK; kernel_rfl) ?_
         refine If.mk (fun hxy => ?_) (fun hxy => ?_)
         ·refine ifN ?_
          refine Side.mk (by unfold fitsK; kernel_rfl) ?_
          rw [if_pos hxy] at hs
          exact ⟨leb rfl, rfl, hkb, trivial, ⟨⟨_, rfl, Weak.refl _ _, under_eInts _ _⟩, ⟨_, rfl, Weak.refl _ _, under_eInts _ _⟩, wp rfl (ltb rfl), wp rfl trivial, wp rfl (ltb rfl), ⟨_, rfl, Weak.refl _ _, under_eInts _ _⟩, wp rfl trivial, wp rfl trivial, ⟨_, rfl, Weak.refl _ _, under_eInts _ _⟩, wp rfl trivial, wp rfl trivial, trivial⟩, ⟨⟨congrArg (fun z => some (Blk.box [n' (edA a b (i + 1) 0), n' (edA a b (i + 1) 1), n' (edA a b (i + 1) 2), n' z, n' (edA a b i 4)] 114)) hs.symm, ltb rfl⟩, bk rfl rfl, trivial⟩, ⟨_, rfl, trivial, trivial, trivial, trivial, trivial, trivial⟩, ⟨_, rfl, under_row5 _ _⟩, trivial⟩
         ·refine ifY ?_
          rw [if_neg hxy] at hs
          have b1 := hp i 2
          have b2 := hp i 3
          have b3 := hp (i + 1) 2
          have b4 : 0 ≤ edA a b (i + 1) (2 + 1) ∧ edA a b (i + 1) (2 + 1) ≤ 8 := hp (i + 1) (2 + 1)
          refine Side.mk (by unfold fitsK; kernel_rfl) ?_
          refine Side.mk (by unfold fitsK; kernel_rfl) ?_
          have hfit : fitsK IntKind.i64 (edA a b (i + 1) (2 + 1)) := fits64 (by generalize edA a b (i + 1) (_ + 1) = z at b4 ⊢; omega)
          rw [hs] at hfit
          refine Ex.mk _ rfl ?_
          refine Side.mk hfit ?_
          refine Side.mk (by unfold fitsK; kernel_rfl) ?_
          exact ⟨leb rfl, rfl, hkb, trivial, ⟨⟨_, rfl, Weak.refl _ _, under_eInts _ _⟩, ⟨_, rfl, Weak.refl _ _, under_eInts _ _⟩, wp rfl (ltb rfl), wp rfl trivial, wp rfl (ltb rfl), ⟨_, rfl, Weak.refl _ _, under_eInts _ _⟩, wp rfl trivial, wp rfl trivial, ⟨_, rfl, Weak.refl _ _, under_eInts _ _⟩, wp rfl trivial, wp rfl trivial, trivial⟩, ⟨⟨congrArg (fun z => some (Blk.box [n' (edA a b (i + 1) 0), n' (edA a b (i + 1) 1), n' (edA a b (i + 1) 2), n' z, n' (edA a b i 4)] 114)) hs.symm, ltb rfl⟩, bk rfl rfl, trivial⟩, ⟨_, rfl, trivial, trivial, trivial, trivial, trivial, trivial⟩, ⟨_, rfl, under_row5 _ _⟩, trivial⟩
        | 3, _ =>
         refine Side.mk (by unfold fitsK; kernel_rfl) ?_
         refine If.mk (fun hxy => ?_) (fun hxy => ?_)
         ·refine ifN ?_
          refine Side.mk (by unfold fitsK; kernel_rfl) ?_
          rw [if_pos hxy] at hs
          exact ⟨leb rfl, rfl, hkb, trivial, ⟨⟨_, rfl, Weak.refl _ _, under_eInts _ _⟩, ⟨_, rfl, Weak.refl _ _, under_eInts _ _⟩, wp rfl (ltb rfl), wp rfl trivial, wp rfl (ltb rfl), ⟨_, rfl, Weak.refl _ _, under_eInts _ _⟩, wp rfl trivial, wp rfl trivial, ⟨_, rfl, Weak.refl _ _, under_eInts _ _⟩, wp rfl trivial, wp rfl trivial, trivial⟩, ⟨⟨congrArg (fun z => some (Blk.box [n' (edA a b (i + 1) 0), n' (edA a b (i + 1) 1), n' (edA a b (i + 1) 2), n' (edA a b (i + 1) 3), n' z] 114)) hs.symm, ltb rfl⟩, bk rfl rfl, trivial⟩, ⟨_, rfl, trivial, trivial, trivial, trivial, trivial, trivial⟩, ⟨_, rfl, under_row5 _ _⟩, trivial⟩
         ·refine ifY ?_
          rw [if_neg hxy] at hs
          have b1 := hp i 3
          have b2 := hp i 4
          have b3 := hp (i + 1) 3
          have b4 : 0 ≤ edA a b (i + 1) (3 + 1) ∧ edA a b (i + 1) (3 + 1) ≤ 8 := hp (i + 1) (3 + 1)
          refine Side.mk (by unfold fitsK; kernel_rfl) ?_
          refine Side.mk (by unfold fitsK; kernel_rfl) ?_
          have hfit : fitsK IntKind.i64 (edA a b (i + 1) (3 + 1)) := fits64 (by generalize edA a b (i + 1) (_ + 1) = z at b4 ⊢; omega)
          rw [hs] at hfit
          refine Ex.mk _ rfl ?_
          refine Side.mk hfit ?_
          refine Side.mk (by unfold fitsK; kernel_rfl) ?_
          exact ⟨leb rfl, rfl, hkb, trivial, ⟨⟨_, rfl, Weak.refl _ _, under_eInts _ _⟩, ⟨_, rfl, Weak.refl _ _, under_eInts _ _⟩, wp rfl (ltb rfl), wp rfl trivial, wp rfl (ltb rfl), ⟨_, rfl, Weak.refl _ _, under_eInts _ _⟩, wp rfl trivial, wp rfl trivial, ⟨_, rfl, Weak.refl _ _, under_eInts _ _⟩, wp rfl trivial, wp rfl trivial, trivial⟩, ⟨⟨congrArg (fun z => some (Blk.box [n' (edA a b (i + 1) 0), n' (edA a b (i + 1) 1), n' (edA a b (i + 1) 2), n' (edA a b (i + 1) 3), n' z] 114)) hs.symm, ltb rfl⟩, bk rfl rfl, trivial⟩, ⟨_, rfl, trivial, trivial, trivial, trivial, trivial, trivial⟩, ⟨_, rfl, under_row5 _ _⟩, trivial⟩
       ·refine ifN ?_
        refine ⟨leb rfl, ?_⟩
        obtain rfl : k = b.length := by omega
        refine Side.mk (fits64 (by omega)) ?_
        have hlast : edR a b i b.length = edA a b (i + 1) := by
         funext j
         unfold edR
         by_cases hj : j ≤ b.length
         ·rw [if_pos hj]
         ·rw [if_neg hj]
          unfold edA
          rw [if_neg hj, if_neg hj]
        exact ⟨leb rfl, rfl, hia, trivial, ⟨⟨_, rfl, Weak.refl _ _, under_eInts _ _⟩, ⟨_, rfl, Weak.refl _ _, under_eInts _ _⟩, wp rfl (ltb rfl), ⟨_, rfl, Weak.refl _ _, under_eInts _ _⟩, wp rfl trivial, wp rfl trivial, trivial⟩, ⟨⟨congrArg (fun f => some (Blk.box (row5 f) 114)) hlast, ltb rfl⟩, trivial⟩, ⟨_, rfl, under_row5 _ _⟩, trivial⟩
     ·refine ifN ?_
      refine ⟨leb rfl, ?_⟩
      obtain rfl : i = a.length := by omega
      have hres : edA a b a.length b.length = (edL a b : Nat) := by
       unfold edA
       rw [if_pos (Nat.le_refl _), List.take_length, List.take_length]
      have hn4 : n < 5 := by omega
      rw [hn] at hres
      match n, hn4 with
      | 0, _ =>
       exact ⟨.inl rfl, FinG.mk _ rfl rfl (congrArg n' hres)⟩
      | 1, _ =>
       exact ⟨.inl rfl, FinG.mk _ rfl rfl (congrArg n' hres)⟩
      | 2, _ =>
       exact ⟨.inl rfl, FinG.mk _ rfl rfl (congrArg n' hres)⟩
      | 3, _ =>
       exact ⟨.inl rfl, FinG.mk _ rfl rfl (congrArg n' hres)⟩
      | 4, _ =>
       exact ⟨.inl rfl, FinG.mk _ rfl rfl (congrArg n' hres)⟩
end Go.Vm

namespace Go.Vm
open Go.Proofs
def kk (a : Nat) : Nat := [0, 0, 1, 3, 6].getD a 0
end Go.Vm

namespace Go.Vm
open Go.Proofs
set_option maxRecDepth 100000 in
theorem c_cloneI00 (cap : Nat) (H : List Blk) : ACall Tryz.prog 112 [.lit (.slice none 0 cap)] H (.ret (.lit (.slice none 0 0))) H := by
 refine fn_rule (m := false) (fn := Tryz.f112) (c := (Tryz.f112.body).getD .skip) mixed (by kernel_rfl) (by kernel_rfl) (of_decide_eq_true (by kernel_rfl)) ?_ ?_ ?_ H
 ·exact ⟨trivial, trivial⟩
 ·trivial
 ·refine ifY ?_
  exact ⟨.inl rfl, FinG.mk _ rfl rfl rfl⟩
set_option maxRecDepth 100000 in
theorem c_cloneI01 (a : Addr) (cap : Nat) (H : List Blk) : ACall Tryz.prog 112 [.lit (.slice (some a) 0 cap)] H (.ret (.sl 0 [] .full)) H := by
 refine fn_rule (m := false) (fn := Tryz.f112) (c := (Tryz.f112.body).getD .skip) mixed (by kernel_rfl) (by kernel_rfl) (of_decide_eq_true (by kernel_rfl)) ?_ ?_ ?_ H
 ·exact ⟨trivial, trivial⟩
 ·exact ⟨trivial, trivial⟩
 ·refine ifN ?_
  refine Ex.mk _ rfl ?_
  exact ⟨.inl rfl, FinG.mk _ rfl rfl rfl⟩
set_option maxRecDepth 100000 in
theorem CallG.cloneI {l : List Int} {t : Trie Blk} {n : Nat} {K Kp : AV → Trie Blk → Nat → Nat → Prop} (hl : l.length < 1000000) (hn : n ≤ noLo) (k : K (.sl l.length (l.map n') (.own n 0 1)) (set t n (.row 0)) (n + 1) noLo) : CallG Tryz.prog 112 [eInts l] t n K Kp := by
 refine .ret fun H hH => ?_
 have hlen := hH.len
 have hrow : (H ++ [Blk.row 0])[n]? = some (.row 0) := by rw [← hlen]; simp
 cases l with
 | nil =>
  refine ⟨_, _, _, noLo, H ++ [.row 0], hH.push _, ?_, Keep.append _ _ _, k⟩
  refine ACall.empty fun b cap => ?_
  cases b with
  | none => exact (c_cloneI00 cap H).more (.row 0) (WeakH.own 1 hrow) rfl
  | some a => exact (c_cloneI01 a cap H).more (.row 0) (WeakH.fullOwn 1 hrow) rfl
 | cons e l =>
  have key : ∃ H', HT (setL t [(n, .row 0)]) (n + 1) H' ∧ ACall Tryz.prog 112 [eInts (e :: l)] H (.ret (.sl (e :: l).length ((e :: l).map n') (.own n 0 1))) H' ∧ Keep H H' noLo := by
   refine fn_new (m := false) (fn := Tryz.f112) (c := (Tryz.f112.body).getD .skip) mixed (by kernel_rfl) (by kernel_rfl) (of_decide_eq_true (by kernel_rfl)) ?_ H hH
   refine ifN ?_
   refine ex_app _ _ (appT_full (e := 3) (bytes := 8) (z := .int .i64 0) (by kernel_rfl) (by kernel_rfl) (by kernel_rfl) (by kernel_rfl) (by kernel_rfl) (src_ints _ (e :: l)) (by simp) rfl (by simp at hl ⊢; omega)) ?_
   refine ⟨.inl rfl, hn, rfl, ⟨⟨get_set_same _ _ _, Nat.lt_succ_self _⟩, trivial⟩, FinF.mk _ rfl rfl ?_⟩
   show AV.sl (0 + (e :: l).length) ([] ++ (e :: l).map n') _ = _
   rw [List.nil_append, Nat.zero_add]
  obtain ⟨H', h1, h2, h3⟩ := key
  exact ⟨_, _, _, noLo, H', h1, h2, h3, k⟩
end Go.Vm

namespace Go.Vm
open Go.Proofs
def r2 : List Bool := [false, true]
def cuesI (l : List Nat) : List Int := l.map fun c : Nat => (c : Int)
end Go.Vm

namespace Go.Vm
open Go.Proofs
abbrev Pos := (Int × Int × Int × Int) × (Bool × Bool × Bool × Bool × Bool × Bool)
end Go.Vm

namespace Go.Vm
open Go.Proofs
structure Bf where
 q : List (Pos × List Nat)
 met : List Pos
 g : Nat
end Go.Vm

namespace Go.Vm
open Go.Proofs
structure TellR (v w : Vers) (k : Nat) (o : Option (List Nat)) : Prop where
 no : o = none → ∀ u, OkL k u → plays v 0 (cuesI u) = plays w 0 (cuesI u)
 yes : ∀ l, o = some l → OkL k l ∧ plays v 0 (cuesI l) ≠ plays w 0 (cuesI l) ∧ ∀ u, OkL k u → plays v 0 (cuesI u) ≠ plays w 0 (cuesI u) → LE l u
end Go.Vm

namespace Go.Vm
open Go.Proofs
structure LeftOk (vs : List Vers) (L : List Int) : Prop where
 mem : ∀ n ∈ L, 0 ≤ n ∧ n < vs.length
 few : L.length ≤ 4
section
variable {vs : List Vers} {K : Nat} {L : List Int} (hv : ∀ v ∈ vs, VersOk v K) (hv0 : ∀ v ∈ vs, 0 < v.length) (hs : ∀ v ∈ vs, v.length ≤ 4) (hn : vs.length ≤ 4) (hL : LeftOk vs L)
end
end Go.Vm

namespace Go.Vm
open Go.Proofs
def Tells (v w : Vers) (i j : Nat) (u : List Nat) : Prop := plays v i (cuesI u) ≠ plays w j (cuesI u)
structure DOk (v w : Vers) (K r i j : Nat) (l : List Nat) : Prop where
 yes : l ≠ [] → OkL K l ∧ Tells v w i j l ∧ l.length ≤ r ∧ ∀ u, OkL K u → Tells v w i j u → LE l u
 no : l = [] → ∀ u, OkL K u → u.length ≤ r → ¬ Tells v w i j u
end Go.Vm

namespace Go.Vm
def From (a K : Nat) (u : List Nat) : Prop := Inc u ∧ ∀ x ∈ u, a ≤ x ∧ x < K
structure Fst (ok : List Nat → Bool) (K a m : Nat) (pre : List Nat) (o : Option (List Nat)) : Prop where
 yes : ∀ l, o = some l → ∃ u, l = pre ++ u ∧ u.length = m ∧ From a K u ∧ ok (pre ++ u) = true ∧ ∀ w, w.length = m → From a K w → ok (pre ++ w) = true → u = w ∨ Lx u w
 no : o = none → ∀ w, w.length = m → From a K w → ¬ ok (pre ++ w) = true
structure TmOk (S : List (List Int)) (K : Nat) : Prop where
 n : 1 ≤ S.length ∧ S.length ≤ 4
 k : 1 ≤ K ∧ K ≤ 4
 row : ∀ r ∈ S, r.length = K ∧ ∀ x ∈ r, 0 ≤ x ∧ x ≤ 5
section
variable {S : List (List Int)} {K : Nat} (h : TmOk S K)
include h
end
end Go.Vm

namespace Go.Vm
open Go.Proofs
theorem ix_cps {C : List (List Int)} {tl : Tail} {i : Int} {r : Nat} (hi : i = r) (h : r < C.length) : indexOp Tryz.prog 78 (.sl C.length (C.map eCp) tl) (.lit (.int .i64 i)) = some (.eptr [eCp C[r]]) :=
 ix_one (P := Tryz.prog) (e := 85) (f := eCp) (by kernel_rfl) (by kernel_rfl) hi h
set_option maxRecDepth 100000 in
theorem c_indexC {L0 : List (Nat × Blk)} {n0 : Nat} (hn : n0 ≤ noLo) (hL0 : Blks (get (ofL L0)) n0 L0) (fc : FuncId) (caps : List AV) (hcaps : AV.unders n0 caps) (p : List Int → Prop) [DecidablePred p] (l : List (List Int)) (hl : l.length < 4611686018427387904) (hcal : callable Tryz.prog fc = true)
  (hf : ∀ x ∈ l, ∀ H, HT (ofL L0) n0 H → ACall Tryz.prog fc (eCp x :: caps) H (.ret (.lit (.bool (decide (p x))))) H) (H : List Blk) (hH : HT (ofL L0) n0 H) : ACall Tryz.prog 175 [eCps l, clo fc caps] H (.ret (n' (idxOf p l))) H := by
 refine fn_at (m := false) (fn := Tryz.f175) (c := (Tryz.f175.body).getD .skip) mixed (by kernel_rfl) (by kernel_rfl) (of_decide_eq_true (by kernel_rfl)) rfl ?_ H hH
 refine loop_up mixed (m := false) (fun r => [(0, eCps l), (1, clo fc caps), (7, n' l.length), (8, n' r)]) (fun _ => L0) (fun r => ∀ x ∈ l.take r, ¬ p x) l.length noLo (leb rfl) (fun _ h => by simp at h) ?_ ?_ ?_
 ·exact ⟨⟨_, rfl, Weak.refl _ _, under_eCps _ _⟩, ⟨_, rfl, Weak.refl _ _, ⟨trivial, by rw [AV.unders_mem] at hcaps ⊢; exact fun a ha => AV.under_mono hn a (hcaps a ha)⟩⟩, wp rfl trivial, wp rfl trivial, trivial⟩
 ·exact hL0.mono hn
 ·intro r hr hI
  refine If.mk (fun h1 => ?_) (fun h1 => ?_)
  ·refine ifY ?_
   refine Ex.mk _ (ix_cps (r := r) rfl (by omega)) ?_
   refine Ex.mk _ rfl ?_
   have hr' : r < l.length := by omega
   refine bif_mk hcal ?_
   refine CallG.atB (p := p l[r]) (hf _ (List.getElem_mem hr')) (fun h => ?_) (fun h => ?_)
   ·refine ifY ?_
    refine ⟨leb rfl, .inl rfl, hn, FinF.mk _ rfl rfl ?_⟩
    show n' (r : Nat) = _
    rw [idx_hit hr' hI h]
   ·refine ifN ?_
    refine Side.mk (fits64 (by omega)) ?_
    refine ⟨leb rfl, rfl, hr', all_snoc (p := fun x => ¬ p x) hr' hI h, ⟨⟨_, rfl, Weak.refl _ _, under_eCps _ _⟩, ⟨_, rfl, Weak.refl _ _, ⟨trivial, hcaps⟩⟩, wp rfl trivial, wp rfl trivial, trivial⟩, hL0, ?_⟩
    rw [show n0 - noLo = 0 by omega]
    exact trivial
  ·refine ifN ?_
   refine ⟨leb rfl, .inl rfl, hn, FinF.mk _ rfl rfl ?_⟩
   show n' (-1) = _
   rw [idx_miss (all_end (p := fun x => ¬ p x) (by omega) hI)]
set_option maxRecDepth 100000 in
theorem c_containsC {L0 : List (Nat × Blk)} {n0 : Nat} (hn : n0 ≤ noLo) (hL0 : Blks (get (ofL L0)) n0 L0) (fc : FuncId) (caps : List AV) (hcaps : AV.unders n0 caps) (p : List Int → Prop) [DecidablePred p] (l : List (List Int)) (hl : l.length < 4611686018427387904) (hcal : callable Tryz.prog fc = true)
  (hf : ∀ x ∈ l, ∀ H, HT (ofL L0) n0 H → ACall Tryz.prog fc (eCp x :: caps) H (.ret (.lit (.bool (decide (p x))))) H) (H : List Blk) (hH : HT (ofL L0) n0 H) : ACall Tryz.prog 134 [eCps l, clo fc caps] H (.ret (.lit (.bool (decide (∃ x ∈ l, p x))))) H := by
 refine fn_at (m := false) (fn := Tryz.f134) (c := (Tryz.f134.body).getD .skip) mixed (by kernel_rfl) (by kernel_rfl) (of_decide_eq_true (by kernel_rfl)) rfl ?_ H hH
 refine CallG.at _ (c_indexC hn hL0 fc caps hcaps p l hl hcal hf) ?_
 refine If.mk (fun h1 => ?_) (fun h1 => ?_)
 ·refine ⟨.inl rfl, hn, FinF.bool rfl rfl ⟨fun _ => rfl, fun _ => idx_nonneg.1 h1⟩⟩
 ·refine ⟨.inl rfl, hn, FinF.bool rfl rfl ⟨fun x => absurd (idx_nonneg.2 x) h1, fun x => by cases x⟩⟩
set_option maxRecDepth 100000 in
theorem c_177 (C : List (List Int)) {l : List Int} (hl : LineOk l) (H2 : List Blk) : ACall Tryz.prog 177 [.agg [nb false, eInts l], .ptr 0 0] ([vbBox C] ++ H2) (.ret (nb false)) ([vbBox C] ++ H2) := by
 refine fn_pre (m := false) (fn := Tryz.f177) (c := (Tryz.f177.body).getD .skip) mixed (by kernel_rfl) (by kernel_rfl) (of_decide_eq_true (by kernel_rfl)) (HT.one _) ?_ ?_ rfl ?_ H2
 ·exact ⟨⟨trivial, under_eInts _ _, trivial⟩, ltb rfl, trivial⟩
 ·intro B hB
  simp at hB
  subst hB
  exact vbBox_under _ _
 ·refine CallG.pure _ (c_isLine C hl) ?_
  exact ⟨.inl rfl, leb rfl, FinF.mk _ rfl rfl rfl⟩
set_option maxRecDepth 100000 in
theorem c_isCopy {C : List (List Int)} (hC : VbOk C) {l : List Int} (hl : LineOk l) (H : List Blk) : ACall Tryz.prog 136 [eVB C, eCp l] H (.ret (nb true)) H := by
 refine fn_rule (m := false) (fn := Tryz.f136) (c := (Tryz.f136.body).getD .skip) mixed (by kernel_rfl) (by kernel_rfl) (of_decide_eq_true (by kernel_rfl)) ?_ ?_ ?_ H
 ·exact ⟨under_vbC 0 C, under_eCp _ _, trivial⟩
 ·exact trivial
 ·obtain ⟨c0, hc0⟩ : ∃ c, C[0]? = some c := ⟨_, List.getElem?_eq_getElem (by have := hC.n; omega)⟩
  refine Ex.mk _ (jx_cps (r := 0) rfl hc0) ?_
  refine Ex.mk _ rfl ?_
  refine If.mk (fun _ => ?_) (fun h => absurd (by decide) h)
  refine CallG.inline (m := false) (fn := Tryz.f176) (c := (Tryz.f176.body).getD .skip) mixed (by kernel_rfl) (by kernel_rfl) (of_decide_eq_true (by kernel_rfl)) ?_
  refine CallG.inline (m := false) (fn := Tryz.f191) (c := (Tryz.f191.body).getD .skip) mixed (by kernel_rfl) (by kernel_rfl) (of_decide_eq_true (by kernel_rfl)) ?_
  refine LoopG.round (m := false) mixed ?_
  refine If.mk (fun _ => ?_) (fun h => absurd (by decide) h)
  refine ifY ?_
  refine Ex.mk _ rfl ?_
  refine Ex.mk _ rfl ?_
  refine CallG.at _ (fun H hH => by obtain ⟨H2, rfl⟩ := hH.first rfl; exact c_177 C hl H2) ?_
  refine ifN ?_
  refine Side.mk (by unfold fitsK; kernel_rfl) ?_
  refine LoopG.round (m := false) mixed ?_
  refine If.mk (fun h => absurd h (by decide)) (fun _ => ?_)
  refine ifN ?_
  refine ⟨.inl rfl, _, rfl, rfl, ?_⟩
  refine If.mk (fun h => absurd h (by decide)) (fun _ => ?_)
  refine ⟨.inl rfl, _, rfl, rfl, ?_⟩
  exact ⟨.inl rfl, FinG.mk _ rfl rfl rfl⟩
set_option maxRecDepth 100000 in
theorem c_135 {C : List (List Int)} (hC : VbOk C) {l : List Int} (hl : LineOk l) {n0 : Nat} (hn : n0 ≤ noLo) (H : List Blk) (hH : HT (ofL [(0, vbBox C)]) n0 H) : ACall Tryz.prog 135 [eCp l, .ptr 0 0] H (.ret (.lit (.bool (decide False)))) H := by
 refine fn_at (m := false) (fn := Tryz.f135) (c := (Tryz.f135.body).getD .skip) mixed (by kernel_rfl) (by kernel_rfl) (of_decide_eq_true (by kernel_rfl)) rfl ?_ H hH
 refine CallG.pure _ (c_isCopy hC hl) ?_
 exact ⟨.inl rfl, hn, FinF.mk _ rfl rfl rfl⟩
set_option maxRecDepth 100000 in
theorem c_vBook {C : List (List Int)} (hC : VbOk C) (H : List Blk) : ACall Tryz.prog 80 [eVB C] H (.ret (nb true)) H := by
 have hn := hC.n
 have hno : ¬ ∃ c ∈ C, False := fun ⟨_, _, h⟩ => h
 refine fn_rule (m := false) (fn := Tryz.f80) (c := (Tryz.f80.body).getD .skip) mixed (by kernel_rfl) (by kernel_rfl) (of_decide_eq_true (by kernel_rfl)) ?_ ?_ ?_ H
 ·exact ⟨under_vbC 0 C, trivial⟩
 ·exact trivial
 ·obtain ⟨c0, hc0⟩ : ∃ c, C[0]? = some c := ⟨_, List.getElem?_eq_getElem (by omega)⟩
  refine CallG.bool (c_vin 3 1 3) (fun _ => ?_) (fun h => absurd (by decide) h)
  refine CallG.bool (c_vin _ 1 5) (fun _ => ?_) (fun h => absurd (by omega) h)
  refine Ex.mk _ (jx_cps (r := 0) rfl hc0) ?_
  refine Ex.mk _ rfl ?_
  refine CallG.bool (c_vin 1 1 4) (fun _ => ?_) (fun h => absurd (by decide) h)
  refine CallG.fresh (n0 := 1) [eCps C, clo 135 [.ptr 0 0]] [(0, vbBox C)] rfl (.cons (fun H => WeakH.refl _ H) (.cons (fun H => WeakH.refl _ H) .nil)) ⟨bk rfl rfl, trivial⟩ ?_
  refine CallG.atB (p := ∃ c ∈ C, False) (fun H hH => c_containsC (n0 := 1) (L0 := [(0, vbBox C)]) (leb rfl) ⟨bk rfl rfl, trivial⟩ 135 [.ptr 0 0] ⟨ltb rfl, trivial⟩ (fun _ => False) C (by omega) rfl (fun x hx H hH => c_135 hC (hC.line x hx) (leb rfl) H hH) H (hH.sub ⟨bk rfl rfl, trivial⟩)) (fun h4 => absurd h4 hno) (fun _ => ?_)
  exact ⟨.inl rfl, FinG.mk _ rfl rfl rfl⟩
set_option maxRecDepth 100000 in
theorem c_hasLine {C : List (List Int)} (hC : VbOk C) (H : List Blk) : ACall Tryz.prog 81 [eVB C, n' 0] H (.ret (nb true)) H := by
 refine fn_rule (m := false) (fn := Tryz.f81) (c := (Tryz.f81.body).getD .skip) mixed (by kernel_rfl) (by kernel_rfl) (of_decide_eq_true (by kernel_rfl)) ?_ ?_ ?_ H
 ·exact ⟨under_vbC 0 C, trivial, trivial⟩
 ·exact trivial
 ·obtain ⟨c0, hc0⟩ : ∃ c, C[0]? = some c := ⟨_, List.getElem?_eq_getElem (by have := hC.n; omega)⟩
  refine Ex.mk _ (jx_cps (r := 0) rfl hc0) ?_
  refine Ex.mk _ rfl ?_
  refine Side.mk (by unfold fitsK; kernel_rfl) ?_
  refine CallG.bool (c_vin 0 0 _) (fun _ => ?_) (fun h => absurd (by decide) h)
  exact ⟨.inl rfl, FinG.mk _ rfl rfl rfl⟩
set_option maxRecDepth 100000 in
theorem c_Changes {C : List (List Int)} (hC : VbOk C) {a b : List Int} (ha : LineOk a) (hb : LineOk b) (H : List Blk) : ACall Tryz.prog 34 [eVB C, eInts a, eInts b] H (.ret (.tup [n' (edL a b : Nat), n' 0])) H := by
 refine fn_rule (m := false) (fn := Tryz.f34) (c := (Tryz.f34.body).getD .skip) mixed (by kernel_rfl) (by kernel_rfl) (of_decide_eq_true (by kernel_rfl)) ?_ ?_ ?_ H
 ·exact ⟨under_vbC 0 C, under_eInts _ _, under_eInts _ _, trivial⟩
 ·exact ⟨trivial, trivial, trivial⟩
 ·refine CallG.pure _ (c_vBook hC) ?_
  refine CallG.pure _ (c_isLine C ha) ?_
  refine CallG.pure _ (c_isLine C hb) ?_
  refine ifN ?_
  refine CallG.pure _ (c_between ha.1 hb.1) ?_
  exact ⟨.inl rfl, FinG.mk _ rfl rfl rfl⟩
def sumI (l : List Int) : Int := l.foldl (· + ·) 0
theorem sumI_snoc (l : List Int) (x : Int) : sumI (l ++ [x]) = sumI l + x := by unfold sumI; rw [List.foldl_append]; rfl
set_option maxRecDepth 100000 in
theorem c_vsum {l : List Int} (hl : l.length ≤ 5) (hx : ∀ x ∈ l, 0 ≤ x ∧ x ≤ 100) (H : List Blk) : ACall Tryz.prog 85 [eInts l] H (.ret (n' (sumI l))) H := by
 refine fn_rule (m := false) (fn := Tryz.f85) (c := (Tryz.f85.body).getD .skip) mixed (by kernel_rfl) (by kernel_rfl) (of_decide_eq_true (by kernel_rfl)) ?_ ?_ ?_ H
 ·exact ⟨under_eInts _ _, trivial⟩
 ·exact trivial
 ·refine LoopG.at (n0 := 0) rfl ?_
  refine loop_up mixed (m := false) (fun r => [(3, n' (sumI (l.take r))), (6, eInts l), (7, n' l.length), (8, n' r)]) (fun _ => []) (fun r => 0 ≤ sumI (l.take r) ∧ sumI (l.take r) ≤ 100 * r) l.length 0 (leb rfl) ⟨Int.le_refl _, Int.le_refl _⟩ ?_ trivial ?_
  ·exact ⟨wp rfl trivial, ⟨_, rfl, Weak.refl _ _, under_eInts _ _⟩, wp rfl trivial, wp rfl trivial, trivial⟩
  ·intro r hr hI
   refine If.mk (fun h1 => ?_) (fun h1 => ?_)
   ·refine ifY ?_
    obtain ⟨x, hxr, etk, hxm⟩ := at_some (l := l) (r := r) (by omega)
    have hx1 := hx x hxm
    have es : sumI (l.take (r + 1)) = sumI (l.take r) + x := by rw [etk, sumI_snoc]
    refine Ex.mk _ (jx_ints (r := r) rfl hxr) ?_
    refine Ex.mk _ rfl ?_
    refine Side.mk (fits64 (by omega)) ?_
    refine Side.mk (fits64 (by omega)) ?_
    refine ⟨leb rfl, rfl, by omega, by omega, ⟨⟨_, rfl, Weak.of_eq (congrArg n' es.symm), trivial⟩, ⟨_, rfl, Weak.refl _ _, under_eInts _ _⟩, wp rfl trivial, wp rfl trivial, trivial⟩, trivial, trivial⟩
   ·refine ifN ?_
    obtain rfl : r = l.length := by omega
    exact ⟨leb rfl, .inl rfl, FinG.mk _ rfl rfl (congrArg n' (by rw [List.take_length]))⟩
def pgC (C : List (List Int)) : List AV := [n' 3, eCps C, n' 0]
def ePg (C : List (List Int)) : AV := .agg (pgC C)
theorem under_pgC (n : Nat) (C : List (List Int)) : AV.unders n (pgC C) := ⟨trivial, under_eCps _ _, trivial, trivial⟩
theorem app_line {g : Nat → Option Blk} {n len id gen : Nat} {cells : List AV} {l : List Int} (h1 : cells.length = len) (h2 : len < 2097152) (hg : g id = some (.row gen)) :
  appT Tryz.prog false g n 38 38 (.sl len cells (.own id gen 1)) (.sl 1 [eInts l] .full) = some (.sl (len + 1) (cells ++ [eInts l]) (.own id (gen + 1) 1), .set id (.row (gen + 1))) :=
 appT_own (e := 30) (bytes := 24) (z := .slice none 0 0) (by kernel_rfl) (by kernel_rfl) (by kernel_rfl) (by kernel_rfl) (by kernel_rfl) rfl (by omega) (by omega) (by omega) hg rfl
theorem freeze_lists (g : Nat → Option Blk) (L : List (List Int)) (a b c : Nat) : AV.freeze g (.sl L.length (L.map eInts) (.own a b c)) = eLists L := by
 show AV.sl L.length (AV.freezes g (L.map eInts)) .unk = eLists L
 rw [freezes_map (f := eInts) (fun x => by
  show AV.sl x.length (AV.freezes g (x.map n')) .unk = eInts x
  rw [freezes_ints]
  rfl)]
 rfl
theorem sumI_map (C : List (List Int)) (l : List Int) (a : Int) : (C.map fun c => ((edL l c : Nat) : Int)).foldl (· + ·) a = a + (sumE C l : Nat) := by
 unfold sumE
 induction C generalizing a with
 | nil => simp
 | cons c C ih =>
  rw [List.map_cons, List.foldl_cons, ih, List.map_cons, List.sum_cons]
  omega
theorem sumI_sumE (C : List (List Int)) (l : List Int) : sumI (C.map fun c => ((edL l c : Nat) : Int)) = (sumE C l : Nat) := by
 unfold sumI
 rw [sumI_map]
 omega
set_option maxRecDepth 100000 in
theorem c_kept {C : List (List Int)} (hC : VbOk C) (H : List Blk) : ACall Tryz.prog 192 [ePg C] H (.ret (eLists C)) H := by
 have hn := hC.n
 refine fn_rule (m := false) (fn := Tryz.f192) (c := (Tryz.f192.body).getD .skip) mixed (by kernel_rfl) (by kernel_rfl) (of_decide_eq_true (by kernel_rfl)) ?_ ?_ ?_ H
 ·exact ⟨under_pgC 0 C, trivial⟩
 ·exact under_eLists _ _
 ·refine LoopG.ghost (LoopG.at (n0 := 2) rfl ?_)
  refine loop_up mixed (m := false) (fun r => [(1, .ptr 0 0), (3, .sl r ((C.take r).map eInts) (.own 1 r 1)), (8, eCps C), (9, n' C.length), (10, n' r)]) (fun r => [(0, .box (pgC C) 150), (1, .row r)]) (fun _ => True) C.length 1 (leb rfl) trivial ?_ ?_ ?_
  ·exact ⟨wp rfl (ltb rfl), ⟨_, rfl, Weak.own (r := 1) (g := 0) 1 rfl, ⟨trivial, ltb rfl⟩⟩, ⟨_, rfl, Weak.refl _ _, under_eCps _ _⟩, wp rfl trivial, wp rfl trivial, trivial⟩
  ·exact ⟨bk rfl rfl, bk rfl rfl, trivial⟩
  ·intro r hr _
   refine If.mk (fun h1 => ?_) (fun h1 => ?_)
   ·refine ifY ?_
    obtain ⟨c, hc, etk, _⟩ := at_some (l := C) (r := r) (by omega)
    refine Ex.mk _ (jx_cps (r := r) rfl hc) ?_
    refine Ex.mk _ rfl ?_
    refine Ex.mk _ rfl ?_
    refine Ex.mk _ rfl ?_
    refine ifY ?_
    refine Ex.mk _ rfl ?_
    refine Ex.mk _ rfl ?_
    refine ex_app _ _ (app_line (by rw [List.length_map, List.length_take]; omega) (by omega) rfl) ?_
    refine Side.mk (fits64 (by omega)) ?_
    have e : (C.take r).map eInts ++ [eInts c] = (C.take (r + 1)).map eInts := by rw [etk]; simp
    exact ⟨leb rfl, rfl, by omega, trivial, ⟨wp rfl (ltb rfl), ⟨_, rfl, Weak.of_eq (congrArg (fun z => AV.sl (r + 1) z (.own 1 (r + 1) 1)) e), ⟨unders_map (under_eInts _) _, ltb rfl⟩⟩, ⟨_, rfl, Weak.refl _ _, under_eCps _ _⟩, wp rfl trivial, wp rfl trivial, trivial⟩, ⟨bk rfl rfl, bk rfl rfl, trivial⟩, ⟨_, rfl, trivial⟩, trivial⟩
   ·refine ifN ?_
    obtain rfl : r = C.length := by omega
    refine ⟨leb rfl, .inl rfl, FinG.mk _ rfl rfl ?_⟩
    show AV.freeze _ (.sl C.length ((C.take C.length).map eInts) (.own 1 C.length 1)) = eLists C
    rw [List.take_length]
    exact freeze_lists _ C _ _ _
set_option maxRecDepth 100000 in
theorem c_vchanges {C : List (List Int)} (hC : VbOk C) {l : List Int} (hl : LineOk l) (H : List Blk) : ACall Tryz.prog 178 [ePg C, eInts l] H (.ret (n' (sumE C l : Nat))) H := by
 have hn := hC.n
 have hle : ∀ c ∈ C, edL l c ≤ 8 := fun c hc => by
  have := ed_le l c
  have := hl.1
  have := (hC.line c hc).1
  omega
 refine fn_rule (m := false) (fn := Tryz.f178) (c := (Tryz.f178.body).getD .skip) mixed (by kernel_rfl) (by kernel_rfl) (of_decide_eq_true (by kernel_rfl)) ?_ ?_ ?_ H
 ·exact ⟨under_pgC 0 C, under_eInts _ _, trivial⟩
 ·exact trivial
 ·refine CallG.pure _ (c_kept hC) ?_
  refine LoopG.ghost (LoopG.at (n0 := 2) rfl ?_)
  refine LoopG.after ?_
  refine loop_up mixed (m := false) (fun r => [(1, eInts l), (5, .sl r (((C.take r).map fun c => ((edL l c : Nat) : Int)).map n') (.own 1 r 1)), (9, eLists C), (10, n' C.length), (11, n' r)]) (fun r => [(0, .box (pgC C) 150), (1, .row r)]) (fun _ => True) C.length 1 (leb rfl) trivial ?_ ?_ ?_
  ·exact ⟨⟨_, rfl, Weak.refl _ _, under_eInts _ _⟩, ⟨_, rfl, Weak.own (r := 1) (g := 0) 1 rfl, ⟨trivial, ltb rfl⟩⟩, ⟨_, rfl, Weak.refl _ _, under_eLists _ _⟩, wp rfl trivial, wp rfl trivial, trivial⟩
  ·exact ⟨bk rfl rfl, bk rfl rfl, trivial⟩
  ·intro r hr _
   refine If.mk (fun h1 => ?_) (fun h1 => ?_)
   ·refine ifY ?_
    obtain ⟨c, hc, etk, hcm⟩ := at_some (l := C) (r := r) (by omega)
    refine Ex.mk _ (jx_lists (r := r) rfl hc) ?_
    refine Ex.mk _ rfl ?_
    refine CallG.pure _ (c_between hl.1 (hC.line c hcm).1) ?_
    refine ex_app _ _ (app_int (by rw [List.length_map, List.length_map, List.length_take]; omega) (by omega) rfl) ?_
    refine Side.mk (fits64 (by omega)) ?_
    have e : ((C.take r).map fun c => ((edL l c : Nat) : Int)).map n' ++ [n' ((edL l c : Nat) : Int)] = ((C.take (r + 1)).map fun c => ((edL l c : Nat) : Int)).map n' := by rw [etk]; simp
    exact ⟨leb rfl, rfl, by omega, trivial, ⟨⟨_, rfl, Weak.refl _ _, under_eInts _ _⟩, ⟨_, rfl, Weak.of_eq (congrArg (fun z => AV.sl (r + 1) z (.own 1 (r + 1) 1)) e), ⟨under_ints _ _, ltb rfl⟩⟩, ⟨_, rfl, Weak.refl _ _, under_eLists _ _⟩, wp rfl trivial, wp rfl trivial, trivial⟩, ⟨bk rfl rfl, bk rfl rfl, trivial⟩, ⟨_, rfl, trivial⟩, trivial⟩
   ·refine ifN ?_
    obtain rfl : r = C.length := by omega
    refine ⟨leb rfl, .inr ⟨[(5, eInts (C.map fun c => ((edL l c : Nat) : Int)))], ⟨⟨_, rfl, ?_⟩, trivial⟩, ?_⟩⟩
    ·have e : eInts (C.map fun c => ((edL l c : Nat) : Int)) = .sl C.length (((C.take C.length).map fun c => ((edL l c : Nat) : Int)).map n') .unk := by
      rw [List.take_length]; unfold eInts; rw [List.length_map]
     rw [e]
     exact Weak.tail _ _ _ _
    have es : sumI (C.map fun c => ((edL l c : Nat) : Int)) = (sumE C l : Nat) := sumI_sumE C l
    refine CallG.pure _ (c_vsum (l := C.map fun c => ((edL l c : Nat) : Int)) (by rw [List.length_map]; omega) (fun x hx => ?_)) ?_
    ·obtain ⟨c, hc, rfl⟩ := List.mem_map.1 hx
     have := hle c hc
     omega
    exact ⟨.inl rfl, FinG.mk _ rfl rfl (congrArg n' es)⟩
end Go.Vm
