/-
  What a cue comes to over all tunes, for books and evenings as told at each, in every heap. Conditions: at each theorem.
-/
import Derived.Test.YtdhdaadoehbopaaGreatDoorCz
import Derived.Test.YtdhdaadoehbopaaGreatDoorDb

namespace Go.Vm
open Go.Proofs
section
variable {vs : List Vers} {K T : Nat} (G : GameOk vs K T) {p : P4} (hp : P4Ok vs p)
include G hp
theorem GameOk.best_le {c n : Nat} (h : BestQ vs K T p c n) {x j : Nat} (hx : x < K) (hj : ∀ y ∈ succ4 vs T p x, ∃ m, Val (base4 vs K) (succ4 vs T) K y m ∧ m + 1 ≤ j) : n ≤ j ∧ (x < c → n < j) := by
 obtain ⟨y, hy⟩ := List.exists_mem_of_ne_nil _ (G.ne' hp h.nb hx)
 obtain ⟨m, _, hm⟩ := hj y hy
 obtain ⟨e, rfl⟩ : ∃ e, j = e + 1 := ⟨j - 1, by omega⟩
 have hw : win (base4 vs K) (succ4 vs T) K (e + 1) p := .inr ⟨x, hx, fun z hz => by
  obtain ⟨m, hV, hm⟩ := hj z hz
  exact win_mono hV.1 (by omega)⟩
 have h1 := h.val.2 _ hw
 refine ⟨h1, fun hxc => ?_⟩
 rcases Nat.lt_or_ge n (e + 1) with h2 | h2
 ·exact h2
 ·obtain rfl : n = e + 1 := by omega
  exact absurd hj (h.min x hxc)
omit G hp in
theorem BestQ.pos {c n : Nat} (h : BestQ vs K T p c n) : 0 < n := by
 rcases Nat.eq_zero_or_pos n with h0 | h0
 ·subst h0
  exact absurd (Val.zero.1 h.val) h.nb
 ·exact h0
omit G hp in
theorem all_bound {l : List P4} (h : ∀ y ∈ l, ∃ m, Val (base4 vs K) (succ4 vs T) K y m) : ∃ j, ∀ y ∈ l, ∃ m, Val (base4 vs K) (succ4 vs T) K y m ∧ m ≤ j := by
 induction l with
 | nil => exact ⟨0, fun y hy => by cases hy⟩
 | cons x l ih =>
  obtain ⟨j, hj⟩ := ih fun y hy => h y (by simp [hy])
  obtain ⟨m, hm⟩ := h x (by simp)
  refine ⟨max j m, fun y hy => ?_⟩
  rcases List.mem_cons.1 hy with rfl | hy
  ·exact ⟨m, hm, by omega⟩
  ·obtain ⟨k, hk, hk2⟩ := hj y hy
   exact ⟨k, hk, by omega⟩
omit G hp in
theorem none_all (hno : ∀ n, ¬ win (base4 vs K) (succ4 vs T) K n p) {x : Nat} (hx : x < K) : ¬ ∀ y ∈ succ4 vs T p x, ∃ m, Val (base4 vs K) (succ4 vs T) K y m := fun h => by
 obtain ⟨j, hj⟩ := all_bound h
 exact hno (j + 1) (.inr ⟨x, hx, fun y hy => by
  obtain ⟨m, hV, hm⟩ := hj y hy
  exact win_mono hV.1 hm⟩)
end
open Classical in
noncomputable def valO (vs : List Vers) (K T : Nat) (y : P4) : Option Nat := if h : ∃ n, Val (base4 vs K) (succ4 vs T) K y n then some h.choose else none
theorem valO_some {vs : List Vers} {K T n : Nat} {y : P4} (h : Val (base4 vs K) (succ4 vs T) K y n) : valO vs K T y = some n := by
 have hx : ∃ n, Val (base4 vs K) (succ4 vs T) K y n := ⟨n, h⟩
 unfold valO
 rw [dif_pos hx, hx.choose_spec.unique h]
theorem valO_none {vs : List Vers} {K T : Nat} {y : P4} (h : ∀ n, ¬ win (base4 vs K) (succ4 vs T) K n y) : valO vs K T y = none := by
 unfold valO
 rw [dif_neg fun ⟨n, hV⟩ => h n hV.1]
theorem valO_val {vs : List Vers} {K T n : Nat} {y : P4} (h : valO vs K T y = some n) : Val (base4 vs K) (succ4 vs T) K y n := by
 unfold valO at h
 split at h
 ·rename_i hx
  rw [← Option.some.inj h]
  exact hx.choose_spec
 ·cases h
noncomputable def wgS (vs : List Vers) (K T : Nat) (y : P4) (s : Int × Bool) : Int × Bool := match valO vs K T y with
 | none => (-1, true)
 | some n => (if 0 ≤ s.1 then max s.1 n else s.1, true)
noncomputable def wgF (vs : List Vers) (K T : Nat) (p : P4) (c : Nat) : Nat → Int × Bool
 | 0 => (0, false)
 | t + 1 => if some4 (sp4 vs c t p) = true then wgS vs K T (sp4 vs c t p) (wgF vs K T p c t) else wgF vs K T p c t
structure WgOk (vs : List Vers) (K T : Nat) (l : List P4) (s : Int × Bool) : Prop where
 met : s.2 = true ↔ l ≠ []
 low : -1 ≤ s.1
 all : 0 ≤ s.1 → ∀ y ∈ l, ∃ m, Val (base4 vs K) (succ4 vs T) K y m ∧ (m : Int) ≤ s.1
 top : 0 < s.1 → ∃ y ∈ l, Val (base4 vs K) (succ4 vs T) K y s.1.toNat
 neg : s.1 = -1 → ¬ ∀ y ∈ l, ∃ m, Val (base4 vs K) (succ4 vs T) K y m
theorem WgOk.step {vs : List Vers} {K T : Nat} {l : List P4} {s : Int × Bool} (h : WgOk vs K T l s) (y : P4) : WgOk vs K T (l ++ [y]) (wgS vs K T y s) := by
 unfold wgS
 cases hv : valO vs K T y with
 | none =>
  refine ⟨⟨fun _ => by simp, fun _ => rfl⟩, Int.le_refl _, fun h0 => absurd h0 (show ¬ (0 : Int) ≤ -1 by decide), fun h0 => absurd h0 (show ¬ (0 : Int) < -1 by decide), fun _ hall => ?_⟩
  obtain ⟨m, hm⟩ := hall y (by simp)
  rw [valO_some hm] at hv
  cases hv
 | some n =>
  have hV := valO_val hv
  have hlow := h.low
  by_cases h0 : 0 ≤ s.1
  ·simp only [if_pos h0]
   refine ⟨⟨fun _ => by simp, fun _ => rfl⟩, by show -1 ≤ max s.1 (n : Int); omega, fun _ z hz => ?_, fun h1 => ?_, fun h1 => ?_⟩
   ·show ∃ m : Nat, _ ∧ (m : Int) ≤ max s.1 (n : Int)
    rcases List.mem_append.1 hz with hz | hz
    ·obtain ⟨m, h2, h3⟩ := h.all h0 z hz
     exact ⟨m, h2, by omega⟩
    ·rw [List.mem_singleton] at hz
     subst hz
     exact ⟨n, hV, by omega⟩
   ·have h1 : 0 < max s.1 (n : Int) := h1
    show ∃ z ∈ l ++ [y], Val _ _ K z (max s.1 (n : Int)).toNat
    rcases Int.lt_or_le s.1 (n : Int) with h2 | h2
    ·refine ⟨y, by simp, ?_⟩
     rw [show (max s.1 (n : Int)).toNat = n by omega]
     exact hV
    ·obtain ⟨z, hz, h3⟩ := h.top (by omega)
     refine ⟨z, by simp [hz], ?_⟩
     rw [show max s.1 (n : Int) = s.1 by omega]
     exact h3
   ·have h1 : max s.1 (n : Int) = -1 := h1
    omega
  ·simp only [if_neg h0]
   refine ⟨⟨fun _ => by simp, fun _ => rfl⟩, hlow, fun h1 => absurd h1 h0, fun h1 => absurd (Int.le_of_lt h1) h0, fun h1 hall => h.neg h1 fun z hz => hall z (by simp [hz])⟩
theorem wgF_ok {vs : List Vers} {K T : Nat} {p : P4} {c : Nat} : ∀ t : Nat, WgOk vs K T (((List.range t).map fun t => sp4 vs c t p).filter some4) (wgF vs K T p c t)
 | 0 => ⟨⟨fun h => (by cases h), fun h => absurd rfl h⟩, (show (-1 : Int) ≤ 0 by decide), fun _ y hy => (by cases hy), fun h => absurd h (show ¬ (0 : Int) < 0 by decide), fun h => absurd h (show ¬ (0 : Int) = -1 by decide)⟩
 | t + 1 => by
  have ih := wgF_ok (vs := vs) (K := K) (T := T) (p := p) (c := c) t
  rw [List.range_succ, List.map_append, List.filter_append, List.map_cons, List.map_nil, List.filter_cons, List.filter_nil]
  show WgOk vs K T _ (if some4 (sp4 vs c t p) = true then _ else _)
  by_cases h : some4 (sp4 vs c t p) = true
  ·rw [if_pos h, if_pos h]
   exact ih.step _
  ·rw [if_neg h, if_neg h, List.append_nil]
   exact ih
end Go.Vm

namespace Go.Vm
open Go.Proofs
theorem wk_snocQ {x : List Int} {a : Int} {tl : Tail} (H : List Blk) : WeakH H (.sl (x.length + 1) (x.map n' ++ [n' a]) tl) (eInts (x ++ [a])) := by
 have e : eInts (x ++ [a]) = .sl (x.length + 1) (x.map n' ++ [n' a]) .unk := by
  unfold eInts
  rw [List.length_append, List.map_append]; rfl
 rw [e]
 exact WeakH.tail _ _ _ H
theorem max_i (a b : Int) : AV.lit (.int .i64 (if b > a then b else a)) = n' (max a b) := by
 refine congrArg n' ?_
 split <;> omega
theorem ev_next {b : Book} {nc nt : List Int} (hN : EvOk b (nc, nt)) (hn : nc.length < 8) {c t : Nat} (hc : c < b.cues.toNat) (ht : t < b.tunes.toNat) : EvOk b (nc ++ [(c : Int)], nt ++ [(t : Int)]) := by
 obtain ⟨⟨⟨h1, h2⟩, ⟨h3, h4⟩⟩, h5⟩ := hN
 have h5 : (nc.length : Int) = nt.length := h5
 refine ⟨⟨⟨?_, fun x hx => ?_⟩, ⟨fun x hx => ?_, ?_⟩⟩, ?_⟩
 ·show ((nc ++ [(c : Int)]).length : Int) ≤ 8
  rw [List.length_append, List.length_singleton]
  omega
 ·rcases List.mem_append.1 hx with hx | hx
  ·exact h2 x hx
  ·rw [List.mem_singleton] at hx
   subst hx
   unfold inI
   omega
 ·rcases List.mem_append.1 hx with hx | hx
  ·exact h3 x hx
  ·rw [List.mem_singleton] at hx
   subst hx
   intro _
   unfold inI
   omega
 ·show ((nt ++ [(t : Int)]).length : Int) ≤ 8
  rw [List.length_append, List.length_singleton]
  omega
 ·show ((nc ++ [(c : Int)]).length : Int) = (nt ++ [(t : Int)]).length
  rw [List.length_append, List.length_append, List.length_singleton, List.length_singleton]
  omega
set_option maxHeartbeats 16000000 in
set_option maxRecDepth 100000 in
theorem c_worstL {b : Book} (hl : BLen b) (hB : BOk b) {evs : List Evening} (hE : EvsOk b evs) {nc nt : List Int} (hN : EvOk b (nc, nt)) (hn8 : nc.length < 8) {l : List Nat} (hlo : OkL b.cues.toNat l) (hcu : nc = cuesI l) {c : Nat} (hc : c < b.cues.toNat) (H : List Blk) :
  ACall Tryz.prog 61 [eBook b, eEvenings evs, eEvening (nc, nt), n' c] H (.ret (.tup [n' (wgF b.vs b.cues.toNat b.tunes.toNat (stP b.vs (remL b.vs (evs ++ [(nc, nt)]) b.vs.length) l) c b.tunes.toNat).1, nb (wgF b.vs b.cues.toNat b.tunes.toNat (stP b.vs (remL b.vs (evs ++ [(nc, nt)]) b.vs.length) l) c b.tunes.toNat).2])) H := by
 have G := hB.game
 have htu := hB.1.2.1
 unfold inI at htu
 have hlen : nc.length = nt.length := by
  have := hN.2
  have h5 : (nc.length : Int) = nt.length := this
  omega
 refine fn_rule (m := false) (fn := Tryz.f61) (c := (Tryz.f61.body).getD .skip) mixed (by kernel_rfl) (by kernel_rfl) (of_decide_eq_true (by kernel_rfl)) ?_ ?_ ?_ H
 ·exact ⟨under_eBook 0 _, under_eEvenings 0 _, under_eEvening 0 _, trivial, trivial⟩
 ·exact ⟨trivial, trivial, trivial⟩
 ·refine LoopG.at (n0 := 2) rfl (loop_up mixed (m := false) (fun t => [(1, eEvenings evs), (3, n' c), (4, .ptr 0 0), (6, .ptr 1 0), (10, n' (wgF b.vs b.cues.toNat b.tunes.toNat (stP b.vs (remL b.vs (evs ++ [(nc, nt)]) b.vs.length) l) c t).1), (11, nb (wgF b.vs b.cues.toNat b.tunes.toNat (stP b.vs (remL b.vs (evs ++ [(nc, nt)]) b.vs.length) l) c t).2), (12, n' t)]) (fun _ => [(0, bBox b), (1, .box (cEvening (nc, nt)) 51)]) (fun _ => True) b.tunes.toNat 2 (leb rfl) trivial ?_ ?_ ?_)
  ·exact ⟨⟨_, rfl, Weak.refl _ _, under_eEvenings _ _⟩, wp rfl trivial, wp rfl (ltb rfl), wp rfl (ltb rfl), wp rfl trivial, wp rfl trivial, wp rfl trivial, trivial⟩
  ·exact ⟨bk rfl rfl, bk rfl rfl, trivial⟩
  ·intro t ht _
   refine If.mk (fun h1 => ?_) (fun h1 => ?_)
   ·refine ifY ?_
    have ht' : t < b.tunes.toNat := by omega
    have hN2 := ev_next hN hn8 hc ht'
    have hlo2 : OkL b.cues.toNat (l ++ [c]) := fun x hx => by
     rcases List.mem_append.1 hx with hx | hx
     ·exact hlo x hx
     ·rw [List.mem_singleton] at hx
      subst hx
      exact hc
    have hcu2 : (nc ++ [(c : Int)], nt ++ [(t : Int)]).1 = cuesI (l ++ [c]) := by rw [cuesI_snoc, ← hcu]
    have hstep := G.st_step (evs := evs) hlo hcu hlen (c := c) (t := t) hc
    have hso : some4 (sp4 b.vs c t (stP b.vs (remL b.vs (evs ++ [(nc, nt)]) b.vs.length) l)) = true ↔ remL b.vs (evs ++ [(nc ++ [(c : Int)], nt ++ [(t : Int)])]) b.vs.length ≠ [] := by rw [← hstep, G.st_some]
    have hA1 := fun hne => c_Ask_none hl hB hE hN2 hne
    have hA2 := fun hne => c_Ask hl hB hE hN2 hne hlo2 hcu2
    rw [hstep] at hA2
    have hyo := G.sp4_ok (t := t) (G.st_ok hlo (evs ++ [(nc, nt)])) hc
    have hsucc : wgF b.vs b.cues.toNat b.tunes.toNat (stP b.vs (remL b.vs (evs ++ [(nc, nt)]) b.vs.length) l) c (t + 1) = if some4 (sp4 b.vs c t (stP b.vs (remL b.vs (evs ++ [(nc, nt)]) b.vs.length) l)) = true then wgS b.vs b.cues.toNat b.tunes.toNat (sp4 b.vs c t (stP b.vs (remL b.vs (evs ++ [(nc, nt)]) b.vs.length) l)) (wgF b.vs b.cues.toNat b.tunes.toNat (stP b.vs (remL b.vs (evs ++ [(nc, nt)]) b.vs.length) l) c t) else wgF b.vs b.cues.toNat b.tunes.toNat (stP b.vs (remL b.vs (evs ++ [(nc, nt)]) b.vs.length) l) c t := rfl
    clear hstep
    generalize sp4 b.vs c t (stP b.vs (remL b.vs (evs ++ [(nc, nt)]) b.vs.length) l) = y at *
    generalize remL b.vs (evs ++ [(nc ++ [(c : Int)], nt ++ [(t : Int)])]) b.vs.length = M at *
    generalize wgF b.vs b.cues.toNat b.tunes.toNat (stP b.vs (remL b.vs (evs ++ [(nc, nt)]) b.vs.length) l) c t = s at *
    by_cases hx0 : nc = []
    ·have ht0 : nt = [] := List.length_eq_zero_iff.1 (by rw [← hlen, hx0]; rfl)
     subst hx0 ht0
     refine Ex.mk _ rfl ?_
     refine Ex.mk _ rfl ?_
     refine Ex.mk _ rfl ?_
     refine Ex.mk _ rfl ?_
     by_cases hLt : M = []
     ·rw [if_neg (fun h => hso.1 h hLt)] at hsucc
      refine CallG.weak _ (.cons (fun H => WeakH.refl _ H) (.cons (fun H => WeakH.refl _ H) (.cons (fun H => wk_agg (.cons (fun H => by first | exact wk_snocQ H | exact wk_snocQ (x := []) H) (.cons (fun H => by first | exact wk_snocQ H | exact wk_snocQ (x := []) H) .nil))) .nil))) (hA1 hLt) ?_
      refine If.mk (fun _ => ?_) (fun h => absurd (by decide) h)
      refine ifY ?_
      refine Side.mk (fits64 (by omega)) ?_
      refine ⟨leb rfl, rfl, by omega, trivial, ⟨⟨_, rfl, Weak.refl _ _, under_eEvenings _ _⟩, wp rfl trivial, wp rfl (ltb rfl), wp rfl (ltb rfl), ⟨_, rfl, Weak.of_eq (?_), trivial⟩, ⟨_, rfl, Weak.of_eq (?_), trivial⟩, wp rfl trivial, trivial⟩, ⟨bk rfl rfl, bk rfl rfl, trivial⟩, trivial⟩
      ·rw [hsucc]
      ·rw [hsucc]
     ·rw [if_pos (hso.2 hLt)] at hsucc
      obtain ⟨o, hA, ha⟩ := hA2 hLt
      rcases o with _ | _ | ⟨c1, n⟩
      ·have hv : valO b.vs b.cues.toNat b.tunes.toNat y = none := by
        cases hA with
        | none h => exact valO_none h
       refine CallG.weak _ (.cons (fun H => WeakH.refl _ H) (.cons (fun H => WeakH.refl _ H) (.cons (fun H => wk_agg (.cons (fun H => by first | exact wk_snocQ H | exact wk_snocQ (x := []) H) (.cons (fun H => by first | exact wk_snocQ H | exact wk_snocQ (x := []) H) .nil))) .nil))) (ha) ?_
       refine If.mk (fun h => absurd h (by decide)) (fun _ => ?_)
       refine ifN ?_
       refine If.mk (fun _ => ?_) (fun h => absurd (by decide) h)
       refine ifY ?_
       refine Side.mk (fits64 (by omega)) ?_
       refine ⟨leb rfl, rfl, by omega, trivial, ⟨⟨_, rfl, Weak.refl _ _, under_eEvenings _ _⟩, wp rfl trivial, wp rfl (ltb rfl), wp rfl (ltb rfl), ⟨_, rfl, Weak.of_eq (?_), trivial⟩, ⟨_, rfl, Weak.of_eq (?_), trivial⟩, wp rfl trivial, trivial⟩, ⟨bk rfl rfl, bk rfl rfl, trivial⟩, trivial⟩
       ·rw [hsucc]
        unfold wgS
        rw [hv]
        rfl
       ·rw [hsucc]
        unfold wgS
        rw [hv]
        rfl
      ·have hV : Val (base4 b.vs b.cues.toNat) (succ4 b.vs b.tunes.toNat) b.cues.toNat y 0 := by
        cases hA with
        | done h => exact Val.zero.2 h
       refine CallG.weak _ (.cons (fun H => WeakH.refl _ H) (.cons (fun H => WeakH.refl _ H) (.cons (fun H => wk_agg (.cons (fun H => by first | exact wk_snocQ H | exact wk_snocQ (x := []) H) (.cons (fun H => by first | exact wk_snocQ H | exact wk_snocQ (x := []) H) .nil))) .nil))) (ha) ?_
       refine If.mk (fun h => absurd h (by decide)) (fun _ => ?_)
       refine ifN ?_
       refine If.mk (fun h => absurd h (by decide)) (fun _ => ?_)
       refine ifN ?_
       refine If.mk (fun _ => ?_) (fun h => absurd (by decide) h)
       refine If.mk (fun h => absurd h (by omega)) (fun _ => ?_)
       refine If.mk (fun h => absurd h (by omega)) (fun _ => ?_)
       refine ifN ?_
       refine If.mk (fun h0 => ?_) (fun h0 => ?_)
       ·refine ifY ?_
        refine Ex.mk _ rfl ?_
        refine Side.mk (fits64 (by omega)) ?_
        refine ⟨leb rfl, rfl, by omega, trivial, ⟨⟨_, rfl, Weak.refl _ _, under_eEvenings _ _⟩, wp rfl trivial, wp rfl (ltb rfl), wp rfl (ltb rfl), ⟨_, rfl, Weak.of_eq (?_), trivial⟩, ⟨_, rfl, Weak.of_eq (?_), trivial⟩, wp rfl trivial, trivial⟩, ⟨bk rfl rfl, bk rfl rfl, trivial⟩, trivial⟩
        ·rw [hsucc]
         unfold wgS
         rw [valO_some hV]
         simp only [if_pos h0]
         exact max_i _ _
        ·rw [hsucc]
         unfold wgS
         rw [valO_some hV]
         rfl
       ·refine ifN ?_
        refine Side.mk (fits64 (by omega)) ?_
        refine ⟨leb rfl, rfl, by omega, trivial, ⟨⟨_, rfl, Weak.refl _ _, under_eEvenings _ _⟩, wp rfl trivial, wp rfl (ltb rfl), wp rfl (ltb rfl), ⟨_, rfl, Weak.of_eq (?_), trivial⟩, ⟨_, rfl, Weak.of_eq (?_), trivial⟩, wp rfl trivial, trivial⟩, ⟨bk rfl rfl, bk rfl rfl, trivial⟩, trivial⟩
        ·rw [hsucc]
         unfold wgS
         rw [valO_some hV]
         simp only [if_neg h0]
        ·rw [hsucc]
         unfold wgS
         rw [valO_some hV]
         rfl
      ·have hV : Val (base4 b.vs b.cues.toNat) (succ4 b.vs b.tunes.toNat) b.cues.toNat y n := by
        cases hA with
        | best h => exact h.val
       have hnb := G.val_lt hyo hV
       refine CallG.weak _ (.cons (fun H => WeakH.refl _ H) (.cons (fun H => WeakH.refl _ H) (.cons (fun H => wk_agg (.cons (fun H => by first | exact wk_snocQ H | exact wk_snocQ (x := []) H) (.cons (fun H => by first | exact wk_snocQ H | exact wk_snocQ (x := []) H) .nil))) .nil))) (ha) ?_
       refine If.mk (fun h => absurd h (by decide)) (fun _ => ?_)
       refine ifN ?_
       refine If.mk (fun h => absurd h (by decide)) (fun _ => ?_)
       refine ifN ?_
       refine If.mk (fun _ => ?_) (fun h => absurd (by decide) h)
       refine If.mk (fun h => absurd h (by omega)) (fun _ => ?_)
       refine If.mk (fun h => absurd h (by omega)) (fun _ => ?_)
       refine ifN ?_
       refine If.mk (fun h0 => ?_) (fun h0 => ?_)
       ·refine ifY ?_
        refine Ex.mk _ rfl ?_
        refine Side.mk (fits64 (by omega)) ?_
        refine ⟨leb rfl, rfl, by omega, trivial, ⟨⟨_, rfl, Weak.refl _ _, under_eEvenings _ _⟩, wp rfl trivial, wp rfl (ltb rfl), wp rfl (ltb rfl), ⟨_, rfl, Weak.of_eq (?_), trivial⟩, ⟨_, rfl, Weak.of_eq (?_), trivial⟩, wp rfl trivial, trivial⟩, ⟨bk rfl rfl, bk rfl rfl, trivial⟩, trivial⟩
        ·rw [hsucc]
         unfold wgS
         rw [valO_some hV]
         simp only [if_pos h0]
         exact max_i _ _
        ·rw [hsucc]
         unfold wgS
         rw [valO_some hV]
         rfl
       ·refine ifN ?_
        refine Side.mk (fits64 (by omega)) ?_
        refine ⟨leb rfl, rfl, by omega, trivial, ⟨⟨_, rfl, Weak.refl _ _, under_eEvenings _ _⟩, wp rfl trivial, wp rfl (ltb rfl), wp rfl (ltb rfl), ⟨_, rfl, Weak.of_eq (?_), trivial⟩, ⟨_, rfl, Weak.of_eq (?_), trivial⟩, wp rfl trivial, trivial⟩, ⟨bk rfl rfl, bk rfl rfl, trivial⟩, trivial⟩
        ·rw [hsucc]
         unfold wgS
         rw [valO_some hV]
         simp only [if_neg h0]
        ·rw [hsucc]
         unfold wgS
         rw [valO_some hV]
         rfl
    ·have ht0 : nt ≠ [] := fun h => hx0 (List.length_eq_zero_iff.1 (by rw [hlen, h]; rfl))
     refine ex_app _ _ (app_nilI hx0 (by dsimp only; omega)) ?_
     refine ex_app _ _ (app_int (List.length_map _) (by dsimp only; omega) rfl) ?_
     refine ex_app _ _ (app_nilI ht0 (by dsimp only; omega)) ?_
     refine ex_app _ _ (app_int (List.length_map _) (by dsimp only; omega) rfl) ?_
     by_cases hLt : M = []
     ·rw [if_neg (fun h => hso.1 h hLt)] at hsucc
      refine CallG.weak _ (.cons (fun H => WeakH.refl _ H) (.cons (fun H => WeakH.refl _ H) (.cons (fun H => wk_agg (.cons (fun H => by first | exact wk_snocQ H | exact wk_snocQ (x := []) H) (.cons (fun H => by first | exact wk_snocQ H | exact wk_snocQ (x := []) H) .nil))) .nil))) (hA1 hLt) ?_
      refine If.mk (fun _ => ?_) (fun h => absurd (by decide) h)
      refine ifY ?_
      refine Side.mk (fits64 (by omega)) ?_
      refine ⟨leb rfl, rfl, by omega, trivial, ⟨⟨_, rfl, Weak.refl _ _, under_eEvenings _ _⟩, wp rfl trivial, wp rfl (ltb rfl), wp rfl (ltb rfl), ⟨_, rfl, Weak.of_eq (?_), trivial⟩, ⟨_, rfl, Weak.of_eq (?_), trivial⟩, wp rfl trivial, trivial⟩, ⟨bk rfl rfl, bk rfl rfl, trivial⟩, trivial⟩
      ·rw [hsucc]
      ·rw [hsucc]
     ·rw [if_pos (hso.2 hLt)] at hsucc
      obtain ⟨o, hA, ha⟩ := hA2 hLt
      rcases o with _ | _ | ⟨c1, n⟩
      ·have hv : valO b.vs b.cues.toNat b.tunes.toNat y = none := by
        cases hA with
        | none h => exact valO_none h
       refine CallG.weak _ (.cons (fun H => WeakH.refl _ H) (.cons (fun H => WeakH.refl _ H) (.cons (fun H => wk_agg (.cons (fun H => by first | exact wk_snocQ H | exact wk_snocQ (x := []) H) (.cons (fun H => by first | exact wk_snocQ H | exact wk_snocQ (x := []) H) .nil))) .nil))) (ha) ?_
       refine If.mk (fun h => absurd h (by decide)) (fun _ => ?_)
       refine ifN ?_
       refine If.mk (fun _ => ?_) (fun h => absurd (by decide) h)
       refine ifY ?_
       refine Side.mk (fits64 (by omega)) ?_
       refine ⟨leb rfl, rfl, by omega, trivial, ⟨⟨_, rfl, Weak.refl _ _, under_eEvenings _ _⟩, wp rfl trivial, wp rfl (ltb rfl), wp rfl (ltb rfl), ⟨_, rfl, Weak.of_eq (?_), trivial⟩, ⟨_, rfl, Weak.of_eq (?_), trivial⟩, wp rfl trivial, trivial⟩, ⟨bk rfl rfl, bk rfl rfl, trivial⟩, trivial⟩
       ·rw [hsucc]
        unfold wgS
        rw [hv]
        rfl
       ·rw [hsucc]
        unfold wgS
        rw [hv]
        rfl
      ·have hV : Val (base4 b.vs b.cues.toNat) (succ4 b.vs b.tunes.toNat) b.cues.toNat y 0 := by
        cases hA with
        | done h => exact Val.zero.2 h
       refine CallG.weak _ (.cons (fun H => WeakH.refl _ H) (.cons (fun H => WeakH.refl _ H) (.cons (fun H => wk_agg (.cons (fun H => by first | exact wk_snocQ H | exact wk_snocQ (x := []) H) (.cons (fun H => by first | exact wk_snocQ H | exact wk_snocQ (x := []) H) .nil))) .nil))) (ha) ?_
       refine If.mk (fun h => absurd h (by decide)) (fun _ => ?_)
       refine ifN ?_
       refine If.mk (fun h => absurd h (by decide)) (fun _ => ?_)
       refine ifN ?_
       refine If.mk (fun _ => ?_) (fun h => absurd (by decide) h)
       refine If.mk (fun h => absurd h (by omega)) (fun _ => ?_)
       refine If.mk (fun h => absurd h (by omega)) (fun _ => ?_)
       refine ifN ?_
       refine If.mk (fun h0 => ?_) (fun h0 => ?_)
       ·refine ifY ?_
        refine Ex.mk _ rfl ?_
        refine Side.mk (fits64 (by omega)) ?_
        refine ⟨leb rfl, rfl, by omega, trivial, ⟨⟨_, rfl, Weak.refl _ _, under_eEvenings _ _⟩, wp rfl trivial, wp rfl (ltb rfl), wp rfl (ltb rfl), ⟨_, rfl, Weak.of_eq (?_), trivial⟩, ⟨_, rfl, Weak.of_eq (?_), trivial⟩, wp rfl trivial, trivial⟩, ⟨bk rfl rfl, bk rfl rfl, trivial⟩, trivial⟩
        ·rw [hsucc]
         unfold wgS
         rw [valO_some hV]
         simp only [if_pos h0]
         exact max_i _ _
        ·rw [hsucc]
         unfold wgS
         rw [valO_some hV]
         rfl
       ·refine ifN ?_
        refine Side.mk (fits64 (by omega)) ?_
        refine ⟨leb rfl, rfl, by omega, trivial, ⟨⟨_, rfl, Weak.refl _ _, under_eEvenings _ _⟩, wp rfl trivial, wp rfl (ltb rfl), wp rfl (ltb rfl), ⟨_, rfl, Weak.of_eq (?_), trivial⟩, ⟨_, rfl, Weak.of_eq (?_), trivial⟩, wp rfl trivial, trivial⟩, ⟨bk rfl rfl, bk rfl rfl, trivial⟩, trivial⟩
        ·rw [hsucc]
         unfold wgS
         rw [valO_some hV]
         simp only [if_neg h0]
        ·rw [hsucc]
         unfold wgS
         rw [valO_some hV]
         rfl
      ·have hV : Val (base4 b.vs b.cues.toNat) (succ4 b.vs b.tunes.toNat) b.cues.toNat y n := by
        cases hA with
        | best h => exact h.val
       have hnb := G.val_lt hyo hV
       refine CallG.weak _ (.cons (fun H => WeakH.refl _ H) (.cons (fun H => WeakH.refl _ H) (.cons (fun H => wk_agg (.cons (fun H => by first | exact wk_snocQ H | exact wk_snocQ (x := []) H) (.cons (fun H => by first | exact wk_snocQ H | exact wk_snocQ (x := []) H) .nil))) .nil))) (ha) ?_
       refine If.mk (fun h => absurd h (by decide)) (fun _ => ?_)
       refine ifN ?_
       refine If.mk (fun h => absurd h (by decide)) (fun _ => ?_)
       refine ifN ?_
       refine If.mk (fun _ => ?_) (fun h => absurd (by decide) h)
       refine If.mk (fun h => absurd h (by omega)) (fun _ => ?_)
       refine If.mk (fun h => absurd h (by omega)) (fun _ => ?_)
       refine ifN ?_
       refine If.mk (fun h0 => ?_) (fun h0 => ?_)
       ·refine ifY ?_
        refine Ex.mk _ rfl ?_
        refine Side.mk (fits64 (by omega)) ?_
        refine ⟨leb rfl, rfl, by omega, trivial, ⟨⟨_, rfl, Weak.refl _ _, under_eEvenings _ _⟩, wp rfl trivial, wp rfl (ltb rfl), wp rfl (ltb rfl), ⟨_, rfl, Weak.of_eq (?_), trivial⟩, ⟨_, rfl, Weak.of_eq (?_), trivial⟩, wp rfl trivial, trivial⟩, ⟨bk rfl rfl, bk rfl rfl, trivial⟩, trivial⟩
        ·rw [hsucc]
         unfold wgS
         rw [valO_some hV]
         simp only [if_pos h0]
         exact max_i _ _
        ·rw [hsucc]
         unfold wgS
         rw [valO_some hV]
         rfl
       ·refine ifN ?_
        refine Side.mk (fits64 (by omega)) ?_
        refine ⟨leb rfl, rfl, by omega, trivial, ⟨⟨_, rfl, Weak.refl _ _, under_eEvenings _ _⟩, wp rfl trivial, wp rfl (ltb rfl), wp rfl (ltb rfl), ⟨_, rfl, Weak.of_eq (?_), trivial⟩, ⟨_, rfl, Weak.of_eq (?_), trivial⟩, wp rfl trivial, trivial⟩, ⟨bk rfl rfl, bk rfl rfl, trivial⟩, trivial⟩
        ·rw [hsucc]
         unfold wgS
         rw [valO_some hV]
         simp only [if_neg h0]
        ·rw [hsucc]
         unfold wgS
         rw [valO_some hV]
         rfl
   ·refine ifN ?_
    obtain rfl : t = b.tunes.toNat := by omega
    refine ⟨leb rfl, ?_⟩
    exact ⟨.inl rfl, FinG.mk _ rfl rfl rfl⟩
end Go.Vm
