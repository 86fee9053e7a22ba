/-
  Contracts of functions of packages kelirlaw04, kelirref04, kelirref02, cue and slices, for books, evenings and lists as told at each, in every heap. Conditions: at each theorem. (What remains, with the errors.)
-/
import Derived.Test.YtdhdaadoehbopaaGreatDoorCh
import Derived.Test.YtdhdaadoehbopaaGreatDoorCc
import Derived.Test.YtdhdaadoehbopaaGreatDoorVc

namespace Go.Vm
open Go.Proofs
set_option maxRecDepth 100000 in
theorem c_fits (t h : List Int) (hth : t.length = h.length) (hl : h.length < 4611686018427387904) (hm : ∀ x ∈ h, -1 ≤ x) (H : List Blk) : ACall Tryz.prog 48 [eInts t, eInts h] H (.ret (.lit (.bool (decide (Noted t h))))) H := by
 refine fn_rule (m := false) (fn := Tryz.f48) (c := (Tryz.f48.body).getD .skip) mixed (by kernel_rfl) (by kernel_rfl) (of_decide_eq_true (by kernel_rfl)) ?_ ?_ ?_ H
 ·exact ⟨under_eInts 0 _, under_eInts 0 _, trivial⟩
 ·trivial
 ·refine LoopG.at (n0 := 0) rfl (loop_up mixed (m := false) (fun r => [(0, eInts t), (1, eInts h), (5, n' r)]) (fun _ => []) (fun r => ∀ i, i < r → 0 ≤ h.getD i 0 → t.getD i 0 = h.getD i 0) h.length 0 (Nat.zero_le _) (fun _ h => absurd h (Nat.not_lt_zero _)) ?_ trivial ?_)
  ·exact ⟨⟨_, rfl, Weak.refl _ _, under_eInts _ _⟩, ⟨_, rfl, Weak.refl _ _, under_eInts _ _⟩, wp rfl trivial, trivial⟩
  ·intro r hr hI
   refine If.mk (fun h1 => ?_) (fun h1 => ?_)
   ·refine If.mk (fun _ => ?_) (fun h => absurd (by omega) h)
    refine ifY ?_
    obtain ⟨x, hx1, _, hxm⟩ := at_some (l := h) (r := r) (by omega)
    obtain ⟨y, hy1, _, _⟩ := at_some (l := t) (r := r) (by omega)
    have hx0 := hm x hxm
    have next : (0 ≤ x → y = x) → ∀ i, i < r + 1 → 0 ≤ h.getD i 0 → t.getD i 0 = h.getD i 0 := fun hxy i hi => by
     rcases Nat.lt_or_ge i r with hlt | hge
     ·exact hI i hlt
     ·have : i = r := by omega
      subst this
      rw [getD_of hx1, getD_of hy1]; exact hxy
    refine Ex.mk _ (jx_ints (r := r) rfl hx1) ?_
    refine Ex.mk _ rfl ?_
    refine If.mk (fun h2 => ?_) (fun h2 => ?_)
    ·refine ifN ?_
     refine Side.mk (fits64 (by omega)) ?_
     exact ⟨Nat.zero_le _, rfl, by omega, next (fun e => by omega), ⟨⟨_, rfl, Weak.refl _ _, under_eInts _ _⟩, ⟨_, rfl, Weak.refl _ _, under_eInts _ _⟩, wp rfl trivial, trivial⟩, trivial, trivial⟩
    ·refine Ex.mk _ (jx_ints (r := r) rfl hx1) ?_
     refine Ex.mk _ rfl ?_
     refine Ex.mk _ (jx_ints (r := r) rfl hy1) ?_
     refine Ex.mk _ rfl ?_
     refine If.mk (fun h3 => ?_) (fun h3 => ?_)
     ·refine ifN ?_
      refine Side.mk (fits64 (by omega)) ?_
      exact ⟨Nat.zero_le _, rfl, by omega, next (fun _ => h3.symm), ⟨⟨_, rfl, Weak.refl _ _, under_eInts _ _⟩, ⟨_, rfl, Weak.refl _ _, under_eInts _ _⟩, wp rfl trivial, trivial⟩, trivial, trivial⟩
     ·refine ifY ?_
      exact ⟨Nat.zero_le _, .inl rfl, FinG.no rfl rfl (fun e => h3 (by have := e r (by omega); rw [getD_of hx1, getD_of hy1] at this; exact (this (by omega)).symm))⟩
   ·refine ifN ?_
    have er : r = h.length := by omega
    subst er
    refine ⟨Nat.zero_le _, ?_⟩
    refine If.mk (fun _ => ?_) (fun h => absurd (by omega) h)
    exact ⟨.inl rfl, FinG.yes rfl rfl hI⟩
theorem heard_m1 {b : Book} {l : List Int} (h : LTunes b l) : ∀ x ∈ l, -1 ≤ x := fun x hx => by
 have := h.1 x hx
 unfold inI at this
 by_cases e : x = -1
 ·omega
 ·have := this e; omega
def inS (b : Book) (evs : List Evening) (r q : Nat) (sm : Bool) : List (Nat × AV) := [(1, eEvenings evs), (2, .ptr 0 0), (5, remA b evs r), (6, n' r), (7, nb sm), (8, n' q)]
set_option maxRecDepth 100000 in
theorem c_refRemains {b : Book} (hB : BOk b) {evs : List Evening} (hE : ∀ e ∈ evs, EvOk b e) (hel : evs.length < 1000) (H : List Blk) : ACall Tryz.prog 41 [eBook b, eEvenings evs] H (.ret (eInts (remL b.vs evs b.vs.length))) H := by
 have hvl := hB.1.2.2
 unfold inI at hvl
 have h0c := hB.1.1.1
 refine fn_rule (m := false) (fn := Tryz.f41) (c := (Tryz.f41.body).getD .skip) mixed (by kernel_rfl) (by kernel_rfl) (of_decide_eq_true (by kernel_rfl)) ?_ ?_ ?_ H
 ·exact ⟨under_eBook 0 _, under_eEvenings 0 _, trivial⟩
 ·exact under_eInts 0 _
 ·refine LoopG.ghost (LoopG.at (n0 := 2) rfl ?_)
  refine loop_up mixed (m := false) (fun r => [(1, eEvenings evs), (2, .ptr 0 0), (5, remA b evs r), (6, n' r)]) (fun r => [(0, bBox b), (1, .row (remL b.vs evs r).length)]) (fun _ => True) b.vs.length 1 (leb rfl) trivial ?_ ?_ ?_
  ·exact ⟨⟨_, rfl, Weak.refl _ _, under_eEvenings _ _⟩, wp rfl (ltb rfl), ⟨_, rfl, Weak.own (r := 1) (g := 0) 1 rfl, ⟨trivial, ltb rfl⟩⟩, wp rfl trivial, trivial⟩
  ·exact ⟨bk rfl rfl, bk rfl rfl, trivial⟩
  ·intro r hr _
   have hrl := remL_length b.vs evs r
   refine If.mk (fun h1 => ?_) (fun h1 => ?_)
   ·refine ifY ?_
    obtain ⟨v, hv, _, hvm⟩ := at_some (l := b.vs) (r := r) (by omega)
    obtain ⟨hvo, h0⟩ := (hB.2 v hvm).vers
    have evd : b.vs.getD r [] = v := getD_of hv
    refine LoopG.at (n0 := 2) rfl (loop_r (α := { q : Nat × Bool // q.1 ≤ evs.length ∧ (q.2 = true ↔ ∀ e ∈ evs.take q.1, Noted (plays v 0 e.1) e.2) }) mixed (m := false) (fun a => inS b evs r a.1.1 a.1.2) (fun _ => [(0, bBox b), (1, .row (remL b.vs evs r).length)]) (fun a => evs.length - a.1.1) 2 ⟨(0, true), Nat.zero_le _, ⟨fun _ j h => by simp at h, fun _ => rfl⟩⟩ (leb rfl) ?_ ?_ ?_)
    ·exact ⟨⟨_, rfl, Weak.refl _ _, under_eEvenings _ _⟩, wp rfl (ltb rfl), ⟨_, rfl, Weak.refl _ _, ⟨under_ints _ _, ltb rfl⟩⟩, wp rfl trivial, wp rfl trivial, wp rfl trivial, trivial⟩
    ·exact ⟨bk rfl rfl, bk rfl rfl, trivial⟩
    ·rintro ⟨⟨q, sm⟩, hq, hsm⟩
     refine If.mk (fun h2 => ?_) (fun h2 => ?_)
     ·refine ifY ?_
      have h2' : (q : Int) < (evs.length : Nat) := h2
      obtain ⟨e, he, htk, hem⟩ := at_some (l := evs) (r := q) (by omega)
      obtain ⟨⟨hle1, hle2⟩, hle3⟩ := hE e hem
      obtain ⟨hc1, hc2⟩ := hle1.cues (by omega)
      have hle4 := hle2.2
      cases sm with
      | true =>
       have hall := hsm.1 rfl
       refine Ex.mk _ (jx_versions (r := r) rfl hv) ?_
       refine Ex.mk _ rfl ?_
       refine Ex.mk _ (jx_evenings (r := q) rfl he) ?_
       refine Ex.mk _ rfl ?_
       refine CallG.pure _ (c_refPlays hvo h0 hc1 hc2) ?_
       refine Ex.mk _ (jx_evenings (r := q) rfl he) ?_
       refine Ex.mk _ rfl ?_
       refine CallG.bool (c_fits _ _ (by rw [plays_length]; omega) (by omega) (heard_m1 hle2)) (fun h3 => ?_) (fun h3 => ?_)
       ·refine Side.mk (fits64 (by omega)) ?_
        refine ⟨leb rfl, rfl, ⟨(q + 1, true), (by show q + 1 ≤ evs.length; omega), ⟨fun _ i hi => ?_, fun _ => rfl⟩⟩, (by show evs.length - (q + 1) < evs.length - q; omega), ⟨⟨_, rfl, Weak.refl _ _, under_eEvenings _ _⟩, wp rfl (ltb rfl), ⟨_, rfl, Weak.refl _ _, ⟨under_ints _ _, ltb rfl⟩⟩, wp rfl trivial, wp rfl trivial, wp rfl trivial, trivial⟩, ⟨bk rfl rfl, bk rfl rfl, trivial⟩, trivial⟩
        rw [htk] at hi
        rcases List.mem_append.1 hi with hi | hi
        ·exact hall i hi
        ·rw [List.mem_singleton] at hi; subst hi; exact h3
       ·refine Side.mk (fits64 (by omega)) ?_
        refine ⟨leb rfl, rfl, ⟨(q + 1, false), (by show q + 1 ≤ evs.length; omega), ⟨fun e => (by cases e), fun e => ?_⟩⟩, (by show evs.length - (q + 1) < evs.length - q; omega), ⟨⟨_, rfl, Weak.refl _ _, under_eEvenings _ _⟩, wp rfl (ltb rfl), ⟨_, rfl, Weak.refl _ _, ⟨under_ints _ _, ltb rfl⟩⟩, wp rfl trivial, wp rfl trivial, wp rfl trivial, trivial⟩, ⟨bk rfl rfl, bk rfl rfl, trivial⟩, trivial⟩
        exact absurd (e _ (by rw [htk]; exact List.mem_append_right _ (List.mem_singleton.2 rfl))) h3
      | false =>
       refine Side.mk (fits64 (by omega)) ?_
       refine ⟨leb rfl, rfl, ⟨(q + 1, false), (by show q + 1 ≤ evs.length; omega), ⟨fun e => (by cases e), fun e => ?_⟩⟩, (by show evs.length - (q + 1) < evs.length - q; omega), ⟨⟨_, rfl, Weak.refl _ _, under_eEvenings _ _⟩, wp rfl (ltb rfl), ⟨_, rfl, Weak.refl _ _, ⟨under_ints _ _, ltb rfl⟩⟩, wp rfl trivial, wp rfl trivial, wp rfl trivial, trivial⟩, ⟨bk rfl rfl, bk rfl rfl, trivial⟩, trivial⟩
       exact hsm.2 fun i hi => e i (by rw [htk]; exact List.mem_append_left _ hi)
     ·refine ifN ?_
      refine ⟨leb rfl, ?_⟩
      have h2' : ¬ ((q : Int) < (evs.length : Nat)) := h2
      have htake : evs.take q = evs := List.take_of_length_le (by omega)
      have hsm' : sm = true ↔ Agrees v evs := by
       have := hsm
       simp only [htake] at this
       exact this
      cases sm with
      | true =>
       refine ifY ?_
       refine ex_app _ _ (app_int (List.length_map _) (by omega) rfl) ?_
       refine Side.mk (fits64 (by omega)) ?_
       have e5 : remL b.vs evs (r + 1) = remL b.vs evs r ++ [(r : Int)] := by
        show (if Agrees (b.vs.getD r []) evs then remL b.vs evs r ++ [(r : Int)] else remL b.vs evs r) = _
        rw [evd, if_pos (hsm'.1 rfl)]
       refine ⟨leb rfl, rfl, by omega, trivial, ⟨⟨_, rfl, Weak.refl _ _, under_eEvenings _ _⟩, wp rfl (ltb rfl), ⟨_, rfl, Weak.of_eq (?_), ⟨under_ints _ _, ltb rfl⟩⟩, wp rfl trivial, trivial⟩, ⟨bk rfl rfl, ⟨?_, ltb rfl⟩, trivial⟩, ⟨_, rfl, trivial⟩, trivial⟩
       ·unfold remA; rw [e5, List.length_append, List.map_append]; rfl
       ·show some (Blk.row ((remL b.vs evs r).length + 1)) = some (Blk.row (remL b.vs evs (r + 1)).length)
        rw [e5, List.length_append]; rfl
      | false =>
       refine ifN ?_
       refine Side.mk (fits64 (by omega)) ?_
       have e5 : remL b.vs evs (r + 1) = remL b.vs evs r := by
        show (if Agrees (b.vs.getD r []) evs then remL b.vs evs r ++ [(r : Int)] else remL b.vs evs r) = _
        rw [evd, if_neg (fun x => by cases hsm'.2 x)]
       refine ⟨leb rfl, rfl, by omega, trivial, ⟨⟨_, rfl, Weak.refl _ _, under_eEvenings _ _⟩, wp rfl (ltb rfl), ⟨_, rfl, Weak.of_eq (?_), ⟨under_ints _ _, ltb rfl⟩⟩, wp rfl trivial, trivial⟩, ⟨bk rfl rfl, ⟨?_, ltb rfl⟩, trivial⟩, trivial⟩
       ·unfold remA; rw [e5]
       ·show some (Blk.row (remL b.vs evs r).length) = some (Blk.row (remL b.vs evs (r + 1)).length)
        rw [e5]
   ·refine ifN ?_
    have er : r = b.vs.length := by omega
    subst er
    refine ⟨leb rfl, .inl rfl, FinG.mk _ rfl rfl ?_⟩
    show AV.sl _ (AV.freezes _ ((remL b.vs evs b.vs.length).map n')) .unk = _
    rw [freezes_ints]
    rfl
end Go.Vm

namespace Go.Vm
open Go.Proofs
def nilS2 (k : Int) : AV := .tup [.lit (.slice none 0 0), .lit (.int .i64 k)]
set_option maxRecDepth 100000 in
theorem c_left_none {b : Book} (hl : BLen b) (hB : BOk b) {evs : List Evening} (hE : EvsOk b evs) {now : Evening} (hN : EvOk b now) (hne : remL b.vs (evs ++ [now]) b.vs.length = []) (H : List Blk) :
  ACall Tryz.prog 99 [eBook b, .lit (.bool true), eEvenings evs, eEvening now] H (.ret (nilS2 7)) H := by
 have hel := hE.2
 obtain ⟨⟨⟨hn1, hn2⟩, ⟨hn3, hn4⟩⟩, hn5⟩ := hN
 refine fn_rule (m := false) (fn := Tryz.f99) (c := (Tryz.f99.body).getD .skip) mixed (by kernel_rfl) (by kernel_rfl) (of_decide_eq_true (by kernel_rfl)) ?_ ?_ ?_ H
 ·exact ⟨under_eBook 0 _, trivial, under_eEvenings 0 _, under_eEvening 0 _, trivial⟩
 ·exact under_tup2 trivial trivial
 ·refine CallG.bool (c_isBook hl) (fun _ => ?_) (fun x => absurd hB x)
  refine CallG.bool (c_areEvenings hB.fit _ (by omega) (fun e he => ?_)) (fun _ => ?_) (fun x => absurd hE x)
  ·obtain ⟨⟨⟨g1, _⟩, ⟨_, g2⟩⟩, _⟩ := hE.1 e he
   omega
  ·refine CallG.bool (c_isEvening hB.fit now (by omega) (by omega)) (fun _ => ?_) (fun x => absurd ⟨⟨⟨hn1, hn2⟩, ⟨hn3, hn4⟩⟩, hn5⟩ x)
   refine ifN ?_
   refine CallG.try rfl rfl ?_
   refine CallG.inlineP (m := false) (fn := Tryz.f158) (c := (Tryz.f158.body).getD .skip) mixed (by kernel_rfl) (by kernel_rfl) (of_decide_eq_true (by kernel_rfl)) ?_
   refine CallG.clone (by omega) (leb rfl) ?_
   refine ex_app _ _ (app_evening (flat2_length (fun _ => rfl) _) (by omega) rfl) ?_
   refine CallG.inlineP (m := false) (fn := Tryz.f159) (c := (Tryz.f159.body).getD .skip) mixed (by kernel_rfl) (by kernel_rfl) (of_decide_eq_true (by kernel_rfl)) ?_
   refine CallG.weak _ (.cons (fun H => WeakH.refl _ H) (.cons wk_evs .nil)) (c_remains hB (fun e he => ?_) (by rw [List.length_append]; simp; omega)) ?_
   ·rcases List.mem_append.1 he with he | he
    ·exact hE.1 e he
    ·rw [List.mem_singleton] at he; subst he; exact ⟨⟨⟨hn1, hn2⟩, ⟨hn3, hn4⟩⟩, hn5⟩
   ·rw [hne]
    refine If.mk (fun _ => ?_) (fun h => absurd (by decide) h)
    refine ifY ?_
    refine .inr ⟨_, rfl, rfl, ?_⟩
    refine .inr ⟨_, rfl, rfl, ?_⟩
    refine ⟨⟨_, rfl⟩, ⟨_, rfl⟩, ?_⟩
    refine If.mk (fun h => absurd h (by decide)) (fun _ => ?_)
    refine ifY ?_
    exact ⟨.inl rfl, FinG.mk _ rfl rfl rfl⟩
set_option maxRecDepth 100000 in
theorem c_left_bad {b : Book} (hl : BLen b) {fine : Bool} {evs : List Evening} (he1 : evs.length < 4611686018427387904) (he2 : ∀ e ∈ evs, e.1.length < 4611686018427387904 ∧ e.2.length < 4611686018427387904) {now : Evening} (hn1 : now.1.length < 4611686018427387904)
  (hn2 : now.2.length < 4611686018427387904) (hN : ¬ (BOk b ∧ EvsOk b evs ∧ EvOk b now ∧ fine = true)) (H : List Blk) :
  ACall Tryz.prog 99 [eBook b, .lit (.bool fine), eEvenings evs, eEvening now] H (.ret (nilS2 2)) H := by
 refine fn_rule (m := false) (fn := Tryz.f99) (c := (Tryz.f99.body).getD .skip) mixed (by kernel_rfl) (by kernel_rfl) (of_decide_eq_true (by kernel_rfl)) ?_ ?_ ?_ H
 ·exact ⟨under_eBook 0 _, trivial, under_eEvenings 0 _, under_eEvening 0 _, trivial⟩
 ·exact under_tup2 trivial trivial
 ·refine CallG.bool (c_isBook hl) (fun hB => ?_) (fun _ => ?_)
  ·refine CallG.bool (c_areEvenings hB.fit _ he1 he2) (fun hE => ?_) (fun _ => ?_)
   ·refine CallG.bool (c_isEvening hB.fit now hn1 hn2) (fun hE2 => ?_) (fun _ => ?_)
    ·cases fine with
     | true => exact absurd ⟨hB, hE, hE2, rfl⟩ hN
     | false =>
      refine ifY ?_
      exact ⟨.inl rfl, FinG.mk _ rfl rfl rfl⟩
    ·refine ifY ?_
     exact ⟨.inl rfl, FinG.mk _ rfl rfl rfl⟩
   ·refine ifY ?_
    exact ⟨.inl rfl, FinG.mk _ rfl rfl rfl⟩
  ·refine ifY ?_
   exact ⟨.inl rfl, FinG.mk _ rfl rfl rfl⟩
end Go.Vm
