/-
  Contracts of functions of packages kelirlaw04, kelirref04, kelirref02, cue and slices, for books, evenings and lists as told at each, in every heap. Conditions: at each theorem. (What was noted; appends; clones; the order of lists.)
-/
import Derived.Test.YtdhdaadoehbopaaGreatDoorCa
import Derived.Test.YtdhdaadoehbopaaGreatDoorVc

namespace Go.Vm
open Go.Proofs
set_option maxRecDepth 100000 in
theorem c_hasTune {b : Book} (hb : BFit b) (n : Int) (H : List Blk) : ACall Tryz.prog 132 [eBook b, n' n] H (.ret (.lit (.bool (decide (inI n 0 (b.tunes - 1)))))) H := by
 obtain ⟨hb1, hb2, hb3, hb4, hb5⟩ := hb
 refine fn_rule (m := false) (fn := Tryz.f132) (c := (Tryz.f132.body).getD .skip) mixed (by kernel_rfl) (by kernel_rfl) (of_decide_eq_true (by kernel_rfl)) ?_ ?_ ?_ H
 ·exact ⟨under_eBook 0 _, trivial, trivial⟩
 ·trivial
 ·refine Side.mk (fits64 (by omega)) ?_
  refine CallG.bool (c_in _ _ _) (fun h => ?_) (fun h => ?_)
  ·exact ⟨.inl rfl, FinG.yes rfl rfl (h)⟩
  ·exact ⟨.inl rfl, FinG.no rfl rfl (h)⟩
def TuneP (b : Book) (c : Int) : Prop := c ≠ -1 → inI c 0 (b.tunes - 1)
instance (b : Book) (c : Int) : Decidable (TuneP b c) := by unfold TuneP; infer_instance
set_option maxRecDepth 100000 in
theorem c_161 {b : Book} (hb : BFit b) (n : Int) {n0 : Nat} (hn : n0 ≤ noLo) (H : List Blk) (hH : HT (ofL (bL b)) n0 H) : ACall Tryz.prog 161 [n' n, .ptr 0 0] H (.ret (.lit (.bool (decide (¬ TuneP b n))))) H := by
 refine fn_at (m := false) (fn := Tryz.f161) (c := (Tryz.f161.body).getD .skip) mixed (by kernel_rfl) (by kernel_rfl) (of_decide_eq_true (by kernel_rfl)) rfl ?_ H hH
 refine If.mk (fun h1 => ?_) (fun h1 => ?_)
 ·exact ⟨.inl rfl, hn, FinF.bool rfl rfl ⟨fun x => absurd (fun y => absurd h1 y) x, fun x => by cases x⟩⟩
 ·refine CallG.bool (c_hasTune hb _) (fun h => ?_) (fun h => ?_)
  ·exact ⟨.inl rfl, hn, FinF.bool rfl rfl ⟨fun x => absurd (fun _ => h) x, fun x => by cases x⟩⟩
  ·exact ⟨.inl rfl, hn, FinF.bool rfl rfl ⟨fun _ => rfl, fun _ x => h (x h1)⟩⟩
set_option maxRecDepth 100000 in
theorem c_areHeard {b : Book} (hb : BFit b) (l : List Int) (hl : l.length < 4611686018427387904) (H : List Blk) : ACall Tryz.prog 100 [eBook b, eInts l] H (.ret (.lit (.bool (decide (LTunes b l))))) H := by
 refine fn_rule (m := false) (fn := Tryz.f100) (c := (Tryz.f100.body).getD .skip) mixed (by kernel_rfl) (by kernel_rfl) (of_decide_eq_true (by kernel_rfl)) ?_ ?_ ?_ H
 ·exact ⟨under_eBook 0 _, under_eInts 0 _, trivial⟩
 ·trivial
 ·refine If.mk (fun h1 => ?_) (fun h1 => ?_)
  ·refine CallG.atB (p := ∃ c ∈ l, ¬ TuneP b c) (fun H hH => c_containsI (n0 := 1) (leb rfl) (bL_ok b (leb rfl)) 161 [.ptr 0 0] ⟨ltb rfl, trivial⟩ (fun c => ¬ TuneP b c) l hl rfl (fun v _ H hH => c_161 hb v (leb rfl) H hH) H (hH.sub ⟨bk rfl rfl, trivial⟩)) (fun h4 => ?_) (fun h4 => ?_)
   ·exact ⟨.inl rfl, FinG.no rfl rfl (fun x => by obtain ⟨s, hs, hx⟩ := h4; exact hx (x.1 s hs))⟩
   ·exact ⟨.inl rfl, FinG.yes rfl rfl (⟨not_ex.1 h4, h1⟩)⟩
  ·exact ⟨.inl rfl, FinG.no rfl rfl (fun x => h1 x.2)⟩
set_option maxRecDepth 100000 in
theorem c_isEvening {b : Book} (hb : BFit b) (e : Evening) (hl : e.1.length < 4611686018427387904) (hl2 : e.2.length < 4611686018427387904) (H : List Blk) : ACall Tryz.prog 156 [eBook b, eEvening e] H (.ret (.lit (.bool (decide (EvOk b e))))) H := by
 refine fn_rule (m := false) (fn := Tryz.f156) (c := (Tryz.f156.body).getD .skip) mixed (by kernel_rfl) (by kernel_rfl) (of_decide_eq_true (by kernel_rfl)) ?_ ?_ ?_ H
 ·exact ⟨under_eBook 0 _, under_eEvening 0 _, trivial⟩
 ·trivial
 ·refine CallG.bool (c_areCues hb _ hl) (fun h => ?_) (fun h => ?_)
  ·refine CallG.bool (c_areHeard hb _ hl2) (fun h2 => ?_) (fun h2 => ?_)
   ·refine If.mk (fun h3 => ?_) (fun h3 => ?_)
    ·exact ⟨.inl rfl, FinG.yes rfl rfl (⟨⟨h, h2⟩, h3⟩)⟩
    ·exact ⟨.inl rfl, FinG.no rfl rfl (fun x => h3 x.2)⟩
   ·exact ⟨.inl rfl, FinG.no rfl rfl (fun x => h2 x.1.2)⟩
  ·exact ⟨.inl rfl, FinG.no rfl rfl (fun x => h x.1.1)⟩
set_option maxRecDepth 100000 in
theorem c_155 {b : Book} (hb : BFit b) (e : Evening) (hl : e.1.length < 4611686018427387904) (hl2 : e.2.length < 4611686018427387904) (H2 : List Blk) : ACall Tryz.prog 155 [eEvening e, .ptr 0 0] ([bBox b] ++ H2) (.ret (.lit (.bool (decide (¬ EvOk b e))))) ([bBox b] ++ H2) := by
 refine fn_pre (m := false) (fn := Tryz.f155) (c := (Tryz.f155.body).getD .skip) mixed (by kernel_rfl) (by kernel_rfl) (of_decide_eq_true (by kernel_rfl)) (HT.one _) ?_ ?_ rfl ?_ H2
 ·exact ⟨under_eEvening _ _, ltb rfl, trivial⟩
 ·intro B hB
  simp at hB
  subst hB
  exact bBox_under _ _
 ·refine CallG.bool (c_isEvening hb e hl hl2) (fun h => ?_) (fun h => ?_)
  ·exact ⟨.inl rfl, leb rfl, FinF.bool rfl rfl ⟨fun x => absurd h x, fun x => by cases x⟩⟩
  ·exact ⟨.inl rfl, leb rfl, FinF.bool rfl rfl ⟨fun _ => rfl, fun _ => h⟩⟩
set_option maxRecDepth 100000 in
theorem c_areEvenings {b : Book} (hb : BFit b) (l : List Evening) (hl : l.length < 4611686018427387904) (hl2 : ∀ e ∈ l, e.1.length < 4611686018427387904 ∧ e.2.length < 4611686018427387904) (H : List Blk) : ACall Tryz.prog 97 [eBook b, eEvenings l] H (.ret (.lit (.bool (decide (EvsOk b l))))) H := by
 refine fn_rule (m := false) (fn := Tryz.f97) (c := (Tryz.f97.body).getD .skip) mixed (by kernel_rfl) (by kernel_rfl) (of_decide_eq_true (by kernel_rfl)) ?_ ?_ ?_ H
 ·exact ⟨under_eBook 0 _, under_eEvenings 0 _, trivial⟩
 ·trivial
 ·refine If.mk (fun h1 => ?_) (fun h1 => ?_)
  ·refine CallG.atB (p := ∃ e ∈ l, ¬ EvOk b e) (fun H hH => c_containsE (n0 := 1) (leb rfl) (bL_ok b (leb rfl)) 155 [.ptr 0 0] ⟨ltb rfl, trivial⟩ (fun e => ¬ EvOk b e) l hl rfl (fun e he H hH => ?_) H (hH.sub ⟨bk rfl rfl, trivial⟩)) (fun h4 => ?_) (fun h4 => ?_)
   ·obtain ⟨H2, rfl⟩ := hH.first rfl
    exact c_155 hb e (hl2 e he).1 (hl2 e he).2 H2
   ·exact ⟨.inl rfl, FinG.no rfl rfl (fun x => by obtain ⟨s, hs, hx⟩ := h4; exact hx (x.1 s hs))⟩
   ·exact ⟨.inl rfl, FinG.yes rfl rfl (⟨not_ex.1 h4, h1⟩)⟩
  ·exact ⟨.inl rfl, FinG.no rfl rfl (fun x => h1 x.2)⟩
def Noted (t h : List Int) : Prop := ∀ i, i < h.length → 0 ≤ h.getD i 0 → t.getD i 0 = h.getD i 0
instance (t h : List Int) : Decidable (Noted t h) := by unfold Noted; infer_instance
theorem getD_of {α : Type} {l : List α} {i : Nat} {d x : α} (h : l[i]? = some x) : l.getD i d = x := by simp [List.getD, h]
set_option maxRecDepth 100000 in
theorem c_noted (t h : List Int) (hth : t.length = h.length) (hl : h.length < 4611686018427387904) (H : List Blk) : ACall Tryz.prog 157 [eInts t, eInts h] H (.ret (.lit (.bool (decide (Noted t h))))) H := by
 refine fn_rule (m := false) (fn := Tryz.f157) (c := (Tryz.f157.body).getD .skip) mixed (by kernel_rfl) (by kernel_rfl) (of_decide_eq_true (by kernel_rfl)) ?_ ?_ ?_ H
 ·exact ⟨under_eInts 0 _, under_eInts 0 _, trivial⟩
 ·trivial
 ·refine LoopG.at (n0 := 0) rfl (loop_up mixed (m := false) (fun r => [(0, eInts t), (7, eInts h), (8, n' h.length), (9, n' r)]) (fun _ => []) (fun r => ∀ i, i < r → 0 ≤ h.getD i 0 → t.getD i 0 = h.getD i 0) h.length 0 (Nat.zero_le _) (fun _ h => absurd h (Nat.not_lt_zero _)) ?_ trivial ?_)
  ·exact ⟨⟨_, rfl, Weak.refl _ _, under_eInts _ _⟩, ⟨_, rfl, Weak.refl _ _, under_eInts _ _⟩, wp rfl trivial, wp rfl trivial, trivial⟩
  ·intro r hr hI
   refine If.mk (fun h1 => ?_) (fun h1 => ?_)
   ·refine ifY ?_
    obtain ⟨x, hx1, _, _⟩ := at_some (l := h) (r := r) (by omega)
    obtain ⟨y, hy1, _, _⟩ := at_some (l := t) (r := r) (by omega)
    have next : (0 ≤ x → y = x) → ∀ i, i < r + 1 → 0 ≤ h.getD i 0 → t.getD i 0 = h.getD i 0 := fun hxy i hi => by
     rcases Nat.lt_or_ge i r with hlt | hge
     ·exact hI i hlt
     ·have : i = r := by omega
      subst this
      rw [getD_of hx1, getD_of hy1]; exact hxy
    refine Ex.mk _ (jx_ints (r := r) rfl hx1) ?_
    refine Ex.mk _ rfl ?_
    refine If.mk (fun h2 => ?_) (fun h2 => ?_)
    ·refine Ex.mk _ (jx_ints (r := r) rfl hy1) ?_
     refine Ex.mk _ rfl ?_
     refine If.mk (fun h3 => ?_) (fun h3 => ?_)
     ·refine ifN ?_
      refine Side.mk (fits64 (by omega)) ?_
      exact ⟨Nat.zero_le _, rfl, by omega, next (fun _ => h3), ⟨⟨_, rfl, Weak.refl _ _, under_eInts _ _⟩, ⟨_, rfl, Weak.refl _ _, under_eInts _ _⟩, wp rfl trivial, wp rfl trivial, trivial⟩, trivial, trivial⟩
     ·refine ifY ?_
      exact ⟨Nat.zero_le _, .inl rfl, FinG.no rfl rfl (fun e => h3 (by have := e r (by omega); rw [getD_of hx1, getD_of hy1] at this; exact this h2))⟩
    ·refine ifN ?_
     refine Side.mk (fits64 (by omega)) ?_
     exact ⟨Nat.zero_le _, rfl, by omega, next (fun e => absurd e h2), ⟨⟨_, rfl, Weak.refl _ _, under_eInts _ _⟩, ⟨_, rfl, Weak.refl _ _, under_eInts _ _⟩, wp rfl trivial, wp rfl trivial, trivial⟩, trivial, trivial⟩
   ·refine ifN ?_
    have er : r = h.length := by omega
    subst er
    exact ⟨Nat.zero_le _, .inl rfl, FinG.yes rfl rfl (hI)⟩
def Agrees (v : Vers) (evs : List Evening) : Prop := ∀ e ∈ evs, Noted (plays v 0 e.1) e.2
instance (v : Vers) (evs : List Evening) : Decidable (Agrees v evs) := by unfold Agrees; infer_instance
def remL (vs : List Vers) (evs : List Evening) : Nat → List Int
 | 0 => []
 | r + 1 => if Agrees (vs.getD r []) evs then remL vs evs r ++ [(r : Int)] else remL vs evs r
theorem remL_length (vs : List Vers) (evs : List Evening) : ∀ r, (remL vs evs r).length ≤ r
 | 0 => Nat.le_refl _
 | r + 1 => by
  have ih := remL_length vs evs r
  unfold remL
  split
  ·rw [List.length_append]; simp; omega
  ·omega
theorem jx_evenings {l : List Evening} {tl : Tail} {i : Int} {r : Nat} {x : Evening} (hi : i = r) (h : l[r]? = some x) : indexOp Tryz.prog 40 (.sl l.length (l.flatMap cEvening) tl) (.lit (.int .i64 i)) = some (.eptr (cEvening x)) := by
 obtain ⟨h1, rfl⟩ := List.getElem?_eq_some_iff.1 h
 exact ix_evenings hi h1
def remA (b : Book) (evs : List Evening) (r : Nat) : AV := .sl (remL b.vs evs r).length ((remL b.vs evs r).map n') (.own 1 (remL b.vs evs r).length 1)
set_option maxRecDepth 100000 in
theorem c_remains {b : Book} (hB : BOk b) {evs : List Evening} (hE : ∀ e ∈ evs, EvOk b e) (hel : evs.length < 1000) (H : List Blk) : ACall Tryz.prog 98 [eBook b, eEvenings evs] H (.ret (eInts (remL b.vs evs b.vs.length))) H := by
 have hvl := hB.1.2.2
 unfold inI at hvl
 have h0c := hB.1.1.1
 refine fn_rule (m := false) (fn := Tryz.f98) (c := (Tryz.f98.body).getD .skip) mixed (by kernel_rfl) (by kernel_rfl) (of_decide_eq_true (by kernel_rfl)) ?_ ?_ ?_ H
 ·exact ⟨under_eBook 0 _, under_eEvenings 0 _, trivial⟩
 ·exact under_eInts 0 _
 ·refine LoopG.ghost (LoopG.at (n0 := 2) rfl ?_)
  refine loop_up mixed (m := false) (fun r => [(1, eEvenings evs), (5, remA b evs r), (13, eVersions b.vs), (14, n' b.vs.length), (15, n' r)]) (fun r => [(1, .row (remL b.vs evs r).length)]) (fun _ => True) b.vs.length 1 (leb rfl) trivial ?_ ?_ ?_
  ·exact ⟨⟨_, rfl, Weak.refl _ _, under_eEvenings _ _⟩, ⟨_, rfl, Weak.own (r := 1) (g := 0) 1 rfl, ⟨trivial, ltb rfl⟩⟩, ⟨_, rfl, Weak.refl _ _, under_eVersions _ _⟩, wp rfl trivial, wp rfl trivial, trivial⟩
  ·exact ⟨bk rfl rfl, trivial⟩
  ·intro r hr _
   have hrl := remL_length b.vs evs r
   refine If.mk (fun h1 => ?_) (fun h1 => ?_)
   ·refine ifY ?_
    obtain ⟨v, hv, _, hvm⟩ := at_some (l := b.vs) (r := r) (by omega)
    obtain ⟨hvo, h0⟩ := (hB.2 v hvm).vers
    have evd : b.vs.getD r [] = v := getD_of hv
    refine Ex.mk _ (jx_versions (r := r) rfl hv) ?_
    refine Ex.mk _ rfl ?_
    refine LoopG.at (n0 := 3) rfl (loop_up mixed (m := false) (fun q => [(1, eEvenings evs), (5, remA b evs r), (6, n' r), (7, .ptr 2 0), (13, eVersions b.vs), (14, n' b.vs.length), (15, n' r), (20, eEvenings evs), (21, n' evs.length), (22, n' q)]) (fun _ => [(1, .row (remL b.vs evs r).length), (2, vBox v)]) (fun q => ∀ e ∈ evs.take q, Noted (plays v 0 e.1) e.2) evs.length 2 (leb rfl) (fun _ h => by simp at h) ?_ ?_ ?_)
    ·exact ⟨⟨_, rfl, Weak.refl _ _, under_eEvenings _ _⟩, ⟨_, rfl, Weak.refl _ _, ⟨under_ints _ _, ltb rfl⟩⟩, wp rfl trivial, wp rfl (ltb rfl), ⟨_, rfl, Weak.refl _ _, under_eVersions _ _⟩, wp rfl trivial, wp rfl trivial, ⟨_, rfl, Weak.refl _ _, under_eEvenings _ _⟩, wp rfl trivial, wp rfl trivial, trivial⟩
    ·exact ⟨bk rfl rfl, bk rfl rfl, trivial⟩
    ·intro q hq hJ
     refine If.mk (fun h2 => ?_) (fun h2 => ?_)
     ·refine ifY ?_
      obtain ⟨e, he, _, hem⟩ := at_some (l := evs) (r := q) (by omega)
      obtain ⟨⟨hle1, hle2⟩, hle3⟩ := hE e hem
      obtain ⟨hc1, hc2⟩ := hle1.cues (by omega)
      refine Ex.mk _ (jx_evenings (r := q) rfl he) ?_
      refine Ex.mk _ rfl ?_
      refine CallG.pure _ (c_played hvo h0 hc1 hc2) ?_
      refine CallG.bool (c_noted _ _ (by rw [plays_length]; omega) (by omega)) (fun h3 => ?_) (fun h3 => ?_)
      ·refine ifN ?_
       refine Side.mk (fits64 (by omega)) ?_
       refine ⟨leb rfl, rfl, by omega, ?_, ⟨⟨_, rfl, Weak.refl _ _, under_eEvenings _ _⟩, ⟨_, rfl, Weak.refl _ _, ⟨under_ints _ _, ltb rfl⟩⟩, wp rfl trivial, wp rfl (ltb rfl), ⟨_, rfl, Weak.refl _ _, under_eVersions _ _⟩, wp rfl trivial, wp rfl trivial, ⟨_, rfl, Weak.refl _ _, under_eEvenings _ _⟩, wp rfl trivial, wp rfl trivial, trivial⟩, ⟨bk rfl rfl, bk rfl rfl, trivial⟩, trivial⟩
       obtain ⟨hq1, rfl⟩ := List.getElem?_eq_some_iff.1 he
       exact all_snoc (p := fun e : Evening => Noted (plays v 0 e.1) e.2) hq1 hJ h3
      ·refine ifY ?_
       refine ⟨leb rfl, ?_⟩
       refine Side.mk (fits64 (by omega)) ?_
       have e5 : remL b.vs evs (r + 1) = remL b.vs evs r := by
        show (if Agrees (b.vs.getD r []) evs then remL b.vs evs r ++ [(r : Int)] else remL b.vs evs r) = _
        rw [evd, if_neg (fun x => h3 (x e hem))]
       refine ⟨leb rfl, rfl, by omega, trivial, ⟨⟨_, rfl, Weak.refl _ _, under_eEvenings _ _⟩, ⟨_, rfl, Weak.of_eq (?_), ⟨under_ints _ _, ltb rfl⟩⟩, ⟨_, rfl, Weak.refl _ _, under_eVersions _ _⟩, wp rfl trivial, wp rfl trivial, trivial⟩, ⟨⟨?_, ltb rfl⟩, trivial⟩, trivial⟩
       ·unfold remA; rw [e5]
       ·show some (Blk.row (remL b.vs evs r).length) = some (Blk.row (remL b.vs evs (r + 1)).length)
        rw [e5]
     ·refine ifN ?_
      refine ⟨leb rfl, ?_⟩
      refine ex_app _ _ (app_int (List.length_map _) (by omega) rfl) ?_
      refine Side.mk (fits64 (by omega)) ?_
      have hag : Agrees v evs := all_end (p := fun e : Evening => Noted (plays v 0 e.1) e.2) (by omega) hJ
      have e5 : remL b.vs evs (r + 1) = remL b.vs evs r ++ [(r : Int)] := by
       show (if Agrees (b.vs.getD r []) evs then remL b.vs evs r ++ [(r : Int)] else remL b.vs evs r) = _
       rw [evd, if_pos hag]
      refine ⟨leb rfl, rfl, by omega, trivial, ⟨⟨_, rfl, Weak.refl _ _, under_eEvenings _ _⟩, ⟨_, rfl, Weak.of_eq (?_), ⟨under_ints _ _, ltb rfl⟩⟩, ⟨_, rfl, Weak.refl _ _, under_eVersions _ _⟩, wp rfl trivial, wp rfl trivial, trivial⟩, ⟨⟨?_, ltb rfl⟩, trivial⟩, ⟨_, rfl, trivial⟩, trivial⟩
      ·unfold remA; rw [e5, List.length_append, List.map_append]; rfl
      ·show some (Blk.row ((remL b.vs evs r).length + 1)) = some (Blk.row (remL b.vs evs (r + 1)).length)
       rw [e5, List.length_append]; rfl
   ·refine ifN ?_
    have er : r = b.vs.length := by omega
    subst er
    refine ⟨leb rfl, .inl rfl, FinG.mk _ rfl rfl ?_⟩
    show AV.sl _ (AV.freezes _ ((remL b.vs evs b.vs.length).map n')) .unk = _
    rw [freezes_ints]
    rfl
set_option maxRecDepth 100000 in
theorem c_Remains_ok {b : Book} (hl : BLen b) (hB : BOk b) {evs : List Evening} (hE : EvsOk b evs) (H : List Blk) : ACall Tryz.prog 37 [eBook b, eEvenings evs] H (.ret (.tup [eInts (remL b.vs evs b.vs.length), .lit (.int .i64 0)])) H := by
 have hel := hE.2
 refine fn_rule (m := false) (fn := Tryz.f37) (c := (Tryz.f37.body).getD .skip) mixed (by kernel_rfl) (by kernel_rfl) (of_decide_eq_true (by kernel_rfl)) ?_ ?_ ?_ H
 ·exact ⟨under_eBook 0 _, under_eEvenings 0 _, trivial⟩
 ·exact under_tup2 (under_eInts 0 _) trivial
 ·refine CallG.bool (c_isBook hl) (fun _ => ?_) (fun x => absurd hB x)
  refine CallG.bool (c_areEvenings hB.fit _ (by omega) (fun e he => ?_)) (fun _ => ?_) (fun x => absurd hE x)
  ·obtain ⟨⟨⟨g1, _⟩, ⟨_, g2⟩⟩, _⟩ := hE.1 e he
   omega
  ·refine ifN ?_
   refine CallG.pure _ (c_remains hB hE.1 (by omega)) ?_
   refine ⟨.inl rfl, FinG.mk _ rfl rfl ?_⟩
   show AV.tup [AV.freeze _ (eInts _), _] = _
   rw [freeze_eInts]
   rfl
def Listed (l : List Int) (n : Int) : Prop := n ∈ l
instance (l : List Int) (n : Int) : Decidable (Listed l n) := by unfold Listed; infer_instance
set_option maxRecDepth 100000 in
theorem c_listed (l : List Int) (n : Int) (hl : l.length < 4611686018427387904) (H : List Blk) : ACall Tryz.prog 44 [eInts l, n' n] H (.ret (.lit (.bool (decide (Listed l n))))) H := by
 refine fn_rule (m := false) (fn := Tryz.f44) (c := (Tryz.f44.body).getD .skip) mixed (by kernel_rfl) (by kernel_rfl) (of_decide_eq_true (by kernel_rfl)) ?_ ?_ ?_ H
 ·exact ⟨under_eInts 0 _, trivial, trivial⟩
 ·trivial
 ·refine LoopG.at (n0 := 0) rfl (loop_up mixed (m := false) (fun r => [(0, eInts l), (1, n' n), (5, n' r)]) (fun _ => []) (fun r => ∀ x ∈ l.take r, x ≠ n) l.length 0 (Nat.zero_le _) (fun _ h => by simp at h) ?_ trivial ?_)
  ·exact ⟨⟨_, rfl, Weak.refl _ _, under_eInts _ _⟩, wp rfl trivial, wp rfl trivial, trivial⟩
  ·intro r hr hI
   refine If.mk (fun h1 => ?_) (fun h1 => ?_)
   ·refine ifY ?_
    have hr' : r < l.length := by omega
    refine Ex.mk _ (ix_ints (r := r) rfl hr') ?_
    refine Ex.mk _ rfl ?_
    refine If.mk (fun h2 => ?_) (fun h2 => ?_)
    ·refine ifY ?_
     exact ⟨Nat.zero_le _, .inl rfl, FinG.yes rfl rfl ((show n ∈ l from h2 ▸ List.getElem_mem hr'))⟩
    ·refine ifN ?_
     refine Side.mk (fits64 (by omega)) ?_
     exact ⟨Nat.zero_le _, rfl, by omega, all_snoc (p := fun x => x ≠ n) hr' hI h2, ⟨⟨_, rfl, Weak.refl _ _, under_eInts _ _⟩, wp rfl trivial, wp rfl trivial, trivial⟩, trivial, trivial⟩
   ·refine ifN ?_
    exact ⟨Nat.zero_le _, .inl rfl, FinG.no rfl rfl (fun x => all_end (p := fun x => x ≠ n) (by omega) hI n x rfl)⟩
end Go.Vm

namespace Go.Vm
open Go.Proofs
def VersL (b : Book) (l : List Int) : Prop := ∀ r, r < l.length → inI (l.getD r 0) 0 (b.vs.length - 1) ∧ (0 < r → l.getD (r - 1) 0 < l.getD r 0)
instance (b : Book) (l : List Int) : Decidable (VersL b l) := by unfold VersL; infer_instance
theorem src_evenings (g : Nat → Option Blk) (l : List Evening) (tl : Tail) : srcT g 2 (.sl l.length (l.flatMap cEvening) tl) = some (l.length, l.flatMap cEvening) := by
 show (if (l.flatMap cEvening).length = l.length * 2 then some (l.length, l.flatMap cEvening) else none) = _
 rw [if_pos (flat2_length (fun _ => rfl) l)]
theorem appT_full {P : Program} {g : Nat → Option Blk} {n sT xT e size bytes len k : Nat} {z : Value} {cells new : List AV} {x : AV} (h1 : tslice P sT = some e) (h2 : tsz P e = some size) (h3 : tz P e = some z) (h4 : tbytes P e = some bytes)
  (h5 : (tsrc P xT && (decide (bytes ≤ 2097152) && decide (z.cells.size = size))) = true) (h6 : srcT g size x = some (k, new)) (h7 : 0 < k) (h8 : cells.length = len * size) (h9 : len + k ≤ 2097152) :
  appT P false g n sT xT (.sl len cells .full) x = some (.sl (len + k) (cells ++ new) (.own n 0 size), .push (.row 0)) := by
 unfold appT
 simp only [h1, h2, h3, h4, h5, h6, if_true]
 rw [if_neg (by omega), if_pos ⟨h8, h9⟩]
 rfl
theorem ACall.empty {P : Program} {f : FuncId} {H H' : List Blk} {r : AEnd} (h : ∀ b cap, ACall P f [.lit (.slice b 0 cap)] H r H') : ACall P f [.sl 0 [] .unk] H r H' := by
 intro O ι w cs hR hargs
 obtain ⟨l⟩ := cs
 match l, hargs with
 | [], x => simp [VRels] at x
 | _ :: _ :: _, x => simp [VRels] at x
 | [c], x =>
  simp only [VRels, VRel, and_true] at x
  obtain ⟨base, cap, rfl, _, _⟩ := x
  exact h base cap O ι w _ hR (by simp [VRels, VRel])
set_option maxRecDepth 100000 in
theorem c_clone00 (cap : Nat) (H : List Blk) : ACall Tryz.prog 160 [.lit (.slice none 0 cap)] H (.ret (.lit (.slice none 0 0))) H := by
 refine fn_rule (m := false) (fn := Tryz.f160) (c := (Tryz.f160.body).getD .skip) mixed (by kernel_rfl) (by kernel_rfl) (of_decide_eq_true (by kernel_rfl)) ?_ ?_ ?_ H
 ·exact ⟨trivial, trivial⟩
 ·trivial
 ·refine ifY ?_
  exact ⟨.inl rfl, FinG.mk _ rfl rfl rfl⟩
set_option maxRecDepth 100000 in
theorem c_clone01 (a : Addr) (cap : Nat) (H : List Blk) : ACall Tryz.prog 160 [.lit (.slice (some a) 0 cap)] H (.ret (.sl 0 [] .full)) H := by
 refine fn_rule (m := false) (fn := Tryz.f160) (c := (Tryz.f160.body).getD .skip) mixed (by kernel_rfl) (by kernel_rfl) (of_decide_eq_true (by kernel_rfl)) ?_ ?_ ?_ H
 ·exact ⟨trivial, trivial⟩
 ·exact ⟨trivial, trivial⟩
 ·refine ifN ?_
  refine Ex.mk _ rfl ?_
  exact ⟨.inl rfl, FinG.mk _ rfl rfl rfl⟩
theorem ACall.more {P : Program} {f : FuncId} {args : List AV} {H H' : List Blk} {v v' : AV} (h : ACall P f args H (.ret v) H') (B : Blk) (hw : WeakH (H' ++ [.row 0]) v v') (hB : B = .row 0) : ACall P f args H (.ret v') (H' ++ [B]) := by
 subst hB
 intro O ι w cs hR hargs
 refine (h O ι w cs hR hargs).mono ?_
 rintro e w' ⟨ι', hend, hR', hev, hnon⟩
 cases e with
 | panicked chain => exact hend.elim
 | outgrown => exact hend.elim
 | returned c =>
  have hend' : VRel ⟨H', ι', w'⟩ v c := hend
  have hev2 : Ev ⟨H', ι', w'⟩ ⟨H' ++ [.row 0], ι', w'⟩ := Ev.fresh hR' (w' := w') (H2 := [.row 0]) (fun _ _ => rfl) ⟨rfl, rfl⟩
  have hR2 : Rel ⟨H' ++ [.row 0], ι', w'⟩ := Rel.fresh hR' (w' := w') (H2 := [.row 0]) (fun _ _ => rfl) ⟨rfl, rfl⟩
  exact ⟨ι', hw O ι' w' c (hend'.ev hev2), hR2, hev.trans hev2, fun id hn hx => hnon id hn hx⟩
theorem WeakH.own {H : List Blk} {r : Nat} (sz : Nat) (hr : H[r]? = some (.row 0)) : WeakH H (.lit (.slice none 0 0)) (.sl 0 [] (.own r 0 sz)) := fun _ _ _ _ h => by
 simp only [VRel] at h ⊢
 exact ⟨none, 0, h, Nat.le_refl _, .inl trivial, by simp, 0, hr, Nat.le_refl _, fun _ => .inl rfl⟩
theorem WeakH.fullOwn {H : List Blk} {r : Nat} (sz : Nat) (hr : H[r]? = some (.row 0)) : WeakH H (.sl 0 [] .full) (.sl 0 [] (.own r 0 sz)) := fun _ _ _ _ h => by
 simp only [VRel] at h ⊢
 obtain ⟨base, cap, hc, hle, hcells, ht⟩ := h
 exact ⟨base, cap, hc, hle, hcells, by simp, 0, hr, Nat.le_refl _, fun _ => .inl ht⟩
set_option maxRecDepth 100000 in
theorem CallG.clone {l : List Evening} {t : Trie Blk} {n : Nat} {K Kp : AV → Trie Blk → Nat → Nat → Prop} (hl : l.length < 1000000) (hn : n ≤ noLo) (k : K (.sl l.length (l.flatMap cEvening) (.own n 0 2)) (set t n (.row 0)) (n + 1) noLo) : CallG Tryz.prog 160 [eEvenings l] t n K Kp := by
 refine .ret fun H hH => ?_
 have hlen := hH.len
 have hrow : (H ++ [Blk.row 0])[n]? = some (.row 0) := by rw [← hlen]; simp
 cases l with
 | nil =>
  refine ⟨_, _, _, noLo, H ++ [.row 0], hH.push _, ?_, Keep.append _ _ _, k⟩
  refine ACall.empty fun b cap => ?_
  cases b with
  | none => exact (c_clone00 cap H).more (.row 0) (WeakH.own 2 hrow) rfl
  | some a => exact (c_clone01 a cap H).more (.row 0) (WeakH.fullOwn 2 hrow) rfl
 | cons e l =>
  have key : ∃ H', HT (setL t [(n, .row 0)]) (n + 1) H' ∧ ACall Tryz.prog 160 [eEvenings (e :: l)] H (.ret (.sl (e :: l).length ((e :: l).flatMap cEvening) (.own n 0 2))) H' ∧ Keep H H' noLo := by
   refine fn_new (m := false) (fn := Tryz.f160) (c := (Tryz.f160.body).getD .skip) mixed (by kernel_rfl) (by kernel_rfl) (of_decide_eq_true (by kernel_rfl)) ?_ H hH
   refine ifN ?_
   refine ex_app _ _ (appT_full (e := 51) (bytes := 48) (z := .agg #[.slice none 0 0, .slice none 0 0]) (by kernel_rfl) (by kernel_rfl) (by kernel_rfl) (by kernel_rfl) (by kernel_rfl) (src_evenings _ (e :: l) _) (by simp) rfl (by simp at hl ⊢; omega)) ?_
   refine ⟨.inl rfl, hn, rfl, ⟨⟨get_set_same _ _ _, Nat.lt_succ_self _⟩, trivial⟩, FinF.mk _ rfl rfl ?_⟩
   show AV.sl (0 + (e :: l).length) ([] ++ (e :: l).flatMap cEvening) _ = _
   rw [List.nil_append, Nat.zero_add]
  obtain ⟨H', h1, h2, h3⟩ := key
  exact ⟨_, _, _, noLo, H', h1, h2, h3, k⟩
theorem app_evening {g : Nat → Option Blk} {n len id gen : Nat} {cells : List AV} {e : Evening} (h1 : cells.length = len * 2) (h2 : len < 2097152) (hg : g id = some (.row gen)) :
  appT Tryz.prog false g n 40 40 (.sl len cells (.own id gen 2)) (.sl 1 (cEvening e) .full) = some (.sl (len + 1) (cells ++ cEvening e) (.own id (gen + 1) 2), .set id (.row (gen + 1))) :=
 appT_own (e := 51) (bytes := 48) (z := .agg #[.slice none 0 0, .slice none 0 0]) (by kernel_rfl) (by kernel_rfl) (by kernel_rfl) (by kernel_rfl) (by kernel_rfl) rfl (by omega) h1 (by omega) hg rfl
theorem wk_evs {l : List Evening} {e : Evening} {tl : Tail} (H : List Blk) : WeakH H (.sl (l.length + 1) (l.flatMap cEvening ++ cEvening e) tl) (eEvenings (l ++ [e])) := by
 unfold eEvenings
 rw [List.length_append, List.flatMap_append]
 have : ([e] : List Evening).flatMap cEvening = cEvening e := rfl
 rw [this]
 exact WeakH.tail _ _ _ H
set_option maxRecDepth 100000 in
theorem c_some {b : Book} (hB : BOk b) {evs : List Evening} (hE : ∀ e ∈ evs, EvOk b e) (hl : evs.length < 1000) (hne : remL b.vs evs b.vs.length ≠ []) (H : List Blk) : ACall Tryz.prog 159 [eBook b, eEvenings evs] H (.ret (eInts (remL b.vs evs b.vs.length))) H := by
 refine fn_rule (m := false) (fn := Tryz.f159) (c := (Tryz.f159.body).getD .skip) mixed (by kernel_rfl) (by kernel_rfl) (of_decide_eq_true (by kernel_rfl)) ?_ ?_ ?_ H
 ·exact ⟨under_eBook 0 _, under_eEvenings 0 _, trivial⟩
 ·exact under_eInts 0 _
 ·refine CallG.pure _ (c_remains hB hE hl) ?_
  refine If.mk (fun h => absurd (List.length_eq_zero_iff.1 (by omega)) hne) (fun _ => ?_)
  refine ifN ?_
  refine ⟨.inl rfl, FinG.mk _ rfl rfl ?_⟩
  exact freeze_eInts _ _
def nowBox (e : Evening) : Blk := .box (cEvening e) 51
set_option maxRecDepth 100000 in
theorem c_left {b : Book} (hl : BLen b) (hB : BOk b) {evs : List Evening} (hE : EvsOk b evs) {now : Evening} (hN : EvOk b now) (hne : remL b.vs (evs ++ [now]) b.vs.length ≠ []) (H : List Blk) :
  ACall Tryz.prog 99 [eBook b, .lit (.bool true), eEvenings evs, eEvening now] H (.ret (.tup [eInts (remL b.vs (evs ++ [now]) b.vs.length), .lit (.int .i64 0)])) H := by
 have hel := hE.2
 obtain ⟨⟨⟨hn1, hn2⟩, ⟨hn3, hn4⟩⟩, hn5⟩ := hN
 refine fn_rule (m := false) (fn := Tryz.f99) (c := (Tryz.f99.body).getD .skip) mixed (by kernel_rfl) (by kernel_rfl) (of_decide_eq_true (by kernel_rfl)) ?_ ?_ ?_ H
 ·exact ⟨under_eBook 0 _, trivial, under_eEvenings 0 _, under_eEvening 0 _, trivial⟩
 ·exact under_tup2 (under_eInts 0 _) trivial
 ·refine CallG.bool (c_isBook hl) (fun _ => ?_) (fun x => absurd hB x)
  refine CallG.bool (c_areEvenings hB.fit _ (by omega) (fun e he => ?_)) (fun _ => ?_) (fun x => absurd hE x)
  ·obtain ⟨⟨⟨g1, _⟩, ⟨_, g2⟩⟩, _⟩ := hE.1 e he
   omega
  ·refine CallG.bool (c_isEvening hB.fit now (by omega) (by omega)) (fun _ => ?_) (fun x => absurd ⟨⟨⟨hn1, hn2⟩, ⟨hn3, hn4⟩⟩, hn5⟩ x)
   refine ifN ?_
   refine CallG.fine rfl rfl ?_
   refine CallG.inline (m := false) (fn := Tryz.f158) (c := (Tryz.f158.body).getD .skip) mixed (by kernel_rfl) (by kernel_rfl) (of_decide_eq_true (by kernel_rfl)) ?_
   refine CallG.clone (by omega) (leb rfl) ?_
   refine ex_app _ _ (app_evening (flat2_length (fun _ => rfl) _) (by omega) rfl) ?_
   refine CallG.weak _ (.cons (fun H => WeakH.refl _ H) (.cons wk_evs .nil)) (c_some hB (fun e he => ?_) (by rw [List.length_append]; simp; omega) hne) ?_
   ·rcases List.mem_append.1 he with he | he
    ·exact hE.1 e he
    ·rw [List.mem_singleton] at he; subst he; exact ⟨⟨⟨hn1, hn2⟩, ⟨hn3, hn4⟩⟩, hn5⟩
   ·refine ⟨.inr rfl, [], rfl, rfl, ⟨_, rfl⟩, ?_⟩
    refine If.mk (fun _ => ?_) (fun h => absurd (by decide) h)
    refine ifN ?_
    refine ⟨.inl rfl, FinG.mk _ rfl rfl ?_⟩
    show AV.tup [AV.freeze _ (eInts _), _] = _
    rw [freeze_eInts]
    rfl
end Go.Vm

namespace Go.Vm
open Go.Proofs
set_option maxRecDepth 100000 in
theorem c_cloneI00 (cap : Nat) (H : List Blk) : ACall Tryz.prog 135 [.lit (.slice none 0 cap)] H (.ret (.lit (.slice none 0 0))) H := by
 refine fn_rule (m := false) (fn := Tryz.f135) (c := (Tryz.f135.body).getD .skip) mixed (by kernel_rfl) (by kernel_rfl) (of_decide_eq_true (by kernel_rfl)) ?_ ?_ ?_ H
 ·exact ⟨trivial, trivial⟩
 ·trivial
 ·refine ifY ?_
  exact ⟨.inl rfl, FinG.mk _ rfl rfl rfl⟩
set_option maxRecDepth 100000 in
theorem c_cloneI01 (a : Addr) (cap : Nat) (H : List Blk) : ACall Tryz.prog 135 [.lit (.slice (some a) 0 cap)] H (.ret (.sl 0 [] .full)) H := by
 refine fn_rule (m := false) (fn := Tryz.f135) (c := (Tryz.f135.body).getD .skip) mixed (by kernel_rfl) (by kernel_rfl) (of_decide_eq_true (by kernel_rfl)) ?_ ?_ ?_ H
 ·exact ⟨trivial, trivial⟩
 ·exact ⟨trivial, trivial⟩
 ·refine ifN ?_
  refine Ex.mk _ rfl ?_
  exact ⟨.inl rfl, FinG.mk _ rfl rfl rfl⟩
set_option maxRecDepth 100000 in
theorem CallG.cloneI {l : List Int} {t : Trie Blk} {n : Nat} {K Kp : AV → Trie Blk → Nat → Nat → Prop} (hl : l.length < 1000000) (hn : n ≤ noLo) (k : K (.sl l.length (l.map n') (.own n 0 1)) (set t n (.row 0)) (n + 1) noLo) : CallG Tryz.prog 135 [eInts l] t n K Kp := by
 refine .ret fun H hH => ?_
 have hlen := hH.len
 have hrow : (H ++ [Blk.row 0])[n]? = some (.row 0) := by rw [← hlen]; simp
 cases l with
 | nil =>
  refine ⟨_, _, _, noLo, H ++ [.row 0], hH.push _, ?_, Keep.append _ _ _, k⟩
  refine ACall.empty fun b cap => ?_
  cases b with
  | none => exact (c_cloneI00 cap H).more (.row 0) (WeakH.own 1 hrow) rfl
  | some a => exact (c_cloneI01 a cap H).more (.row 0) (WeakH.fullOwn 1 hrow) rfl
 | cons e l =>
  have key : ∃ H', HT (setL t [(n, .row 0)]) (n + 1) H' ∧ ACall Tryz.prog 135 [eInts (e :: l)] H (.ret (.sl (e :: l).length ((e :: l).map n') (.own n 0 1))) H' ∧ Keep H H' noLo := by
   refine fn_new (m := false) (fn := Tryz.f135) (c := (Tryz.f135.body).getD .skip) mixed (by kernel_rfl) (by kernel_rfl) (of_decide_eq_true (by kernel_rfl)) ?_ H hH
   refine ifN ?_
   refine ex_app _ _ (appT_full (e := 3) (bytes := 8) (z := .int .i64 0) (by kernel_rfl) (by kernel_rfl) (by kernel_rfl) (by kernel_rfl) (by kernel_rfl) (src_ints _ (e :: l)) (by simp) rfl (by simp at hl ⊢; omega)) ?_
   refine ⟨.inl rfl, hn, rfl, ⟨⟨get_set_same _ _ _, Nat.lt_succ_self _⟩, trivial⟩, FinF.mk _ rfl rfl ?_⟩
   show AV.sl (0 + (e :: l).length) ([] ++ (e :: l).map n') _ = _
   rw [List.nil_append, Nat.zero_add]
  obtain ⟨H', h1, h2, h3⟩ := key
  exact ⟨_, _, _, noLo, H', h1, h2, h3, k⟩
end Go.Vm
