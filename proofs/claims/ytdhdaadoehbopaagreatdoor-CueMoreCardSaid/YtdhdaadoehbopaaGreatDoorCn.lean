/-
  Contracts of functions of packages kelirlaw04, kelirref04, kelirref02, cue and slices, for books, evenings and lists as told at each, in every heap. Conditions: at each theorem. (Never; lists of cues; Danger, Fence and Bad of the specification.)
-/
import Derived.Test.YtdhdaadoehbopaaGreatDoorCa
import Derived.Test.YtdhdaadoehbopaaGreatDoorCb
import Derived.Test.YtdhdaadoehbopaaGreatDoorCj

namespace Go.Vm
open Go.Proofs
def tuneN (b : Book) (cues : List Int) (c : Nat) (n : Int) : Int := (mv (b.vs.getD n.toNat []) (after (b.vs.getD n.toNat []) 0 cues) c).2
theorem tune_at {b : Book} (hB : BOk b) {cues : List Int} (hc : CuesOk b.cues.toNat cues) {n : Int} (hn : 0 ≤ n ∧ n < b.vs.length) {c : Nat} (hcc : c < b.cues.toNat) :
  ∃ v x m, b.vs[n.toNat]? = some v ∧ VersOk v b.cues.toNat ∧ 0 < v.length ∧ v[after v 0 cues]? = some x ∧ x[c]? = some m ∧ m.2 = tuneN b cues c n := by
 obtain ⟨v, hv⟩ : ∃ v, b.vs[n.toNat]? = some v := ⟨_, List.getElem?_eq_getElem (by omega)⟩
 obtain ⟨hvo, hv0⟩ := (hB.2 v (List.mem_of_getElem? hv)).vers
 obtain ⟨x, h1, h2, _, _⟩ := mv_at hvo (after_lt hvo hc hv0) hcc
 refine ⟨v, x, _, hv, hvo, hv0, h1, h2, ?_⟩
 have e : b.vs.getD n.toNat [] = v := getD_of hv
 unfold tuneN
 rw [e]
def Plays1 (b : Book) (L : List Int) (cues : List Int) (tune : Int) (c : Nat) : Prop := ∃ n ∈ L, tuneN b cues c n = tune
instance (b : Book) (L : List Int) (cues : List Int) (tune : Int) (c : Nat) : Decidable (Plays1 b L cues tune c) := by unfold Plays1; infer_instance
def badL (b : Book) (L : List Int) (cues : List Int) (tune : Int) : Nat → List Int
 | 0 => []
 | r + 1 => if Plays1 b L cues tune r then badL b L cues tune r ++ [(r : Int)] else badL b L cues tune r
theorem badL_length (b : Book) (L : List Int) (cues : List Int) (tune : Int) : ∀ r, (badL b L cues tune r).length ≤ r
 | 0 => Nat.le_refl _
 | r + 1 => by
  have ih := badL_length b L cues tune r
  unfold badL
  split
  ·rw [List.length_append]; simp; omega
  ·omega
def rowI (l : List Int) (id : Nat) : AV := .sl l.length (l.map n') (.own id l.length 1)
theorem under_rowI {n id : Nat} (h : id < n) (l : List Int) : (rowI l id).under n := ⟨under_ints _ _, h⟩
def tBox (t : Int) : Blk := .box [n' t] 3
def nvL (b : Book) (now : Evening) (tune c : Int) : List (Nat × Blk) := [(0, bBox b), (1, nowBox now), (2, tBox tune), (16, tBox c)]
set_option maxRecDepth 100000 in
theorem c_137 {b : Book} (hB : BOk b) {now : Evening} (hc : CuesOk b.cues.toNat now.1) (hL : now.1.length < 1000000) {tune : Int} {c : Nat} (hcc : c < b.cues.toNat) (n : Int) (hn : 0 ≤ n ∧ n < b.vs.length) (H : List Blk) (hH : HT (ofL (nvL b now tune c)) 17 H) :
  ACall Tryz.prog 137 [n' n, .ptr 0 0, .ptr 1 0, .ptr 16 0, .ptr 2 0] H (.ret (.lit (.bool (decide (tuneN b now.1 c n = tune))))) H := by
 obtain ⟨v, x, m, hv, hvo, hv0, hx1, hx2, e⟩ := tune_at hB hc hn hcc
 refine fn_at (m := false) (fn := Tryz.f137) (c := (Tryz.f137.body).getD .skip) mixed (by kernel_rfl) (by kernel_rfl) (of_decide_eq_true (by kernel_rfl)) rfl ?_ H hH
 refine Ex.mk _ (jx_versions (r := n.toNat) (by omega) hv) ?_
 refine Ex.mk _ rfl ?_
 refine CallG.pure _ (c_played hvo hv0 hc hL) ?_
 refine CallG.pure _ (c_hears hx1 hx2) ?_
 refine If.mk (fun h => ?_) (fun h => ?_)
 ·exact ⟨.inl rfl, leb rfl, FinF.bool rfl rfl ⟨fun _ => rfl, fun _ => by rw [← e]; exact h⟩⟩
 ·exact ⟨.inl rfl, leb rfl, FinF.bool rfl rfl ⟨fun y => absurd (e.trans y) h, fun y => by cases y⟩⟩
set_option maxHeartbeats 4000000 in
set_option maxRecDepth 100000 in
theorem c_Never {b : Book} (hl : BLen b) (hB : BOk b) {evs : List Evening} (hE : EvsOk b evs) {now : Evening} (hN : EvOk b now) {tune : Int} (ht : inI tune 0 (b.tunes - 1)) (hne : remL b.vs (evs ++ [now]) b.vs.length ≠ []) (H : List Blk) :
  ACall Tryz.prog 74 [eBook b, eEvenings evs, eEvening now, n' tune] H (.ret (.tup [eInts (badL b (remL b.vs (evs ++ [now]) b.vs.length) now.1 tune b.cues.toNat), .lit (.int .i64 0)])) H := by
 have hbc := hB.1.1
 have hvn := hB.1.2.2
 unfold inI at hbc hvn
 have hRl := remL_length b.vs (evs ++ [now]) b.vs.length
 have hmem : ∀ j ∈ remL b.vs (evs ++ [now]) b.vs.length, 0 ≤ j ∧ j < b.vs.length := fun j hj => remL_mem hj
 obtain ⟨hc1, hc2⟩ := hN.1.1.cues (by omega)
 refine fn_rule (m := false) (fn := Tryz.f74) (c := (Tryz.f74.body).getD .skip) mixed (by kernel_rfl) (by kernel_rfl) (of_decide_eq_true (by kernel_rfl)) ?_ ?_ ?_ H
 ·exact ⟨under_eBook 0 _, under_eEvenings 0 _, under_eEvening 0 _, trivial, trivial⟩
 ·exact under_tup2 (under_eInts 0 _) trivial
 ·refine CallG.bool (c_hasTune hB.fit tune) (fun _ => ?_) (fun x => absurd ht x)
  refine CallG.pure _ (c_left hl hB hE hN hne) ?_
  generalize remL b.vs (evs ++ [now]) b.vs.length = L at *
  refine If.mk (fun _ => ?_) (fun h => absurd (by decide) h)
  refine ifN ?_
  refine LoopG.ghost (LoopG.at (n0 := 16) rfl ?_)
  refine loop_up mixed (m := false) (fun r => [(4, .ptr 0 0), (6, .ptr 1 0), (7, .ptr 2 0), (10, eInts L), (12, rowI (badL b L now.1 tune r) 15), (29, n' b.cues), (30, n' r)]) (fun r => [(0, bBox b), (1, nowBox now), (2, tBox tune), (15, .row (badL b L now.1 tune r).length)]) (fun _ => True) b.cues.toNat 15 (leb rfl) trivial ?_ ?_ ?_
  ·exact ⟨wp rfl (ltb rfl), wp rfl (ltb rfl), wp rfl (ltb rfl), ⟨_, rfl, Weak.refl _ _, under_eInts _ _⟩, ⟨_, rfl, Weak.own (r := 15) (g := 0) 1 rfl, ⟨trivial, ltb rfl⟩⟩, wp rfl trivial, wp rfl trivial, trivial⟩
  ·exact ⟨bk rfl rfl, bk rfl rfl, bk rfl rfl, bk rfl rfl, trivial⟩
  ·intro r hr _
   have hbl := badL_length b L now.1 tune r
   refine If.mk (fun h1 => ?_) (fun h1 => ?_)
   ·refine ifY ?_
    refine CallG.atB (p := Plays1 b L now.1 tune r) (fun H hH => c_containsI (n0 := 17) (L0 := nvL b now tune r) (leb rfl) ⟨bk rfl rfl, bk rfl rfl, bk rfl rfl, bk rfl rfl, trivial⟩ 137 [.ptr 0 0, .ptr 1 0, .ptr 16 0, .ptr 2 0] ⟨ltb rfl, ltb rfl, ltb rfl, ltb rfl, trivial⟩ (fun n => tuneN b now.1 r n = tune) L (by omega) rfl (fun n hn H hH => c_137 hB hc1 hc2 (by omega) n (hmem n hn) H hH) H (hH.sub ⟨bk rfl rfl, bk rfl rfl, bk rfl rfl, bk rfl rfl, trivial⟩)) (fun h4 => ?_) (fun h4 => ?_)
    ·have e5 : badL b L now.1 tune (r + 1) = badL b L now.1 tune r ++ [(r : Int)] := if_pos h4
     refine ifY ?_
     refine ex_app _ _ (app_int (List.length_map _) (by omega) rfl) ?_
     refine Side.mk (fits64 (by omega)) ?_
     refine ⟨leb rfl, rfl, by omega, trivial, ⟨wp rfl (ltb rfl), wp rfl (ltb rfl), wp rfl (ltb rfl), ⟨_, rfl, Weak.refl _ _, under_eInts _ _⟩, ⟨_, rfl, Weak.of_eq (?_), under_rowI (ltb rfl) _⟩, wp rfl trivial, wp rfl trivial, trivial⟩, ⟨bk rfl rfl, bk rfl rfl, bk rfl rfl, ⟨?_, ltb rfl⟩, trivial⟩, ⟨_, rfl, trivial⟩, trivial⟩
     ·unfold rowI
      rw [e5, List.length_append, List.map_append]; rfl
     ·rw [e5, List.length_append]; rfl
    ·have e5 : badL b L now.1 tune (r + 1) = badL b L now.1 tune r := if_neg h4
     refine ifN ?_
     refine Side.mk (fits64 (by omega)) ?_
     refine ⟨leb rfl, rfl, by omega, trivial, ⟨wp rfl (ltb rfl), wp rfl (ltb rfl), wp rfl (ltb rfl), ⟨_, rfl, Weak.refl _ _, under_eInts _ _⟩, ⟨_, rfl, Weak.of_eq (?_), under_rowI (ltb rfl) _⟩, wp rfl trivial, wp rfl trivial, trivial⟩, ⟨bk rfl rfl, bk rfl rfl, bk rfl rfl, ⟨?_, ltb rfl⟩, trivial⟩, trivial⟩
     ·rw [e5]
     ·rw [e5]; rfl
   ·refine ifN ?_
    have er : r = b.cues.toNat := by omega
    subst er
    refine ⟨leb rfl, .inl rfl, FinG.mk _ rfl rfl ?_⟩
    show AV.tup [AV.sl _ (AV.freezes _ ((badL b L now.1 tune b.cues.toNat).map n')) .unk, _] = _
    rw [freezes_ints]
    rfl
end Go.Vm
