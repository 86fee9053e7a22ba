/-
  Ask of package cue, by its game, for books and evenings as told at each, in every heap. Conditions: at each theorem.
-/
import Derived.Test.YtdhdaadoehbopaaGreatDoorCz
import Derived.Test.YtdhdaadoehbopaaGreatDoorCf
import Derived.Test.YtdhdaadoehbopaaGreatDoorCb
import Derived.Test.YtdhdaadoehbopaaGreatDoorVc
import Derived.Test.YtdhdaadoehbopaaGreatDoorCw
import Derived.Test.YtdhdaadoehbopaaGreatDoorCj

namespace Go.Vm
open Go.Proofs
def gX (b : Book) : List AV := [n' b.cues, n' b.tunes, eVersions b.vs, .mpx, .mpx]
theorem under_gX (n : Nat) (b : Book) : AV.unders n (gX b) := ⟨trivial, trivial, under_eVersions n _, trivial, trivial, trivial⟩
def pA (p : P4) : List AV := posA (p, noM)
theorem under_pA (n : Nat) (p : P4) : AV.unders n (pA p) := under_posA n _
def pAs (l : List P4) : List AV := l.flatMap pA
theorem pAs_snoc (l : List P4) (p : P4) : pAs (l ++ [p]) = pAs l ++ pA p := by unfold pAs; rw [List.flatMap_append, List.flatMap_cons, List.flatMap_nil, List.append_nil]
theorem pAs_length : ∀ l : List P4, (pAs l).length = l.length * 5
 | [] => rfl
 | p :: l => by
  have ih := pAs_length l
  unfold pAs at ih ⊢
  rw [List.flatMap_cons, List.length_append, ih, List.length_cons]
  show 5 + l.length * 5 = _
  omega
theorem under_pAs (n : Nat) : ∀ l : List P4, AV.unders n (pAs l)
 | [] => trivial
 | p :: l => unders_append (under_pA n p) (under_pAs n l)
theorem freezes_pAs (g : Nat → Option Blk) : ∀ l : List P4, AV.freezes g (pAs l) = pAs l
 | [] => rfl
 | p :: l => by
  have ih := freezes_pAs g l
  have e : pAs (p :: l) = pA p ++ pAs l := rfl
  rw [e]
  show n' p.1 :: n' p.2.1 :: n' p.2.2.1 :: n' p.2.2.2 :: n' _ :: AV.freezes g (pAs l) = _
  rw [ih]
  rfl
def eP4s (l : List P4) : AV := .sl l.length (pAs l) .unk
theorem under_eP4s (n : Nat) (l : List P4) : (eP4s l).under n := ⟨under_pAs n l, trivial⟩
theorem pAs_drop {l : List P4} {r : Nat} {p : P4} (h : l[r]? = some p) : ∃ R, (pAs l).drop (r * 5) = pA p ++ R := by
 obtain ⟨hr, rfl⟩ := List.getElem?_eq_some_iff.1 h
 have e : l = l.take r ++ l[r] :: l.drop (r + 1) := by rw [← List.drop_eq_getElem_cons hr, List.take_append_drop]
 have e2 : pAs l = pAs (l.take r) ++ (pA l[r] ++ pAs (l.drop (r + 1))) := by
  conv => lhs; rw [e]
  unfold pAs
  rw [List.flatMap_append, List.flatMap_cons]
 refine ⟨pAs (l.drop (r + 1)), ?_⟩
 rw [e2, List.drop_append_of_le_length (by rw [pAs_length, List.length_take]; omega), List.drop_of_length_le (by rw [pAs_length, List.length_take]; omega)]
 rfl
theorem jx_p4 {l : List P4} {tl : Tail} {i : Int} {r : Nat} {p : P4} (hi : i = r) (h : l[r]? = some p) : indexOp Tryz.prog 199 (.sl l.length (pAs l) tl) (.lit (.int .i64 i)) = some (.eptr (pA p)) := by
 subst hi
 have hr := (List.getElem?_eq_some_iff.1 h).1
 refine (indexOp_sl (elem := 130) (n := 5) (by kernel_rfl) (by kernel_rfl) ⟨by omega, by omega, by rw [pAs_length, Int.toNat_natCast]; omega, by omega⟩).trans ?_
 obtain ⟨R, e⟩ := pAs_drop h
 rw [Int.toNat_natCast, e]
 rfl
theorem app_p4 {g : Nat → Option Blk} {n id gen : Nat} {l : List P4} {p : P4} (h2 : l.length < 2097152) (hg : g id = some (.row gen)) :
  appT Tryz.prog false g n 199 199 (.sl l.length (pAs l) (.own id gen 5)) (.sl 1 (pA p) .full) = some (.sl (l.length + 1) (pAs l ++ pA p) (.own id (gen + 1) 5), .set id (.row (gen + 1))) :=
 appT_own (e := 130) (bytes := 40) (z := .agg #[.int .i64 0, .int .i64 0, .int .i64 0, .int .i64 0, .int .i64 0]) (by kernel_rfl) (by kernel_rfl) (by kernel_rfl) (by kernel_rfl) (by kernel_rfl) rfl (by omega) (by rw [pAs_length]) (by omega) hg rfl
def rowP (l : List P4) (id : Nat) : AV := .sl l.length (pAs l) (.own id l.length 5)
theorem under_rowP (n : Nat) {id : Nat} (h : id < n) (l : List P4) : (rowP l id).under n := ⟨under_pAs n l, h⟩
theorem rowP_snoc (l : List P4) (p : P4) (id : Nat) : rowP (l ++ [p]) id = .sl (l.length + 1) (pAs l ++ pA p) (.own id (l.length + 1) 5) := by
 unfold rowP
 rw [pAs_snoc, List.length_append]
 rfl
def spN (vs : List Vers) (c t n i : Nat) (p : Int) : Int := if i < n then spI vs c t i p else p
def smN (vs : List Vers) (c t n : Nat) (p0 p1 p2 p3 : Int) : Bool :=
 (decide (0 < n) && decide (0 ≤ spI vs c t 0 p0)) || ((decide (1 < n) && decide (0 ≤ spI vs c t 1 p1)) || ((decide (2 < n) && decide (0 ≤ spI vs c t 2 p2)) || (decide (3 < n) && decide (0 ≤ spI vs c t 3 p3))))
theorem sp_end {vs : List Vers} {c t i : Nat} {p : Int} (h : PosOk vs i p) : spN vs c t vs.length i p = spI vs c t i p := by
 unfold spN
 rcases h with rfl | ⟨_, h2, _⟩
 ·have e : spI vs c t i (-1) = -1 := if_neg (by decide)
  rw [e]; simp
 ·rw [if_pos h2]
theorem sm_one {vs : List Vers} {c t i : Nat} {p : Int} (h : PosOk vs i p) : (decide (i < vs.length) && decide (0 ≤ spI vs c t i p)) = decide (0 ≤ spI vs c t i p) := by
 rcases h with rfl | ⟨_, h2, _⟩
 ·have e : spI vs c t i (-1) = -1 := if_neg (by decide)
  rw [e]; simp
 ·simp [h2]
theorem sm_end {vs : List Vers} {c t : Nat} {p0 p1 p2 p3 : Int} (h0 : PosOk vs 0 p0) (h1 : PosOk vs 1 p1) (h2 : PosOk vs 2 p2) (h3 : PosOk vs 3 p3) : smN vs c t vs.length p0 p1 p2 p3 = some4 (sp4 vs c t (p0, p1, p2, p3)) := by
 unfold smN
 rw [sm_one h0, sm_one h1, sm_one h2, sm_one h3]
 rfl
def sucR (vs : List Vers) (p : P4) (c r : Nat) : List P4 := ((List.range r).map fun t => sp4 vs c t p).filter some4
theorem sucR_succ (vs : List Vers) (p : P4) (c r : Nat) : sucR vs p c (r + 1) = if some4 (sp4 vs c r p) = true then sucR vs p c r ++ [sp4 vs c r p] else sucR vs p c r := by
 unfold sucR
 rw [List.range_succ, List.map_append, List.filter_append, List.map_cons, List.map_nil, List.filter_cons, List.filter_nil]
 split
 ·rfl
 ·rw [List.append_nil]
theorem sucR_length (vs : List Vers) (p : P4) (c r : Nat) : (sucR vs p c r).length ≤ r := by
 unfold sucR
 refine Nat.le_trans (List.length_filter_le _ _) ?_
 rw [List.length_map, List.length_range]
 exact Nat.le_refl _
def spB (vs : List Vers) (c t n : Nat) (p0 p1 p2 p3 : Int) : Blk := .box [n' (spN vs c t n 0 p0), n' (spN vs c t n 1 p1), n' (spN vs c t n 2 p2), n' (spN vs c t n 3 p3), n' 0] 130
set_option maxHeartbeats 16000000 in
set_option maxRecDepth 100000 in
theorem c_splits {b : Book} (hB : BOk b) {p0 p1 p2 p3 : Int} (hp : P4Ok b.vs (p0, p1, p2, p3)) {c : Nat} (hc : c < b.cues.toNat) (H : List Blk) :
  ACall Tryz.prog 168 [.agg (gX b), .agg (pA (p0, p1, p2, p3)), n' c] H (.ret (eP4s (succ4 b.vs b.tunes.toNat (p0, p1, p2, p3) c))) H := by
 have G := hB.game
 have hn := G.hn
 have hv := G.hv
 have htu := hB.1.2.1
 unfold inI at htu
 obtain ⟨h0, h1, h2, h3⟩ := hp
 have h0 : PosOk b.vs 0 p0 := h0
 have h1 : PosOk b.vs 1 p1 := h1
 have h2 : PosOk b.vs 2 p2 := h2
 have h3 : PosOk b.vs 3 p3 := h3
 refine fn_rule (m := false) (fn := Tryz.f168) (c := (Tryz.f168.body).getD .skip) mixed (by kernel_rfl) (by kernel_rfl) (of_decide_eq_true (by kernel_rfl)) ?_ ?_ ?_ H
 ·exact ⟨under_gX 0 _, under_pA 0 _, trivial, trivial⟩
 ·exact under_eP4s 0 _
 ·refine LoopG.ghost (LoopG.at (n0 := 3) rfl ?_)
  refine loop_up mixed (m := false) (fun r => [(2, n' c), (3, .ptr 0 0), (4, .ptr 1 0), (7, rowP (sucR b.vs (p0, p1, p2, p3) c r) 2), (17, n' b.tunes), (18, n' r)]) (fun r => [(0, .box (gX b) 145), (1, .box (pA (p0, p1, p2, p3)) 130), (2, .row (sucR b.vs (p0, p1, p2, p3) c r).length)]) (fun _ => True) b.tunes.toNat 2 (leb rfl) trivial ?_ ?_ ?_
  ·exact ⟨wp rfl trivial, wp rfl (ltb rfl), wp rfl (ltb rfl), ⟨_, rfl, Weak.own (r := 2) (g := 0) 5 rfl, ⟨trivial, ltb rfl⟩⟩, wp rfl trivial, wp rfl trivial, trivial⟩
  ·exact ⟨bk rfl rfl, bk rfl rfl, bk rfl rfl, trivial⟩
  ·intro r hr _
   have hsl := sucR_length b.vs (p0, p1, p2, p3) c r
   refine If.mk (fun hlt => ?_) (fun hlt => ?_)
   ·refine ifY ?_
    refine LoopG.at (n0 := 4) rfl (loop_up mixed (m := false) (fun n => [(2, n' c), (3, .ptr 0 0), (4, .ptr 1 0), (7, rowP (sucR b.vs (p0, p1, p2, p3) c r) 2), (8, n' r), (9, .ptr 3 0), (10, nb (smN b.vs c r n p0 p1 p2 p3)), (17, n' b.tunes), (18, n' r), (24, eVersions b.vs), (25, n' (b.vs.length : Nat)), (26, n' n)]) (fun n => [(0, .box (gX b) 145), (1, .box (pA (p0, p1, p2, p3)) 130), (2, .row (sucR b.vs (p0, p1, p2, p3) c r).length), (3, spB b.vs c r n p0 p1 p2 p3)]) (fun _ => True) b.vs.length 3 (leb rfl) trivial ?_ ?_ ?_)
    ·repeat first | exact trivial | refine ⟨⟨_, rfl, Weak.refl _ _, by first | exact trivial | exact ltb rfl | exact under_eVersions _ _ | exact under_rowP _ (ltb rfl) _⟩, ?_⟩
    ·exact ⟨bk rfl rfl, bk rfl rfl, bk rfl rfl, bk rfl rfl, trivial⟩
    ·intro n hn' _
     refine If.mk (fun hlt2 => ?_) (fun hlt2 => ?_)
     ·refine ifY ?_
      have hn4 : n = 0 ∨ n = 1 ∨ n = 2 ∨ n = 3 := by omega
      rcases hn4 with rfl | rfl | rfl | rfl
      ·obtain ⟨v, hx⟩ : ∃ v, b.vs[0]? = some v := ⟨_, List.getElem?_eq_getElem (by omega)⟩
       have hvo := hv v (List.mem_of_getElem? hx)
       have hgd : vAt b.vs 0 = v := by simp [vAt, List.getD, hx]
       refine Ex.mk _ (jx_versions (r := 0) rfl hx) ?_
       refine Ex.mk _ rfl ?_
       refine If.mk (fun hp => ?_) (fun hp => ?_)
       ·refine ifY ?_
        refine Side.mk (fits64 (by omega)) ?_
        have hp' : p0 < 0 := hp
        have e : spI b.vs c r 0 p0 = p0 := if_neg (by omega)
        have e2 : decide (0 ≤ p0) = false := decide_eq_false (by omega)
        refine ⟨leb rfl, rfl, by omega, trivial, ?_, ⟨bk rfl rfl, bk rfl rfl, bk rfl rfl, ⟨?_, ltb rfl⟩, trivial⟩, ?_⟩
        ·refine ⟨wp rfl trivial, wp rfl (ltb rfl), wp rfl (ltb rfl), ⟨_, rfl, Weak.refl _ _, under_rowP _ (ltb rfl) _⟩, wp rfl trivial, wp rfl (ltb rfl), ⟨_, rfl, Weak.of_eq (?_), trivial⟩, wp rfl trivial, wp rfl trivial, ⟨_, rfl, Weak.refl _ _, under_eVersions _ _⟩, wp rfl trivial, wp rfl trivial, trivial⟩
         simp [smN, e, e2]
        ·show some (spB b.vs c r 0 p0 p1 p2 p3) = some (spB b.vs c r (0 + 1) p0 p1 p2 p3)
         simp [spB, spN, e]
        ·trivial
       ·refine ifN ?_
        have hp' : ¬ p0 < 0 := hp
        have hq1 : 0 ≤ p0 := by omega
        obtain ⟨k1, k2, k3, _⟩ := G.mvOk h0 hq1 hc
        rw [hgd] at k2 k3
        obtain ⟨s, hs⟩ : ∃ s : Nat, p0 = s := ⟨p0.toNat, by omega⟩
        have hs' : p0.toNat = s := by omega
        rw [hs'] at k2 k3
        obtain ⟨x, hx1, hx2, hx3, hx4⟩ := mv_at (s := s) (c := c) hvo k2 hc
        have hh := fun H => c_hears hx1 hx2 H
        rw [← hs] at hh
        refine PickW.mk [15] ?_
        refine CallG.pure _ (hh) ?_
        refine If.mk (fun ht => ?_) (fun ht => ?_)
        ·refine ifY ?_
         refine Side.mk (fits64 (by omega)) ?_
         have e : spI b.vs c r 0 p0 = (mv v s c).1 := by unfold spI; rw [if_pos hq1, hgd, hs', if_pos ht]
         have e2 : decide (0 ≤ (mv v s c).1) = true := decide_eq_true k3
         refine ⟨leb rfl, rfl, by omega, trivial, ?_, ⟨bk rfl rfl, bk rfl rfl, bk rfl rfl, ⟨?_, ltb rfl⟩, trivial⟩, ?_⟩
         ·refine ⟨wp rfl trivial, wp rfl (ltb rfl), wp rfl (ltb rfl), ⟨_, rfl, Weak.refl _ _, under_rowP _ (ltb rfl) _⟩, wp rfl trivial, wp rfl (ltb rfl), ⟨_, rfl, Weak.of_eq (?_), trivial⟩, wp rfl trivial, wp rfl trivial, ⟨_, rfl, Weak.refl _ _, under_eVersions _ _⟩, wp rfl trivial, wp rfl trivial, trivial⟩
          simp [smN, e, e2]
          first | done | rfl
         ·show some (Blk.box [n' (mv v s c).1, n' p1, n' p2, n' p3, n' 0] 130) = some (spB b.vs c r (0 + 1) p0 p1 p2 p3)
          simp [spB, spN, e]
         ·exact ⟨⟨_, rfl, trivial, trivial, trivial, trivial, trivial, trivial⟩, trivial⟩
        ·refine ifN ?_
         refine Side.mk (fits64 (by omega)) ?_
         have e : spI b.vs c r 0 p0 = -1 := by unfold spI; rw [if_pos hq1, hgd, hs', if_neg ht]
         refine ⟨leb rfl, rfl, by omega, trivial, ?_, ⟨bk rfl rfl, bk rfl rfl, bk rfl rfl, ⟨?_, ltb rfl⟩, trivial⟩, ?_⟩
         ·refine ⟨wp rfl trivial, wp rfl (ltb rfl), wp rfl (ltb rfl), ⟨_, rfl, Weak.refl _ _, under_rowP _ (ltb rfl) _⟩, wp rfl trivial, wp rfl (ltb rfl), ⟨_, rfl, Weak.of_eq (?_), trivial⟩, wp rfl trivial, wp rfl trivial, ⟨_, rfl, Weak.refl _ _, under_eVersions _ _⟩, wp rfl trivial, wp rfl trivial, trivial⟩
          simp [smN, e]
         ·show some (Blk.box [n' (-1), n' p1, n' p2, n' p3, n' 0] 130) = some (spB b.vs c r (0 + 1) p0 p1 p2 p3)
          simp [spB, spN, e]
         ·exact ⟨⟨_, rfl, trivial, trivial, trivial, trivial, trivial, trivial⟩, trivial⟩
      ·obtain ⟨v, hx⟩ : ∃ v, b.vs[1]? = some v := ⟨_, List.getElem?_eq_getElem (by omega)⟩
       have hvo := hv v (List.mem_of_getElem? hx)
       have hgd : vAt b.vs 1 = v := by simp [vAt, List.getD, hx]
       refine Ex.mk _ (jx_versions (r := 1) rfl hx) ?_
       refine Ex.mk _ rfl ?_
       refine If.mk (fun hp => ?_) (fun hp => ?_)
       ·refine ifY ?_
        refine Side.mk (fits64 (by omega)) ?_
        have hp' : p1 < 0 := hp
        have e : spI b.vs c r 1 p1 = p1 := if_neg (by omega)
        have e2 : decide (0 ≤ p1) = false := decide_eq_false (by omega)
        refine ⟨leb rfl, rfl, by omega, trivial, ?_, ⟨bk rfl rfl, bk rfl rfl, bk rfl rfl, ⟨?_, ltb rfl⟩, trivial⟩, ?_⟩
        ·refine ⟨wp rfl trivial, wp rfl (ltb rfl), wp rfl (ltb rfl), ⟨_, rfl, Weak.refl _ _, under_rowP _ (ltb rfl) _⟩, wp rfl trivial, wp rfl (ltb rfl), ⟨_, rfl, Weak.of_eq (?_), trivial⟩, wp rfl trivial, wp rfl trivial, ⟨_, rfl, Weak.refl _ _, under_eVersions _ _⟩, wp rfl trivial, wp rfl trivial, trivial⟩
         simp [smN, e, e2]
        ·show some (spB b.vs c r 1 p0 p1 p2 p3) = some (spB b.vs c r (1 + 1) p0 p1 p2 p3)
         simp [spB, spN, e]
        ·trivial
       ·refine ifN ?_
        have hp' : ¬ p1 < 0 := hp
        have hq1 : 0 ≤ p1 := by omega
        obtain ⟨k1, k2, k3, _⟩ := G.mvOk h1 hq1 hc
        rw [hgd] at k2 k3
        obtain ⟨s, hs⟩ : ∃ s : Nat, p1 = s := ⟨p1.toNat, by omega⟩
        have hs' : p1.toNat = s := by omega
        rw [hs'] at k2 k3
        obtain ⟨x, hx1, hx2, hx3, hx4⟩ := mv_at (s := s) (c := c) hvo k2 hc
        have hh := fun H => c_hears hx1 hx2 H
        rw [← hs] at hh
        refine PickW.mk [15] ?_
        refine CallG.pure _ (hh) ?_
        refine If.mk (fun ht => ?_) (fun ht => ?_)
        ·refine ifY ?_
         refine Side.mk (fits64 (by omega)) ?_
         have e : spI b.vs c r 1 p1 = (mv v s c).1 := by unfold spI; rw [if_pos hq1, hgd, hs', if_pos ht]
         have e2 : decide (0 ≤ (mv v s c).1) = true := decide_eq_true k3
         refine ⟨leb rfl, rfl, by omega, trivial, ?_, ⟨bk rfl rfl, bk rfl rfl, bk rfl rfl, ⟨?_, ltb rfl⟩, trivial⟩, ?_⟩
         ·refine ⟨wp rfl trivial, wp rfl (ltb rfl), wp rfl (ltb rfl), ⟨_, rfl, Weak.refl _ _, under_rowP _ (ltb rfl) _⟩, wp rfl trivial, wp rfl (ltb rfl), ⟨_, rfl, Weak.of_eq (?_), trivial⟩, wp rfl trivial, wp rfl trivial, ⟨_, rfl, Weak.refl _ _, under_eVersions _ _⟩, wp rfl trivial, wp rfl trivial, trivial⟩
          simp [smN, e, e2]
          first | done | rfl
         ·show some (Blk.box [n' (spI b.vs c r 0 p0), n' (mv v s c).1, n' p2, n' p3, n' 0] 130) = some (spB b.vs c r (1 + 1) p0 p1 p2 p3)
          simp [spB, spN, e]
         ·exact ⟨⟨_, rfl, trivial, trivial, trivial, trivial, trivial, trivial⟩, trivial⟩
        ·refine ifN ?_
         refine Side.mk (fits64 (by omega)) ?_
         have e : spI b.vs c r 1 p1 = -1 := by unfold spI; rw [if_pos hq1, hgd, hs', if_neg ht]
         refine ⟨leb rfl, rfl, by omega, trivial, ?_, ⟨bk rfl rfl, bk rfl rfl, bk rfl rfl, ⟨?_, ltb rfl⟩, trivial⟩, ?_⟩
         ·refine ⟨wp rfl trivial, wp rfl (ltb rfl), wp rfl (ltb rfl), ⟨_, rfl, Weak.refl _ _, under_rowP _ (ltb rfl) _⟩, wp rfl trivial, wp rfl (ltb rfl), ⟨_, rfl, Weak.of_eq (?_), trivial⟩, wp rfl trivial, wp rfl trivial, ⟨_, rfl, Weak.refl _ _, under_eVersions _ _⟩, wp rfl trivial, wp rfl trivial, trivial⟩
          simp [smN, e]
         ·show some (Blk.box [n' (spI b.vs c r 0 p0), n' (-1), n' p2, n' p3, n' 0] 130) = some (spB b.vs c r (1 + 1) p0 p1 p2 p3)
          simp [spB, spN, e]
         ·exact ⟨⟨_, rfl, trivial, trivial, trivial, trivial, trivial, trivial⟩, trivial⟩
      ·obtain ⟨v, hx⟩ : ∃ v, b.vs[2]? = some v := ⟨_, List.getElem?_eq_getElem (by omega)⟩
       have hvo := hv v (List.mem_of_getElem? hx)
       have hgd : vAt b.vs 2 = v := by simp [vAt, List.getD, hx]
       refine Ex.mk _ (jx_versions (r := 2) rfl hx) ?_
       refine Ex.mk _ rfl ?_
       refine If.mk (fun hp => ?_) (fun hp => ?_)
       ·refine ifY ?_
        refine Side.mk (fits64 (by omega)) ?_
        have hp' : p2 < 0 := hp
        have e : spI b.vs c r 2 p2 = p2 := if_neg (by omega)
        have e2 : decide (0 ≤ p2) = false := decide_eq_false (by omega)
        refine ⟨leb rfl, rfl, by omega, trivial, ?_, ⟨bk rfl rfl, bk rfl rfl, bk rfl rfl, ⟨?_, ltb rfl⟩, trivial⟩, ?_⟩
        ·refine ⟨wp rfl trivial, wp rfl (ltb rfl), wp rfl (ltb rfl), ⟨_, rfl, Weak.refl _ _, under_rowP _ (ltb rfl) _⟩, wp rfl trivial, wp rfl (ltb rfl), ⟨_, rfl, Weak.of_eq (?_), trivial⟩, wp rfl trivial, wp rfl trivial, ⟨_, rfl, Weak.refl _ _, under_eVersions _ _⟩, wp rfl trivial, wp rfl trivial, trivial⟩
         simp [smN, e, e2]
        ·show some (spB b.vs c r 2 p0 p1 p2 p3) = some (spB b.vs c r (2 + 1) p0 p1 p2 p3)
         simp [spB, spN, e]
        ·trivial
       ·refine ifN ?_
        have hp' : ¬ p2 < 0 := hp
        have hq1 : 0 ≤ p2 := by omega
        obtain ⟨k1, k2, k3, _⟩ := G.mvOk h2 hq1 hc
        rw [hgd] at k2 k3
        obtain ⟨s, hs⟩ : ∃ s : Nat, p2 = s := ⟨p2.toNat, by omega⟩
        have hs' : p2.toNat = s := by omega
        rw [hs'] at k2 k3
        obtain ⟨x, hx1, hx2, hx3, hx4⟩ := mv_at (s := s) (c := c) hvo k2 hc
        have hh := fun H => c_hears hx1 hx2 H
        rw [← hs] at hh
        refine PickW.mk [15] ?_
        refine CallG.pure _ (hh) ?_
        refine If.mk (fun ht => ?_) (fun ht => ?_)
        ·refine ifY ?_
         refine Side.mk (fits64 (by omega)) ?_
         have e : spI b.vs c r 2 p2 = (mv v s c).1 := by unfold spI; rw [if_pos hq1, hgd, hs', if_pos ht]
         have e2 : decide (0 ≤ (mv v s c).1) = true := decide_eq_true k3
         refine ⟨leb rfl, rfl, by omega, trivial, ?_, ⟨bk rfl rfl, bk rfl rfl, bk rfl rfl, ⟨?_, ltb rfl⟩, trivial⟩, ?_⟩
         ·refine ⟨wp rfl trivial, wp rfl (ltb rfl), wp rfl (ltb rfl), ⟨_, rfl, Weak.refl _ _, under_rowP _ (ltb rfl) _⟩, wp rfl trivial, wp rfl (ltb rfl), ⟨_, rfl, Weak.of_eq (?_), trivial⟩, wp rfl trivial, wp rfl trivial, ⟨_, rfl, Weak.refl _ _, under_eVersions _ _⟩, wp rfl trivial, wp rfl trivial, trivial⟩
          simp [smN, e, e2]
          first | done | rfl
         ·show some (Blk.box [n' (spI b.vs c r 0 p0), n' (spI b.vs c r 1 p1), n' (mv v s c).1, n' p3, n' 0] 130) = some (spB b.vs c r (2 + 1) p0 p1 p2 p3)
          simp [spB, spN, e]
         ·exact ⟨⟨_, rfl, trivial, trivial, trivial, trivial, trivial, trivial⟩, trivial⟩
        ·refine ifN ?_
         refine Side.mk (fits64 (by omega)) ?_
         have e : spI b.vs c r 2 p2 = -1 := by unfold spI; rw [if_pos hq1, hgd, hs', if_neg ht]
         refine ⟨leb rfl, rfl, by omega, trivial, ?_, ⟨bk rfl rfl, bk rfl rfl, bk rfl rfl, ⟨?_, ltb rfl⟩, trivial⟩, ?_⟩
         ·refine ⟨wp rfl trivial, wp rfl (ltb rfl), wp rfl (ltb rfl), ⟨_, rfl, Weak.refl _ _, under_rowP _ (ltb rfl) _⟩, wp rfl trivial, wp rfl (ltb rfl), ⟨_, rfl, Weak.of_eq (?_), trivial⟩, wp rfl trivial, wp rfl trivial, ⟨_, rfl, Weak.refl _ _, under_eVersions _ _⟩, wp rfl trivial, wp rfl trivial, trivial⟩
          simp [smN, e]
         ·show some (Blk.box [n' (spI b.vs c r 0 p0), n' (spI b.vs c r 1 p1), n' (-1), n' p3, n' 0] 130) = some (spB b.vs c r (2 + 1) p0 p1 p2 p3)
          simp [spB, spN, e]
         ·exact ⟨⟨_, rfl, trivial, trivial, trivial, trivial, trivial, trivial⟩, trivial⟩
      ·obtain ⟨v, hx⟩ : ∃ v, b.vs[3]? = some v := ⟨_, List.getElem?_eq_getElem (by omega)⟩
       have hvo := hv v (List.mem_of_getElem? hx)
       have hgd : vAt b.vs 3 = v := by simp [vAt, List.getD, hx]
       refine Ex.mk _ (jx_versions (r := 3) rfl hx) ?_
       refine Ex.mk _ rfl ?_
       refine If.mk (fun hp => ?_) (fun hp => ?_)
       ·refine ifY ?_
        refine Side.mk (fits64 (by omega)) ?_
        have hp' : p3 < 0 := hp
        have e : spI b.vs c r 3 p3 = p3 := if_neg (by omega)
        have e2 : decide (0 ≤ p3) = false := decide_eq_false (by omega)
        refine ⟨leb rfl, rfl, by omega, trivial, ?_, ⟨bk rfl rfl, bk rfl rfl, bk rfl rfl, ⟨?_, ltb rfl⟩, trivial⟩, ?_⟩
        ·refine ⟨wp rfl trivial, wp rfl (ltb rfl), wp rfl (ltb rfl), ⟨_, rfl, Weak.refl _ _, under_rowP _ (ltb rfl) _⟩, wp rfl trivial, wp rfl (ltb rfl), ⟨_, rfl, Weak.of_eq (?_), trivial⟩, wp rfl trivial, wp rfl trivial, ⟨_, rfl, Weak.refl _ _, under_eVersions _ _⟩, wp rfl trivial, wp rfl trivial, trivial⟩
         simp [smN, e, e2]
        ·show some (spB b.vs c r 3 p0 p1 p2 p3) = some (spB b.vs c r (3 + 1) p0 p1 p2 p3)
         simp [spB, spN, e]
        ·trivial
       ·refine ifN ?_
        have hp' : ¬ p3 < 0 := hp
        have hq1 : 0 ≤ p3 := by omega
        obtain ⟨k1, k2, k3, _⟩ := G.mvOk h3 hq1 hc
        rw [hgd] at k2 k3
        obtain ⟨s, hs⟩ : ∃ s : Nat, p3 = s := ⟨p3.toNat, by omega⟩
        have hs' : p3.toNat = s := by omega
        rw [hs'] at k2 k3
        obtain ⟨x, hx1, hx2, hx3, hx4⟩ := mv_at (s := s) (c := c) hvo k2 hc
        have hh := fun H => c_hears hx1 hx2 H
        rw [← hs] at hh
        refine PickW.mk [15] ?_
        refine CallG.pure _ (hh) ?_
        refine If.mk (fun ht => ?_) (fun ht => ?_)
        ·refine ifY ?_
         refine Side.mk (fits64 (by omega)) ?_
         have e : spI b.vs c r 3 p3 = (mv v s c).1 := by unfold spI; rw [if_pos hq1, hgd, hs', if_pos ht]
         have e2 : decide (0 ≤ (mv v s c).1) = true := decide_eq_true k3
         refine ⟨leb rfl, rfl, by omega, trivial, ?_, ⟨bk rfl rfl, bk rfl rfl, bk rfl rfl, ⟨?_, ltb rfl⟩, trivial⟩, ?_⟩
         ·refine ⟨wp rfl trivial, wp rfl (ltb rfl), wp rfl (ltb rfl), ⟨_, rfl, Weak.refl _ _, under_rowP _ (ltb rfl) _⟩, wp rfl trivial, wp rfl (ltb rfl), ⟨_, rfl, Weak.of_eq (?_), trivial⟩, wp rfl trivial, wp rfl trivial, ⟨_, rfl, Weak.refl _ _, under_eVersions _ _⟩, wp rfl trivial, wp rfl trivial, trivial⟩
          simp [smN, e, e2]
          first | done | rfl
         ·show some (Blk.box [n' (spI b.vs c r 0 p0), n' (spI b.vs c r 1 p1), n' (spI b.vs c r 2 p2), n' (mv v s c).1, n' 0] 130) = some (spB b.vs c r (3 + 1) p0 p1 p2 p3)
          simp [spB, spN, e]
         ·exact ⟨⟨_, rfl, trivial, trivial, trivial, trivial, trivial, trivial⟩, trivial⟩
        ·refine ifN ?_
         refine Side.mk (fits64 (by omega)) ?_
         have e : spI b.vs c r 3 p3 = -1 := by unfold spI; rw [if_pos hq1, hgd, hs', if_neg ht]
         refine ⟨leb rfl, rfl, by omega, trivial, ?_, ⟨bk rfl rfl, bk rfl rfl, bk rfl rfl, ⟨?_, ltb rfl⟩, trivial⟩, ?_⟩
         ·refine ⟨wp rfl trivial, wp rfl (ltb rfl), wp rfl (ltb rfl), ⟨_, rfl, Weak.refl _ _, under_rowP _ (ltb rfl) _⟩, wp rfl trivial, wp rfl (ltb rfl), ⟨_, rfl, Weak.of_eq (?_), trivial⟩, wp rfl trivial, wp rfl trivial, ⟨_, rfl, Weak.refl _ _, under_eVersions _ _⟩, wp rfl trivial, wp rfl trivial, trivial⟩
          simp [smN, e]
         ·show some (Blk.box [n' (spI b.vs c r 0 p0), n' (spI b.vs c r 1 p1), n' (spI b.vs c r 2 p2), n' (-1), n' 0] 130) = some (spB b.vs c r (3 + 1) p0 p1 p2 p3)
          simp [spB, spN, e]
         ·exact ⟨⟨_, rfl, trivial, trivial, trivial, trivial, trivial, trivial⟩, trivial⟩
     ·refine ifN ?_
      obtain rfl : n = b.vs.length := by omega
      refine ⟨leb rfl, ?_⟩
      have hsm := sm_end (c := c) (t := r) h0 h1 h2 h3
      have hsucc := sucR_succ b.vs (p0, p1, p2, p3) c r
      cases hb : some4 (sp4 b.vs c r (p0, p1, p2, p3)) with
      | true =>
       have hbox : spB b.vs c r b.vs.length p0 p1 p2 p3 = .box (pA (sp4 b.vs c r (p0, p1, p2, p3))) 130 := by
        unfold spB
        rw [sp_end h0, sp_end h1, sp_end h2, sp_end h3]
        rfl
       rw [hsm, hb, hbox]
       rw [hb, if_pos rfl] at hsucc
       refine ifY ?_
       refine ex_app _ _ (app_p4 (p := sp4 b.vs c r (p0, p1, p2, p3)) (by omega) rfl) ?_
       refine Side.mk (fits64 (by omega)) ?_
       refine ⟨leb rfl, rfl, by omega, trivial, ⟨wp rfl trivial, wp rfl (ltb rfl), wp rfl (ltb rfl), ⟨_, rfl, Weak.of_eq (?_), under_rowP _ (ltb rfl) _⟩, wp rfl trivial, wp rfl trivial, trivial⟩, ⟨bk rfl rfl, bk rfl rfl, ⟨?_, ltb rfl⟩, trivial⟩, ⟨⟨_, rfl, trivial⟩, trivial⟩⟩
       ·show _ = rowP (sucR b.vs (p0, p1, p2, p3) c (r + 1)) 2
        rw [hsucc, rowP_snoc]
       ·show _ = some (Blk.row (sucR b.vs (p0, p1, p2, p3) c (r + 1)).length)
        rw [hsucc, List.length_append]
        rfl
      | false =>
       rw [hsm, hb]
       rw [hb, if_neg (by decide)] at hsucc
       refine ifN ?_
       refine Side.mk (fits64 (by omega)) ?_
       refine ⟨leb rfl, rfl, by omega, trivial, ⟨wp rfl trivial, wp rfl (ltb rfl), wp rfl (ltb rfl), ⟨_, rfl, Weak.of_eq (?_), under_rowP _ (ltb rfl) _⟩, wp rfl trivial, wp rfl trivial, trivial⟩, ⟨bk rfl rfl, bk rfl rfl, ⟨?_, ltb rfl⟩, trivial⟩, trivial⟩
       ·show _ = rowP (sucR b.vs (p0, p1, p2, p3) c (r + 1)) 2
        rw [hsucc]
       ·show _ = some (Blk.row (sucR b.vs (p0, p1, p2, p3) c (r + 1)).length)
        rw [hsucc]
        rfl
   ·refine ifN ?_
    obtain rfl : r = b.tunes.toNat := by omega
    refine ⟨leb rfl, .inl rfl, FinG.mk _ rfl rfl ?_⟩
    show AV.sl _ (AV.freezes _ (pAs (sucR b.vs (p0, p1, p2, p3) c b.tunes.toNat))) .unk = _
    rw [freezes_pAs]
    rfl
end Go.Vm

namespace Go.Vm
open Go.Proofs
theorem c_splits4 {b : Book} (hB : BOk b) {p : P4} (hp : P4Ok b.vs p) {c : Nat} (hc : c < b.cues.toNat) (H : List Blk) : ACall Tryz.prog 168 [.agg (gX b), .agg (pA p), n' c] H (.ret (eP4s (succ4 b.vs b.tunes.toNat p c))) H := by
 obtain ⟨p0, p1, p2, p3⟩ := p
 exact c_splits hB hp hc H
def rowU (U : List P4) : AV := .sl U.length (pAs U) (.own 3 (U.length - 1) 5)
theorem under_rowU {n : Nat} (h : 3 < n) (U : List P4) : (rowU U).under n := ⟨under_pAs n U, h⟩
theorem rowU_snoc {U : List P4} (h : 0 < U.length) (p : P4) : rowU (U ++ [p]) = .sl (U.length + 1) (pAs U ++ pA p) (.own 3 (U.length - 1 + 1) 5) := by
 unfold rowU
 rw [pAs_snoc, List.length_append, show U.length + [p].length - 1 = U.length - 1 + 1 by rw [List.length_singleton]; omega]
 rfl
def metU (U : List P4) : List (Value × AV) := metE (U.map fun p => (p, noM))
theorem metU_mem {U : List P4} {y : P4} : (y, noM) ∈ (U.map fun p : P4 => (p, noM)) ↔ y ∈ U := by
 rw [List.mem_map]
 constructor
 ·rintro ⟨p, hp, e⟩
  obtain rfl : p = y := (Prod.mk.inj e).1
  exact hp
 ·intro h
  exact ⟨y, h, rfl⟩
theorem metU_snoc (U : List P4) (y : P4) : metU (U ++ [y]) = metE ((U.map fun p => (p, noM)) ++ [(y, noM)]) := by unfold metU; rw [List.map_append]; rfl
theorem under_metU (n : Nat) (U : List P4) : (Blk.map (.arr 5) (metU U)).under n := under_metE n _
theorem rowU_gen {U : List P4} (h : 0 < U.length) (p : P4) : some (Blk.row (U.length - 1 + 1)) = some (Blk.row ((U ++ [p]).length - 1)) := by
 rw [List.length_append, show U.length + [p].length - 1 = U.length - 1 + 1 by rw [List.length_singleton]; omega]
theorem PosU.pos {vs : List Vers} {st : P4} {U : List P4} (h : PosU vs st U) : 0 < U.length := by
 obtain ⟨_, _, R, rfl⟩ := h
 rw [List.length_cons]
 omega
def rchT (b : Book) (st : P4) (U : List P4) : List (Nat × Blk) := [(0, .box (gX b) 145), (1, .box (pA st) 130), (2, .map (.arr 5) (metU U)), (3, .row (U.length - 1))]
def dumT : List (Nat × Blk) := [(4, .defd), (5, .defd), (6, .defd), (7, .defd), (8, .defd), (9, .defd), (10, .defd), (11, .defd), (12, .defd)]
set_option maxHeartbeats 16000000 in
set_option maxRecDepth 100000 in
theorem c_reached {b : Book} (hB : BOk b) {st : P4} (hst : P4Ok b.vs st) : ∃ v, (∃ U, AllU b.vs b.cues.toNat b.tunes.toNat st U ∧ v = eP4s U) ∧ ∀ H2, ACall Tryz.prog 167 [.agg (gX b), .agg (pA st)] ([] ++ H2) (.ret v) ([] ++ H2) := by
 have G := hB.game
 have hs : Small b.vs := G.hs
 have hbc := hB.1.1
 have htu := hB.1.2.1
 unfold inI at hbc htu
 refine fn_preE (m := false) (fn := Tryz.f167) (c := (Tryz.f167.body).getD .skip) (t0 := ofL []) (n0 := 0) _ mixed (by kernel_rfl) (by kernel_rfl) (of_decide_eq_true (by kernel_rfl)) (HT.full (l := []) trivial rfl) ?_ (fun _ h => by cases h) ?_
 ·exact ⟨under_gX 0 _, under_pA 0 _, trivial⟩
 ·refine Ex.mk _ (aop_update (p := (st, noM)) (met := []) (id := 2) (.inr rfl) rfl rfl rfl rfl (PosK.posS hs hst) (by simp)) ?_
  refine LoopG.ghost (LoopG.at (n0 := 4) rfl ?_)
  refine loop_r mixed (m := false) (α := { s : List P4 × Nat // Reach b.vs b.cues.toNat b.tunes.toNat st s.1 s.2 }) (fun a => [(2, .ptr 0 0), (5, .mp 2), (6, rowU a.1.1), (7, n' (a.1.2 : Nat))]) (fun a => rchT b st a.1.1) (fun a => 626 - a.1.2) 2 ⟨([st], 0), Reach.begin hst⟩ (leb rfl) ?_ ?_ ?_
  ·exact ⟨wp rfl (ltb rfl), wp rfl (ltb rfl), ⟨_, rfl, fun n H hH => WeakH.fullOwnN (r := 3) (len := 1) (sz := 5) rfl (hH.blk _ _ rfl), under_rowU (ltb rfl) _⟩, wp rfl trivial, trivial⟩
  ·exact ⟨bk rfl rfl, bk rfl rfl, bk rfl rfl, bk rfl rfl, trivial⟩
  ·rintro ⟨⟨U, i⟩, hR⟩
   have hR : Reach b.vs b.cues.toNat b.tunes.toNat st U i := hR
   have hPU := hR.1
   have hil : i ≤ U.length := hR.2.1
   have hfew := p4_few hs hPU.1 hPU.2.1
   refine If.mk (fun h1 => ?_) (fun h1 => ?_)
   ·refine ifY ?_
    have h1 : (i : Int) < (U.length : Nat) := h1
    obtain ⟨x, hx, _, hxm⟩ := at_some (l := U) (r := i) (by omega)
    have hxo := hPU.2.1 x hxm
    have hnext := hR.next G hx
    refine LoopG.at (n0 := 4) rfl (loop_up mixed (m := false) (fun c => [(2, .ptr 0 0), (5, .mp 2), (6, rowU (addC b.vs b.tunes.toNat U x c)), (7, n' i), (24, n' b.cues), (25, n' c)]) (fun c => rchT b st (addC b.vs b.tunes.toNat U x c)) (fun _ => True) b.cues.toNat 2 (leb rfl) trivial ?_ ?_ ?_)
    ·repeat first | exact trivial | refine ⟨⟨_, rfl, Weak.refl _ _, by first | exact trivial | exact ltb rfl | exact under_rowU (ltb rfl) _ | exact under_eP4s _ _⟩, ?_⟩
    ·exact ⟨bk rfl rfl, bk rfl rfl, bk rfl rfl, bk rfl rfl, trivial⟩
    ·intro c hc _
     have hPc := hPU.addC G (x := x) hxo hc
     have hfc := p4_few hs hPc.1 hPc.2.1
     have hgc := addC_get (vs := b.vs) (T := b.tunes.toNat) (x := x) hx c
     have hsc : addC b.vs b.tunes.toNat U x (c + 1) = addR (addC b.vs b.tunes.toNat U x c) (succ4 b.vs b.tunes.toNat x c) (succ4 b.vs b.tunes.toNat x c).length := rfl
     generalize hV : addC b.vs b.tunes.toNat U x c = V at *
     refine If.mk (fun h2 => ?_) (fun h2 => ?_)
     ·refine ifY ?_
      have hc' : c < b.cues.toNat := by omega
      refine Ex.mk _ (jx_p4 (r := i) rfl hgc) ?_
      refine Ex.mk _ rfl ?_
      refine CallG.pure _ (c_splits4 hB hxo hc') ?_
      have hlo : ∀ y ∈ succ4 b.vs b.tunes.toNat x c, P4Ok b.vs y := fun y hy => G.succ_ok hxo hc' hy
      have hll : (succ4 b.vs b.tunes.toNat x c).length ≤ 6 := by
       have := sucR_length b.vs x c b.tunes.toNat
       have e : sucR b.vs x c b.tunes.toNat = succ4 b.vs b.tunes.toNat x c := rfl
       rw [e] at this
       omega
      generalize succ4 b.vs b.tunes.toNat x c = l at *
      refine LoopG.at (n0 := 13) rfl (loop_up mixed (m := false) (fun r => [(2, .ptr 0 0), (5, .mp 2), (6, rowU (addR V l r)), (7, n' i), (8, n' c), (24, n' b.cues), (25, n' c), (34, eP4s l), (35, n' (l.length : Nat)), (36, n' r)]) (fun r => rchT b st (addR V l r) ++ dumT) (fun _ => True) l.length 2 (leb rfl) trivial ?_ ?_ ?_)
      ·repeat first | exact trivial | refine ⟨⟨_, rfl, Weak.refl _ _, by first | exact trivial | exact ltb rfl | exact under_rowU (ltb rfl) _ | exact under_eP4s _ _⟩, ?_⟩
      ·exact ⟨bk rfl rfl, bk rfl rfl, bk rfl rfl, bk rfl rfl, bk rfl rfl, bk rfl rfl, bk rfl rfl, bk rfl rfl, bk rfl rfl, bk rfl rfl, bk rfl rfl, bk rfl rfl, bk rfl rfl, trivial⟩
      ·intro r hr _
       have hPr := hPc.addR hlo hr
       have hfr := p4_few hs hPr.1 hPr.2.1
       have hpos := hPr.pos
       have hsr : addR V l (r + 1) = addP (addR V l r) (l.getD r (0, 0, 0, 0)) := rfl
       generalize hW : addR V l r = W at *
       refine If.mk (fun h3 => ?_) (fun h3 => ?_)
       ·refine ifY ?_
        obtain ⟨y, hy, _, hym⟩ := at_some (l := l) (r := r) (by omega)
        have hyo := hlo y hym
        have hgy : l.getD r (0, 0, 0, 0) = y := by simp [List.getD, hy]
        rw [hgy] at hsr
        refine Ex.mk _ (jx_p4 (r := r) rfl hy) ?_
        refine Ex.mk _ rfl ?_
        refine Ex.mk _ (aop_lookup (p := (y, noM)) (met := W.map fun p => (p, noM)) (id := 2) rfl rfl rfl rfl (PosK.posS hs hyo)) ?_
        refine IfB.mk (fun hm => ?_) (fun hm => ?_)
        ·have hm' : (y, noM) ∉ W.map fun p : P4 => (p, noM) := by simpa using hm
         have hm2 : y ∉ W := fun h => hm' (metU_mem.2 h)
         have e3 : addR V l (r + 1) = W ++ [y] := by rw [hsr]; exact if_neg hm2
         refine Ex.mk _ (aop_update (p := (y, noM)) (met := W.map fun p => (p, noM)) (id := 2) (.inl rfl) rfl rfl rfl rfl (PosK.posS hs hyo) hm') ?_
         refine ex_app _ _ (app_p4 (l := W) (p := y) (by omega) rfl) ?_
         refine Side.mk (fits64 (by omega)) ?_
         refine ⟨leb rfl, rfl, by omega, trivial, ⟨wp rfl (ltb rfl), wp rfl (ltb rfl), ⟨_, rfl, Weak.of_eq (?_), under_rowU (ltb rfl) _⟩, wp rfl trivial, wp rfl trivial, wp rfl trivial, wp rfl trivial, ⟨_, rfl, Weak.refl _ _, under_eP4s _ _⟩, wp rfl trivial, wp rfl trivial, trivial⟩, ⟨bk rfl rfl, bk rfl rfl, ⟨?_, ltb rfl⟩, ⟨?_, ltb rfl⟩, bk rfl rfl, bk rfl rfl, bk rfl rfl, bk rfl rfl, bk rfl rfl, bk rfl rfl, bk rfl rfl, bk rfl rfl, bk rfl rfl, trivial⟩, ?_⟩
         ·show _ = rowU (addR V l (r + 1))
          rw [e3, rowU_snoc hpos]
         ·show _ = some (Blk.map (.arr 5) (metU (addR V l (r + 1))))
          rw [e3, metU_snoc]
          rfl
         ·show _ = some (Blk.row ((addR V l (r + 1)).length - 1))
          rw [e3]
          exact rowU_gen hpos y
         ·exact ⟨⟨_, rfl, under_metE _ _⟩, ⟨_, rfl, trivial⟩, ⟨_, rfl, trivial⟩, ⟨_, rfl, trivial⟩, ⟨_, rfl, trivial⟩, ⟨_, rfl, trivial⟩, ⟨_, rfl, trivial⟩, ⟨_, rfl, trivial⟩, ⟨_, rfl, trivial⟩, ⟨_, rfl, trivial⟩, ⟨_, rfl, trivial⟩, trivial⟩
        ·have hm' : (y, noM) ∈ W.map fun p : P4 => (p, noM) := by simpa using hm
         have hm2 : y ∈ W := metU_mem.1 hm'
         have e3 : addR V l (r + 1) = W := by rw [hsr]; exact if_pos hm2
         refine Side.mk (fits64 (by omega)) ?_
         refine ⟨leb rfl, rfl, by omega, trivial, ⟨wp rfl (ltb rfl), wp rfl (ltb rfl), ⟨_, rfl, Weak.of_eq (?_), under_rowU (ltb rfl) _⟩, wp rfl trivial, wp rfl trivial, wp rfl trivial, wp rfl trivial, ⟨_, rfl, Weak.refl _ _, under_eP4s _ _⟩, wp rfl trivial, wp rfl trivial, trivial⟩, ⟨bk rfl rfl, bk rfl rfl, ⟨?_, ltb rfl⟩, ⟨?_, ltb rfl⟩, bk rfl rfl, bk rfl rfl, bk rfl rfl, bk rfl rfl, bk rfl rfl, bk rfl rfl, bk rfl rfl, bk rfl rfl, bk rfl rfl, trivial⟩, trivial⟩
         ·show _ = rowU (addR V l (r + 1))
          rw [e3]
         ·show _ = some (Blk.map (.arr 5) (metU (addR V l (r + 1))))
          rw [e3]
          rfl
         ·show _ = some (Blk.row ((addR V l (r + 1)).length - 1))
          rw [e3]
          rfl
       ·refine ifN ?_
        obtain rfl : r = l.length := by omega
        refine ⟨leb rfl, ?_⟩
        refine Side.mk (fits64 (by omega)) ?_
        refine ⟨leb rfl, rfl, by omega, trivial, ⟨wp rfl (ltb rfl), wp rfl (ltb rfl), ⟨_, rfl, Weak.of_eq (?_), under_rowU (ltb rfl) _⟩, wp rfl trivial, wp rfl trivial, wp rfl trivial, trivial⟩, ⟨bk rfl rfl, bk rfl rfl, ⟨?_, ltb rfl⟩, ⟨?_, ltb rfl⟩, trivial⟩, ?_⟩
        ·show _ = rowU (addC b.vs b.tunes.toNat U x (c + 1))
         rw [hsc, hW]
        ·show _ = some (Blk.map (.arr 5) (metU (addC b.vs b.tunes.toNat U x (c + 1))))
         rw [hsc, hW]
         rfl
        ·show _ = some (Blk.row ((addC b.vs b.tunes.toNat U x (c + 1)).length - 1))
         rw [hsc, hW]
         rfl
        ·exact ⟨⟨_, rfl, under_metU _ _⟩, ⟨_, rfl, trivial⟩, trivial⟩
     ·refine ifN ?_
      obtain rfl : c = b.cues.toNat := by omega
      refine ⟨leb rfl, ?_⟩
      refine Side.mk (fits64 (by omega)) ?_
      refine ⟨leb rfl, rfl, ⟨(addC b.vs b.tunes.toNat U x b.cues.toNat, i + 1), hnext⟩, ?_, ⟨wp rfl (ltb rfl), wp rfl (ltb rfl), ⟨_, rfl, Weak.of_eq (?_), under_rowU (ltb rfl) _⟩, wp rfl trivial, trivial⟩, ⟨bk rfl rfl, bk rfl rfl, ⟨?_, ltb rfl⟩, ⟨?_, ltb rfl⟩, trivial⟩, ?_⟩
      ·show 626 - (i + 1) < 626 - i
       omega
      ·exact congrArg rowU hV.symm
      ·exact congrArg (fun W => some (Blk.map (.arr 5) (metU W))) hV.symm
      ·exact congrArg (fun W : List P4 => some (Blk.row (W.length - 1))) hV.symm
      ·exact ⟨⟨_, rfl, under_metU _ _⟩, ⟨_, rfl, trivial⟩, trivial⟩
   ·refine ifN ?_
    have h1 : ¬ (i : Int) < (U.length : Nat) := h1
    refine ⟨leb rfl, ?_⟩
    refine ⟨.inl rfl, leb rfl, rfl, _, eP4s U, rfl, (fun H => WeakH.tail _ _ _ H), under_eP4s _ _, U, hR.all (by omega), rfl⟩
end Go.Vm

namespace Go.Vm
open Go.Proofs
def gC (b : Book) : List AV := [n' b.cues, n' b.tunes, eVersions b.vs, .mp 10, .mp 6]
theorem under_gC {n : Nat} (h : 10 < n) (b : Book) : AV.unders n (gC b) := ⟨trivial, trivial, under_eVersions n _, h, Nat.lt_trans (by decide) h, trivial⟩
def needB (N : List (P4 × Nat)) : Blk := .map (.arr 5) (kE (eP N))
def gH (b : Book) (now : Evening) (st : P4) (cl : Sta → Nat) (N : List (P4 × Nat)) : List Blk :=
 [bBox b, .box (cEvening now) 51, .box (pA st) 130, .defd, .defd, .defd, needB N, .defd, .box (gC b) 145, .defd, clMap b cl]
noncomputable def gL (b : Book) (now : Evening) (st : P4) (cl : Sta → Nat) (N : List (P4 × Nat)) : List (Nat × Blk) :=
 [(0, bBox b), (1, .box (cEvening now) 51), (2, .box (pA st) 130), (3, .defd), (4, .defd), (5, .defd), (6, needB N), (7, .defd), (8, .box (gC b) 145), (9, .defd), (10, clMap b cl)]
theorem gH_under (b : Book) (now : Evening) (st : P4) (cl : Sta → Nat) (N : List (P4 × Nat)) : ∀ B ∈ gH b now st cl N, B.under 11 := fun B hB => by
 unfold gH at hB
 simp only [List.mem_cons, List.mem_nil_iff, or_false] at hB
 rcases hB with rfl | rfl | rfl | rfl | rfl | rfl | rfl | rfl | rfl | rfl | rfl
 ·exact bBox_under _ _
 ·exact ⟨under_eInts _ _, under_eInts _ _, trivial⟩
 ·exact under_pA _ _
 ·trivial
 ·trivial
 ·trivial
 ·exact under_kE _
 ·trivial
 ·exact under_gC (by decide) _
 ·trivial
 ·exact under_kE _
theorem HT.firstG {t : Trie Blk} {n : Nat} {H : List Blk} {b : Book} {now : Evening} {st : P4} {cl : Sta → Nat} {N : List (P4 × Nat)} (hH : HT t n H) (hb : Blks (get t) noLo (gL b now st cl N)) : ∃ H2, H = gH b now st cl N ++ H2 := by
 have e0 : H.take 11 = hp (gL b now st cl N) := take_full (l := gL b now st cl N) ⟨rfl, rfl, rfl, rfl, rfl, rfl, rfl, rfl, rfl, rfl, rfl, trivial⟩ fun q hq => hH.blk _ _ (hb.mem q hq).1
 exact ⟨H.drop 11, by show H = hp (gL b now st cl N) ++ H.drop 11; rw [← e0, List.take_append_drop]⟩
noncomputable def gsB (st : LoopState) : Blk := lpB Tryz.f117 st [(2, .ptr 11 0), (3, .ptr 12 0), (4, .ptr 13 0), (8, .fn (.func 175) [] [.ptr 14 0])] 15
theorem under_gsB (st : LoopState) : (gsB st).under 17 := under_lpB ⟨ltb rfl, ltb rfl, ltb rfl, ⟨trivial, ltb rfl, trivial⟩, trivial⟩ (ltb rfl)
noncomputable def gsL (b : Book) (now : Evening) (st : P4) (cl : Sta → Nat) (N : List (P4 × Nat)) (p0 p1 p2 p3 : Int) (s : LoopState) : List (Nat × Blk) :=
 gL b now st cl N ++ [(11, .box (gC b) 145), (12, .box (pA (p0, p1, p2, p3)) 130), (13, .box [.lit (.bool false)] 4), (14, .box (pA (p0, p1, p2, p3)) 130), (15, .defd), (16, gsB s)]
set_option maxHeartbeats 16000000 in
set_option maxRecDepth 100000 in
theorem c_gSettled {b : Book} {now : Evening} {st : P4} {cl : Sta → Nat} {N : List (P4 × Nat)} {p0 p1 p2 p3 : Int} (h0 : PosOk b.vs 0 p0) (h1 : PosOk b.vs 1 p1) (h2 : PosOk b.vs 2 p2) (h3 : PosOk b.vs 3 p3) (H2 : List Blk) :
  ACall Tryz.prog 117 [.agg (gC b), .agg (pA (p0, p1, p2, p3))] (gH b now st cl N ++ H2) (.ret (nb (skB cl p0 p1 p2 p3 false false false false false false 6))) (gH b now st cl N ++ H2) := by
 refine fn_preM (m := false) (fn := Tryz.f117) (c := (Tryz.f117.body).getD .skip) (t0 := ofL (gL b now st cl N)) (n0 := 11) mixed (by kernel_rfl) (by kernel_rfl) (of_decide_eq_true (by kernel_rfl)) (HT.full (l := gL b now st cl N) ⟨rfl, rfl, rfl, rfl, rfl, rfl, rfl, rfl, rfl, rfl, rfl, trivial⟩ rfl) ?_ (gH_under _ _ _ _ _) rfl ?_ H2
 ·exact ⟨under_gC (ltb rfl) _, under_pA 11 _, trivial⟩
 ·refine CallG.inlineP (m := false) (fn := Tryz.f125) (c := (Tryz.f125.body).getD .skip) mixed (by kernel_rfl) (by kernel_rfl) (of_decide_eq_true (by kernel_rfl)) ?_
  refine .inl ⟨.inl rfl, _, rfl, rfl, ?_⟩
  refine RangeG.fresh (n0 := 15) [(2, .ptr 11 0), (3, .ptr 12 0), (4, .ptr 13 0), (8, .fn (.func 175) [] [.ptr 14 0])] ((gsL b now st cl N p0 p1 p2 p3 .ready).take 15) rfl ?_ ?_ ?_
  ·exact ⟨⟨_, rfl, Weak.refl _ _⟩, ⟨_, rfl, Weak.refl _ _⟩, ⟨_, rfl, Weak.refl _ _⟩, ⟨_, rfl, Weak.refl _ _⟩, trivial⟩
  ·exact ⟨bk rfl rfl, bk rfl rfl, bk rfl rfl, bk rfl rfl, bk rfl rfl, bk rfl rfl, bk rfl rfl, bk rfl rfl, bk rfl rfl, bk rfl rfl, bk rfl rfl, bk rfl rfl, bk rfl rfl, bk rfl rfl, bk rfl rfl, trivial⟩
  refine RangeG.outer (f := 175) (first := []) (captured := [.ptr 14 0]) rfl rfl rfl ?_
  refine CallG.inlineP (m := false) (fn := Tryz.f175) (c := (Tryz.f175.body).getD .skip) mixed (by kernel_rfl) (by kernel_rfl) (of_decide_eq_true (by kernel_rfl)) ?_
  refine LoopG.at (n0 := 17) rfl (loop_up mixed (m := false) (fun a => [(0, .yld 16), (1, .ptr 14 0), (3, n' (kk a : Nat)), (6, n' a)]) (fun _ => gsL b now st cl N p0 p1 p2 p3 .ready) (fun a => skB cl p0 p1 p2 p3 false false false false false false (kk a) = true) 4 13 (leb rfl) rfl ?_ ?_ ?_)
  ·exact ⟨wp rfl (ltb rfl), wp rfl (ltb rfl), wp rfl trivial, wp rfl trivial, trivial⟩
  ·exact ⟨bk rfl rfl, bk rfl rfl, bk rfl rfl, bk rfl rfl, bk rfl rfl, bk rfl rfl, bk rfl rfl, bk rfl rfl, bk rfl rfl, bk rfl rfl, bk rfl rfl, bk rfl rfl, bk rfl rfl, bk rfl rfl, bk rfl rfl, bk rfl rfl, bk rfl rfl, trivial⟩
  ·intro a ha hI
   have ha4 : a = 0 ∨ a = 1 ∨ a = 2 ∨ a = 3 ∨ a = 4 := by omega
   rcases ha4 with rfl | rfl | rfl | rfl | rfl
   ·refine If.mk (fun _ => ?_) (fun h => absurd (by decide) h)
    refine ifY ?_
    refine LoopG.at (n0 := 17) rfl (loop_up mixed (m := false) (fun r => [(0, .yld 16), (1, .ptr 14 0), (3, n' (kk 0 + r : Nat)), (4, n' (0 : Nat)), (6, n' (0 : Nat)), (9, n' (0 : Nat)), (10, n' r)]) (fun _ => gsL b now st cl N p0 p1 p2 p3 .ready) (fun r => skB cl p0 p1 p2 p3 false false false false false false (kk 0 + r) = true) 0 13 (leb rfl) hI ?_ ?_ ?_)
    ·exact ⟨wp rfl (ltb rfl), wp rfl (ltb rfl), wp rfl trivial, wp rfl trivial, wp rfl trivial, wp rfl trivial, wp rfl trivial, trivial⟩
    ·exact ⟨bk rfl rfl, bk rfl rfl, bk rfl rfl, bk rfl rfl, bk rfl rfl, bk rfl rfl, bk rfl rfl, bk rfl rfl, bk rfl rfl, bk rfl rfl, bk rfl rfl, bk rfl rfl, bk rfl rfl, bk rfl rfl, bk rfl rfl, bk rfl rfl, bk rfl rfl, trivial⟩
    ·intro r hr hJ
     obtain rfl : r = 0 := by omega
     refine If.mk (fun h => absurd h (by decide)) (fun _ => ?_)
     refine ifN ?_
     refine ⟨leb rfl, ?_⟩
     refine Side.mk (fits64 (by omega)) ?_
     refine ⟨leb rfl, rfl, by omega, hJ, ⟨wp rfl (ltb rfl), wp rfl (ltb rfl), wp rfl trivial, wp rfl trivial, trivial⟩, ?_, ?_⟩
     ·exact ⟨bk rfl rfl, bk rfl rfl, bk rfl rfl, bk rfl rfl, bk rfl rfl, bk rfl rfl, bk rfl rfl, bk rfl rfl, bk rfl rfl, bk rfl rfl, bk rfl rfl, bk rfl rfl, bk rfl rfl, bk rfl rfl, bk rfl rfl, bk rfl rfl, bk rfl rfl, trivial⟩
     ·exact ⟨⟨_, rfl, trivial, trivial⟩, ⟨_, rfl, under_pA _ _⟩, ⟨_, rfl, trivial⟩, ⟨gsB .ready, rfl, under_gsB _⟩, trivial⟩
   ·refine If.mk (fun _ => ?_) (fun h => absurd (by decide) h)
    refine ifY ?_
    refine LoopG.at (n0 := 17) rfl (loop_up mixed (m := false) (fun r => [(0, .yld 16), (1, .ptr 14 0), (3, n' (kk 1 + r : Nat)), (4, n' (1 : Nat)), (6, n' (1 : Nat)), (9, n' (1 : Nat)), (10, n' r)]) (fun _ => gsL b now st cl N p0 p1 p2 p3 .ready) (fun r => skB cl p0 p1 p2 p3 false false false false false false (kk 1 + r) = true) 1 13 (leb rfl) hI ?_ ?_ ?_)
    ·exact ⟨wp rfl (ltb rfl), wp rfl (ltb rfl), wp rfl trivial, wp rfl trivial, wp rfl trivial, wp rfl trivial, wp rfl trivial, trivial⟩
    ·exact ⟨bk rfl rfl, bk rfl rfl, bk rfl rfl, bk rfl rfl, bk rfl rfl, bk rfl rfl, bk rfl rfl, bk rfl rfl, bk rfl rfl, bk rfl rfl, bk rfl rfl, bk rfl rfl, bk rfl rfl, bk rfl rfl, bk rfl rfl, bk rfl rfl, bk rfl rfl, trivial⟩
    ·intro r hr hJ
     have hr4 : r = 0 ∨ r = 1 := by omega
     rcases hr4 with rfl | rfl
     case' inl =>
      refine If.mk (fun _ => ?_) (fun h => absurd (by decide) h)
      refine ifY ?_
      refine If.mk (fun ga => ?_) (fun ga => ?_)
      case' refine_2 =>
       have ga : ¬ 0 ≤ p1 := ga
       have e0 : okS cl false 1 0 p1 p0 = true := by simp [okS, ga]
      case' refine_1 =>
       have ga : 0 ≤ p1 := ga
       refine If.mk (fun gb => ?_) (fun gb => ?_)
       case' refine_2 =>
        have gb : ¬ 0 ≤ p0 := gb
        have e0 : okS cl false 1 0 p1 p0 = true := by simp [okS, gb]
       case' refine_1 =>
        have gb : 0 ≤ p0 := gb
        refine RoundG.fresh (n0 := 17) (gsL b now st cl N p0 p1 p2 p3 .ready) rfl ?_ ?_
        ·exact ⟨bk rfl rfl, bk rfl rfl, bk rfl rfl, bk rfl rfl, bk rfl rfl, bk rfl rfl, bk rfl rfl, bk rfl rfl, bk rfl rfl, bk rfl rfl, bk rfl rfl, bk rfl rfl, bk rfl rfl, bk rfl rfl, bk rfl rfl, bk rfl rfl, bk rfl rfl, trivial⟩
        refine RoundG.introF (m := false) mixed rfl rfl (by decide) ?_
        refine ⟨rfl, _, rfl, rfl, [(2, .ptr 11 0), (3, .ptr 12 0), (4, .ptr 13 0), (6, .ptr 17 0)], gsL b now st cl N p0 p1 p2 p3 .busy ++ [(17, .box [n' (1 : Nat), n' (0 : Nat)] 141)], 18, rfl, ?_, ?_, ?_⟩
        ·exact ⟨⟨_, rfl, Weak.refl _ _⟩, ⟨_, rfl, Weak.refl _ _⟩, ⟨_, rfl, Weak.refl _ _⟩, ⟨_, rfl, Weak.refl _ _⟩, trivial⟩
        ·exact ⟨bk rfl rfl, bk rfl rfl, bk rfl rfl, bk rfl rfl, bk rfl rfl, bk rfl rfl, bk rfl rfl, bk rfl rfl, bk rfl rfl, bk rfl rfl, bk rfl rfl, bk rfl rfl, bk rfl rfl, bk rfl rfl, bk rfl rfl, bk rfl rfl, bk rfl rfl, bk rfl rfl, trivial⟩
        refine Ex.mk _ (aop_lookK (kt := 141) (et := 3) (key := [((1 : Nat) : Int), 0]) rfl rfl rfl rfl (by kernel_rfl) (by kernel_rfl) rfl (key0 (by decide)) (cl_zero h1 ga)) ?_
        refine Ex.mk _ (aop_lookK (kt := 141) (et := 3) (key := [((0 : Nat) : Int), 0]) rfl rfl rfl rfl (by kernel_rfl) (by kernel_rfl) rfl (key0 (by decide)) (cl_zero h0 gb)) ?_
        refine If.mk (fun he => ?_) (fun he => ?_)
        case' refine_1 =>
         have he' : cl (1, 0) = cl (0, 0) := Int.ofNat_inj.1 he
         refine ifN ?_
         refine ⟨_, _, rfl, rfl, ?_⟩
         have e0 : okS cl false 1 0 p1 p0 = true := by simp [okS, he']
        case' refine_2 =>
         have he' : ¬ cl (1, 0) = cl (0, 0) := fun h9 => he (by rw [h9])
         refine ifY ?_
         refine ⟨_, _, rfl, rfl, ?_⟩
         refine ifY ?_
         refine ⟨leb rfl, leb rfl, .inl ⟨.inl rfl, _, rfl, rfl, _, _, rfl, (fun e => by cases e), rfl, .inl rfl, leb rfl, FinP.mk _ rfl rfl ?_⟩⟩
         have e0 : okS cl false 1 0 p1 p0 = false := by simp [okS, ga, gb, he']
         show AV.lit (.bool false) = nb (skB cl p0 p1 p2 p3 false false false false false false 6)
         simp [skB, e0, nb]
     case' inr =>
      refine If.mk (fun h => absurd h (by decide)) (fun _ => ?_)
      refine ifN ?_
      refine ⟨leb rfl, ?_⟩
      refine Side.mk (fits64 (by omega)) ?_
      refine ⟨leb rfl, rfl, by omega, hJ, ⟨wp rfl (ltb rfl), wp rfl (ltb rfl), wp rfl trivial, wp rfl trivial, trivial⟩, ?_, ?_⟩
      ·exact ⟨bk rfl rfl, bk rfl rfl, bk rfl rfl, bk rfl rfl, bk rfl rfl, bk rfl rfl, bk rfl rfl, bk rfl rfl, bk rfl rfl, bk rfl rfl, bk rfl rfl, bk rfl rfl, bk rfl rfl, bk rfl rfl, bk rfl rfl, bk rfl rfl, bk rfl rfl, trivial⟩
      ·exact ⟨⟨_, rfl, trivial, trivial⟩, ⟨_, rfl, under_pA _ _⟩, ⟨_, rfl, trivial⟩, ⟨gsB .ready, rfl, under_gsB _⟩, trivial⟩
     all_goals
      refine ifN ?_
      refine Side.mk (by unfold fitsK; kernel_rfl) ?_
      refine Side.mk (by unfold fitsK; kernel_rfl) ?_
      refine ⟨leb rfl, rfl, by omega, ?_, ⟨wp rfl (ltb rfl), wp rfl (ltb rfl), wp rfl trivial, wp rfl trivial, wp rfl trivial, wp rfl trivial, wp rfl trivial, trivial⟩, ?_, ?_⟩
      ·have hJ' := hJ
       simp [kk, skB, e0] at hJ' ⊢
       try simp [hJ']
      ·exact ⟨bk rfl rfl, bk rfl rfl, bk rfl rfl, bk rfl rfl, bk rfl rfl, bk rfl rfl, bk rfl rfl, bk rfl rfl, bk rfl rfl, bk rfl rfl, bk rfl rfl, bk rfl rfl, bk rfl rfl, bk rfl rfl, bk rfl rfl, bk rfl rfl, bk rfl rfl, trivial⟩
      ·first | trivial | exact ⟨⟨gsB .ready, rfl, under_gsB _⟩, trivial⟩
   ·refine If.mk (fun _ => ?_) (fun h => absurd (by decide) h)
    refine ifY ?_
    refine LoopG.at (n0 := 17) rfl (loop_up mixed (m := false) (fun r => [(0, .yld 16), (1, .ptr 14 0), (3, n' (kk 2 + r : Nat)), (4, n' (2 : Nat)), (6, n' (2 : Nat)), (9, n' (2 : Nat)), (10, n' r)]) (fun _ => gsL b now st cl N p0 p1 p2 p3 .ready) (fun r => skB cl p0 p1 p2 p3 false false false false false false (kk 2 + r) = true) 2 13 (leb rfl) hI ?_ ?_ ?_)
    ·exact ⟨wp rfl (ltb rfl), wp rfl (ltb rfl), wp rfl trivial, wp rfl trivial, wp rfl trivial, wp rfl trivial, wp rfl trivial, trivial⟩
    ·exact ⟨bk rfl rfl, bk rfl rfl, bk rfl rfl, bk rfl rfl, bk rfl rfl, bk rfl rfl, bk rfl rfl, bk rfl rfl, bk rfl rfl, bk rfl rfl, bk rfl rfl, bk rfl rfl, bk rfl rfl, bk rfl rfl, bk rfl rfl, bk rfl rfl, bk rfl rfl, trivial⟩
    ·intro r hr hJ
     have hr4 : r = 0 ∨ r = 1 ∨ r = 2 := by omega
     rcases hr4 with rfl | rfl | rfl
     case' inl =>
      refine If.mk (fun _ => ?_) (fun h => absurd (by decide) h)
      refine ifY ?_
      refine If.mk (fun ga => ?_) (fun ga => ?_)
      case' refine_2 =>
       have ga : ¬ 0 ≤ p2 := ga
       have e0 : okS cl false 2 0 p2 p0 = true := by simp [okS, ga]
      case' refine_1 =>
       have ga : 0 ≤ p2 := ga
       refine If.mk (fun gb => ?_) (fun gb => ?_)
       case' refine_2 =>
        have gb : ¬ 0 ≤ p0 := gb
        have e0 : okS cl false 2 0 p2 p0 = true := by simp [okS, gb]
       case' refine_1 =>
        have gb : 0 ≤ p0 := gb
        refine RoundG.fresh (n0 := 17) (gsL b now st cl N p0 p1 p2 p3 .ready) rfl ?_ ?_
        ·exact ⟨bk rfl rfl, bk rfl rfl, bk rfl rfl, bk rfl rfl, bk rfl rfl, bk rfl rfl, bk rfl rfl, bk rfl rfl, bk rfl rfl, bk rfl rfl, bk rfl rfl, bk rfl rfl, bk rfl rfl, bk rfl rfl, bk rfl rfl, bk rfl rfl, bk rfl rfl, trivial⟩
        refine RoundG.introF (m := false) mixed rfl rfl (by decide) ?_
        refine ⟨rfl, _, rfl, rfl, [(2, .ptr 11 0), (3, .ptr 12 0), (4, .ptr 13 0), (6, .ptr 17 0)], gsL b now st cl N p0 p1 p2 p3 .busy ++ [(17, .box [n' (2 : Nat), n' (0 : Nat)] 141)], 18, rfl, ?_, ?_, ?_⟩
        ·exact ⟨⟨_, rfl, Weak.refl _ _⟩, ⟨_, rfl, Weak.refl _ _⟩, ⟨_, rfl, Weak.refl _ _⟩, ⟨_, rfl, Weak.refl _ _⟩, trivial⟩
        ·exact ⟨bk rfl rfl, bk rfl rfl, bk rfl rfl, bk rfl rfl, bk rfl rfl, bk rfl rfl, bk rfl rfl, bk rfl rfl, bk rfl rfl, bk rfl rfl, bk rfl rfl, bk rfl rfl, bk rfl rfl, bk rfl rfl, bk rfl rfl, bk rfl rfl, bk rfl rfl, bk rfl rfl, trivial⟩
        refine Ex.mk _ (aop_lookK (kt := 141) (et := 3) (key := [((2 : Nat) : Int), 0]) rfl rfl rfl rfl (by kernel_rfl) (by kernel_rfl) rfl (key0 (by decide)) (cl_zero h2 ga)) ?_
        refine Ex.mk _ (aop_lookK (kt := 141) (et := 3) (key := [((0 : Nat) : Int), 0]) rfl rfl rfl rfl (by kernel_rfl) (by kernel_rfl) rfl (key0 (by decide)) (cl_zero h0 gb)) ?_
        refine If.mk (fun he => ?_) (fun he => ?_)
        case' refine_1 =>
         have he' : cl (2, 0) = cl (0, 0) := Int.ofNat_inj.1 he
         refine ifN ?_
         refine ⟨_, _, rfl, rfl, ?_⟩
         have e0 : okS cl false 2 0 p2 p0 = true := by simp [okS, he']
        case' refine_2 =>
         have he' : ¬ cl (2, 0) = cl (0, 0) := fun h9 => he (by rw [h9])
         refine ifY ?_
         refine ⟨_, _, rfl, rfl, ?_⟩
         refine ifY ?_
         refine ⟨leb rfl, leb rfl, .inl ⟨.inl rfl, _, rfl, rfl, _, _, rfl, (fun e => by cases e), rfl, .inl rfl, leb rfl, FinP.mk _ rfl rfl ?_⟩⟩
         have e0 : okS cl false 2 0 p2 p0 = false := by simp [okS, ga, gb, he']
         show AV.lit (.bool false) = nb (skB cl p0 p1 p2 p3 false false false false false false 6)
         simp [skB, e0, nb]
     case' inr.inl =>
      refine If.mk (fun _ => ?_) (fun h => absurd (by decide) h)
      refine ifY ?_
      refine If.mk (fun ga => ?_) (fun ga => ?_)
      case' refine_2 =>
       have ga : ¬ 0 ≤ p2 := ga
       have e0 : okS cl false 2 1 p2 p1 = true := by simp [okS, ga]
      case' refine_1 =>
       have ga : 0 ≤ p2 := ga
       refine If.mk (fun gb => ?_) (fun gb => ?_)
       case' refine_2 =>
        have gb : ¬ 0 ≤ p1 := gb
        have e0 : okS cl false 2 1 p2 p1 = true := by simp [okS, gb]
       case' refine_1 =>
        have gb : 0 ≤ p1 := gb
        refine RoundG.fresh (n0 := 17) (gsL b now st cl N p0 p1 p2 p3 .ready) rfl ?_ ?_
        ·exact ⟨bk rfl rfl, bk rfl rfl, bk rfl rfl, bk rfl rfl, bk rfl rfl, bk rfl rfl, bk rfl rfl, bk rfl rfl, bk rfl rfl, bk rfl rfl, bk rfl rfl, bk rfl rfl, bk rfl rfl, bk rfl rfl, bk rfl rfl, bk rfl rfl, bk rfl rfl, trivial⟩
        refine RoundG.introF (m := false) mixed rfl rfl (by decide) ?_
        refine ⟨rfl, _, rfl, rfl, [(2, .ptr 11 0), (3, .ptr 12 0), (4, .ptr 13 0), (6, .ptr 17 0)], gsL b now st cl N p0 p1 p2 p3 .busy ++ [(17, .box [n' (2 : Nat), n' (1 : Nat)] 141)], 18, rfl, ?_, ?_, ?_⟩
        ·exact ⟨⟨_, rfl, Weak.refl _ _⟩, ⟨_, rfl, Weak.refl _ _⟩, ⟨_, rfl, Weak.refl _ _⟩, ⟨_, rfl, Weak.refl _ _⟩, trivial⟩
        ·exact ⟨bk rfl rfl, bk rfl rfl, bk rfl rfl, bk rfl rfl, bk rfl rfl, bk rfl rfl, bk rfl rfl, bk rfl rfl, bk rfl rfl, bk rfl rfl, bk rfl rfl, bk rfl rfl, bk rfl rfl, bk rfl rfl, bk rfl rfl, bk rfl rfl, bk rfl rfl, bk rfl rfl, trivial⟩
        refine Ex.mk _ (aop_lookK (kt := 141) (et := 3) (key := [((2 : Nat) : Int), 0]) rfl rfl rfl rfl (by kernel_rfl) (by kernel_rfl) rfl (key0 (by decide)) (cl_zero h2 ga)) ?_
        refine Ex.mk _ (aop_lookK (kt := 141) (et := 3) (key := [((1 : Nat) : Int), 0]) rfl rfl rfl rfl (by kernel_rfl) (by kernel_rfl) rfl (key0 (by decide)) (cl_zero h1 gb)) ?_
        refine If.mk (fun he => ?_) (fun he => ?_)
        case' refine_1 =>
         have he' : cl (2, 0) = cl (1, 0) := Int.ofNat_inj.1 he
         refine ifN ?_
         refine ⟨_, _, rfl, rfl, ?_⟩
         have e0 : okS cl false 2 1 p2 p1 = true := by simp [okS, he']
        case' refine_2 =>
         have he' : ¬ cl (2, 0) = cl (1, 0) := fun h9 => he (by rw [h9])
         refine ifY ?_
         refine ⟨_, _, rfl, rfl, ?_⟩
         refine ifY ?_
         refine ⟨leb rfl, leb rfl, .inl ⟨.inl rfl, _, rfl, rfl, _, _, rfl, (fun e => by cases e), rfl, .inl rfl, leb rfl, FinP.mk _ rfl rfl ?_⟩⟩
         have e0 : okS cl false 2 1 p2 p1 = false := by simp [okS, ga, gb, he']
         show AV.lit (.bool false) = nb (skB cl p0 p1 p2 p3 false false false false false false 6)
         simp [skB, e0, nb]
     case' inr.inr =>
      refine If.mk (fun h => absurd h (by decide)) (fun _ => ?_)
      refine ifN ?_
      refine ⟨leb rfl, ?_⟩
      refine Side.mk (fits64 (by omega)) ?_
      refine ⟨leb rfl, rfl, by omega, hJ, ⟨wp rfl (ltb rfl), wp rfl (ltb rfl), wp rfl trivial, wp rfl trivial, trivial⟩, ?_, ?_⟩
      ·exact ⟨bk rfl rfl, bk rfl rfl, bk rfl rfl, bk rfl rfl, bk rfl rfl, bk rfl rfl, bk rfl rfl, bk rfl rfl, bk rfl rfl, bk rfl rfl, bk rfl rfl, bk rfl rfl, bk rfl rfl, bk rfl rfl, bk rfl rfl, bk rfl rfl, bk rfl rfl, trivial⟩
      ·exact ⟨⟨_, rfl, trivial, trivial⟩, ⟨_, rfl, under_pA _ _⟩, ⟨_, rfl, trivial⟩, ⟨gsB .ready, rfl, under_gsB _⟩, trivial⟩
     all_goals
      refine ifN ?_
      refine Side.mk (by unfold fitsK; kernel_rfl) ?_
      refine Side.mk (by unfold fitsK; kernel_rfl) ?_
      refine ⟨leb rfl, rfl, by omega, ?_, ⟨wp rfl (ltb rfl), wp rfl (ltb rfl), wp rfl trivial, wp rfl trivial, wp rfl trivial, wp rfl trivial, wp rfl trivial, trivial⟩, ?_, ?_⟩
      ·have hJ' := hJ
       simp [kk, skB, e0] at hJ' ⊢
       try simp [hJ']
      ·exact ⟨bk rfl rfl, bk rfl rfl, bk rfl rfl, bk rfl rfl, bk rfl rfl, bk rfl rfl, bk rfl rfl, bk rfl rfl, bk rfl rfl, bk rfl rfl, bk rfl rfl, bk rfl rfl, bk rfl rfl, bk rfl rfl, bk rfl rfl, bk rfl rfl, bk rfl rfl, trivial⟩
      ·first | trivial | exact ⟨⟨gsB .ready, rfl, under_gsB _⟩, trivial⟩
   ·refine If.mk (fun _ => ?_) (fun h => absurd (by decide) h)
    refine ifY ?_
    refine LoopG.at (n0 := 17) rfl (loop_up mixed (m := false) (fun r => [(0, .yld 16), (1, .ptr 14 0), (3, n' (kk 3 + r : Nat)), (4, n' (3 : Nat)), (6, n' (3 : Nat)), (9, n' (3 : Nat)), (10, n' r)]) (fun _ => gsL b now st cl N p0 p1 p2 p3 .ready) (fun r => skB cl p0 p1 p2 p3 false false false false false false (kk 3 + r) = true) 3 13 (leb rfl) hI ?_ ?_ ?_)
    ·exact ⟨wp rfl (ltb rfl), wp rfl (ltb rfl), wp rfl trivial, wp rfl trivial, wp rfl trivial, wp rfl trivial, wp rfl trivial, trivial⟩
    ·exact ⟨bk rfl rfl, bk rfl rfl, bk rfl rfl, bk rfl rfl, bk rfl rfl, bk rfl rfl, bk rfl rfl, bk rfl rfl, bk rfl rfl, bk rfl rfl, bk rfl rfl, bk rfl rfl, bk rfl rfl, bk rfl rfl, bk rfl rfl, bk rfl rfl, bk rfl rfl, trivial⟩
    ·intro r hr hJ
     have hr4 : r = 0 ∨ r = 1 ∨ r = 2 ∨ r = 3 := by omega
     rcases hr4 with rfl | rfl | rfl | rfl
     case' inl =>
      refine If.mk (fun _ => ?_) (fun h => absurd (by decide) h)
      refine ifY ?_
      refine If.mk (fun ga => ?_) (fun ga => ?_)
      case' refine_2 =>
       have ga : ¬ 0 ≤ p3 := ga
       have e0 : okS cl false 3 0 p3 p0 = true := by simp [okS, ga]
      case' refine_1 =>
       have ga : 0 ≤ p3 := ga
       refine If.mk (fun gb => ?_) (fun gb => ?_)
       case' refine_2 =>
        have gb : ¬ 0 ≤ p0 := gb
        have e0 : okS cl false 3 0 p3 p0 = true := by simp [okS, gb]
       case' refine_1 =>
        have gb : 0 ≤ p0 := gb
        refine RoundG.fresh (n0 := 17) (gsL b now st cl N p0 p1 p2 p3 .ready) rfl ?_ ?_
        ·exact ⟨bk rfl rfl, bk rfl rfl, bk rfl rfl, bk rfl rfl, bk rfl rfl, bk rfl rfl, bk rfl rfl, bk rfl rfl, bk rfl rfl, bk rfl rfl, bk rfl rfl, bk rfl rfl, bk rfl rfl, bk rfl rfl, bk rfl rfl, bk rfl rfl, bk rfl rfl, trivial⟩
        refine RoundG.introF (m := false) mixed rfl rfl (by decide) ?_
        refine ⟨rfl, _, rfl, rfl, [(2, .ptr 11 0), (3, .ptr 12 0), (4, .ptr 13 0), (6, .ptr 17 0)], gsL b now st cl N p0 p1 p2 p3 .busy ++ [(17, .box [n' (3 : Nat), n' (0 : Nat)] 141)], 18, rfl, ?_, ?_, ?_⟩
        ·exact ⟨⟨_, rfl, Weak.refl _ _⟩, ⟨_, rfl, Weak.refl _ _⟩, ⟨_, rfl, Weak.refl _ _⟩, ⟨_, rfl, Weak.refl _ _⟩, trivial⟩
        ·exact ⟨bk rfl rfl, bk rfl rfl, bk rfl rfl, bk rfl rfl, bk rfl rfl, bk rfl rfl, bk rfl rfl, bk rfl rfl, bk rfl rfl, bk rfl rfl, bk rfl rfl, bk rfl rfl, bk rfl rfl, bk rfl rfl, bk rfl rfl, bk rfl rfl, bk rfl rfl, bk rfl rfl, trivial⟩
        refine Ex.mk _ (aop_lookK (kt := 141) (et := 3) (key := [((3 : Nat) : Int), 0]) rfl rfl rfl rfl (by kernel_rfl) (by kernel_rfl) rfl (key0 (by decide)) (cl_zero h3 ga)) ?_
        refine Ex.mk _ (aop_lookK (kt := 141) (et := 3) (key := [((0 : Nat) : Int), 0]) rfl rfl rfl rfl (by kernel_rfl) (by kernel_rfl) rfl (key0 (by decide)) (cl_zero h0 gb)) ?_
        refine If.mk (fun he => ?_) (fun he => ?_)
        case' refine_1 =>
         have he' : cl (3, 0) = cl (0, 0) := Int.ofNat_inj.1 he
         refine ifN ?_
         refine ⟨_, _, rfl, rfl, ?_⟩
         have e0 : okS cl false 3 0 p3 p0 = true := by simp [okS, he']
        case' refine_2 =>
         have he' : ¬ cl (3, 0) = cl (0, 0) := fun h9 => he (by rw [h9])
         refine ifY ?_
         refine ⟨_, _, rfl, rfl, ?_⟩
         refine ifY ?_
         refine ⟨leb rfl, leb rfl, .inl ⟨.inl rfl, _, rfl, rfl, _, _, rfl, (fun e => by cases e), rfl, .inl rfl, leb rfl, FinP.mk _ rfl rfl ?_⟩⟩
         have e0 : okS cl false 3 0 p3 p0 = false := by simp [okS, ga, gb, he']
         show AV.lit (.bool false) = nb (skB cl p0 p1 p2 p3 false false false false false false 6)
         simp [skB, e0, nb]
     case' inr.inl =>
      refine If.mk (fun _ => ?_) (fun h => absurd (by decide) h)
      refine ifY ?_
      refine If.mk (fun ga => ?_) (fun ga => ?_)
      case' refine_2 =>
       have ga : ¬ 0 ≤ p3 := ga
       have e0 : okS cl false 3 1 p3 p1 = true := by simp [okS, ga]
      case' refine_1 =>
       have ga : 0 ≤ p3 := ga
       refine If.mk (fun gb => ?_) (fun gb => ?_)
       case' refine_2 =>
        have gb : ¬ 0 ≤ p1 := gb
        have e0 : okS cl false 3 1 p3 p1 = true := by simp [okS, gb]
       case' refine_1 =>
        have gb : 0 ≤ p1 := gb
        refine RoundG.fresh (n0 := 17) (gsL b now st cl N p0 p1 p2 p3 .ready) rfl ?_ ?_
        ·exact ⟨bk rfl rfl, bk rfl rfl, bk rfl rfl, bk rfl rfl, bk rfl rfl, bk rfl rfl, bk rfl rfl, bk rfl rfl, bk rfl rfl, bk rfl rfl, bk rfl rfl, bk rfl rfl, bk rfl rfl, bk rfl rfl, bk rfl rfl, bk rfl rfl, bk rfl rfl, trivial⟩
        refine RoundG.introF (m := false) mixed rfl rfl (by decide) ?_
        refine ⟨rfl, _, rfl, rfl, [(2, .ptr 11 0), (3, .ptr 12 0), (4, .ptr 13 0), (6, .ptr 17 0)], gsL b now st cl N p0 p1 p2 p3 .busy ++ [(17, .box [n' (3 : Nat), n' (1 : Nat)] 141)], 18, rfl, ?_, ?_, ?_⟩
        ·exact ⟨⟨_, rfl, Weak.refl _ _⟩, ⟨_, rfl, Weak.refl _ _⟩, ⟨_, rfl, Weak.refl _ _⟩, ⟨_, rfl, Weak.refl _ _⟩, trivial⟩
        ·exact ⟨bk rfl rfl, bk rfl rfl, bk rfl rfl, bk rfl rfl, bk rfl rfl, bk rfl rfl, bk rfl rfl, bk rfl rfl, bk rfl rfl, bk rfl rfl, bk rfl rfl, bk rfl rfl, bk rfl rfl, bk rfl rfl, bk rfl rfl, bk rfl rfl, bk rfl rfl, bk rfl rfl, trivial⟩
        refine Ex.mk _ (aop_lookK (kt := 141) (et := 3) (key := [((3 : Nat) : Int), 0]) rfl rfl rfl rfl (by kernel_rfl) (by kernel_rfl) rfl (key0 (by decide)) (cl_zero h3 ga)) ?_
        refine Ex.mk _ (aop_lookK (kt := 141) (et := 3) (key := [((1 : Nat) : Int), 0]) rfl rfl rfl rfl (by kernel_rfl) (by kernel_rfl) rfl (key0 (by decide)) (cl_zero h1 gb)) ?_
        refine If.mk (fun he => ?_) (fun he => ?_)
        case' refine_1 =>
         have he' : cl (3, 0) = cl (1, 0) := Int.ofNat_inj.1 he
         refine ifN ?_
         refine ⟨_, _, rfl, rfl, ?_⟩
         have e0 : okS cl false 3 1 p3 p1 = true := by simp [okS, he']
        case' refine_2 =>
         have he' : ¬ cl (3, 0) = cl (1, 0) := fun h9 => he (by rw [h9])
         refine ifY ?_
         refine ⟨_, _, rfl, rfl, ?_⟩
         refine ifY ?_
         refine ⟨leb rfl, leb rfl, .inl ⟨.inl rfl, _, rfl, rfl, _, _, rfl, (fun e => by cases e), rfl, .inl rfl, leb rfl, FinP.mk _ rfl rfl ?_⟩⟩
         have e0 : okS cl false 3 1 p3 p1 = false := by simp [okS, ga, gb, he']
         show AV.lit (.bool false) = nb (skB cl p0 p1 p2 p3 false false false false false false 6)
         simp [skB, e0, nb]
     case' inr.inr.inl =>
      refine If.mk (fun _ => ?_) (fun h => absurd (by decide) h)
      refine ifY ?_
      refine If.mk (fun ga => ?_) (fun ga => ?_)
      case' refine_2 =>
       have ga : ¬ 0 ≤ p3 := ga
       have e0 : okS cl false 3 2 p3 p2 = true := by simp [okS, ga]
      case' refine_1 =>
       have ga : 0 ≤ p3 := ga
       refine If.mk (fun gb => ?_) (fun gb => ?_)
       case' refine_2 =>
        have gb : ¬ 0 ≤ p2 := gb
        have e0 : okS cl false 3 2 p3 p2 = true := by simp [okS, gb]
       case' refine_1 =>
        have gb : 0 ≤ p2 := gb
        refine RoundG.fresh (n0 := 17) (gsL b now st cl N p0 p1 p2 p3 .ready) rfl ?_ ?_
        ·exact ⟨bk rfl rfl, bk rfl rfl, bk rfl rfl, bk rfl rfl, bk rfl rfl, bk rfl rfl, bk rfl rfl, bk rfl rfl, bk rfl rfl, bk rfl rfl, bk rfl rfl, bk rfl rfl, bk rfl rfl, bk rfl rfl, bk rfl rfl, bk rfl rfl, bk rfl rfl, trivial⟩
        refine RoundG.introF (m := false) mixed rfl rfl (by decide) ?_
        refine ⟨rfl, _, rfl, rfl, [(2, .ptr 11 0), (3, .ptr 12 0), (4, .ptr 13 0), (6, .ptr 17 0)], gsL b now st cl N p0 p1 p2 p3 .busy ++ [(17, .box [n' (3 : Nat), n' (2 : Nat)] 141)], 18, rfl, ?_, ?_, ?_⟩
        ·exact ⟨⟨_, rfl, Weak.refl _ _⟩, ⟨_, rfl, Weak.refl _ _⟩, ⟨_, rfl, Weak.refl _ _⟩, ⟨_, rfl, Weak.refl _ _⟩, trivial⟩
        ·exact ⟨bk rfl rfl, bk rfl rfl, bk rfl rfl, bk rfl rfl, bk rfl rfl, bk rfl rfl, bk rfl rfl, bk rfl rfl, bk rfl rfl, bk rfl rfl, bk rfl rfl, bk rfl rfl, bk rfl rfl, bk rfl rfl, bk rfl rfl, bk rfl rfl, bk rfl rfl, bk rfl rfl, trivial⟩
        refine Ex.mk _ (aop_lookK (kt := 141) (et := 3) (key := [((3 : Nat) : Int), 0]) rfl rfl rfl rfl (by kernel_rfl) (by kernel_rfl) rfl (key0 (by decide)) (cl_zero h3 ga)) ?_
        refine Ex.mk _ (aop_lookK (kt := 141) (et := 3) (key := [((2 : Nat) : Int), 0]) rfl rfl rfl rfl (by kernel_rfl) (by kernel_rfl) rfl (key0 (by decide)) (cl_zero h2 gb)) ?_
        refine If.mk (fun he => ?_) (fun he => ?_)
        case' refine_1 =>
         have he' : cl (3, 0) = cl (2, 0) := Int.ofNat_inj.1 he
         refine ifN ?_
         refine ⟨_, _, rfl, rfl, ?_⟩
         have e0 : okS cl false 3 2 p3 p2 = true := by simp [okS, he']
        case' refine_2 =>
         have he' : ¬ cl (3, 0) = cl (2, 0) := fun h9 => he (by rw [h9])
         refine ifY ?_
         refine ⟨_, _, rfl, rfl, ?_⟩
         refine ifY ?_
         refine ⟨leb rfl, leb rfl, .inl ⟨.inl rfl, _, rfl, rfl, _, _, rfl, (fun e => by cases e), rfl, .inl rfl, leb rfl, FinP.mk _ rfl rfl ?_⟩⟩
         have e0 : okS cl false 3 2 p3 p2 = false := by simp [okS, ga, gb, he']
         show AV.lit (.bool false) = nb (skB cl p0 p1 p2 p3 false false false false false false 6)
         simp [skB, e0, nb]
     case' inr.inr.inr =>
      refine If.mk (fun h => absurd h (by decide)) (fun _ => ?_)
      refine ifN ?_
      refine ⟨leb rfl, ?_⟩
      refine Side.mk (fits64 (by omega)) ?_
      refine ⟨leb rfl, rfl, by omega, hJ, ⟨wp rfl (ltb rfl), wp rfl (ltb rfl), wp rfl trivial, wp rfl trivial, trivial⟩, ?_, ?_⟩
      ·exact ⟨bk rfl rfl, bk rfl rfl, bk rfl rfl, bk rfl rfl, bk rfl rfl, bk rfl rfl, bk rfl rfl, bk rfl rfl, bk rfl rfl, bk rfl rfl, bk rfl rfl, bk rfl rfl, bk rfl rfl, bk rfl rfl, bk rfl rfl, bk rfl rfl, bk rfl rfl, trivial⟩
      ·exact ⟨⟨_, rfl, trivial, trivial⟩, ⟨_, rfl, under_pA _ _⟩, ⟨_, rfl, trivial⟩, ⟨gsB .ready, rfl, under_gsB _⟩, trivial⟩
     all_goals
      refine ifN ?_
      refine Side.mk (by unfold fitsK; kernel_rfl) ?_
      refine Side.mk (by unfold fitsK; kernel_rfl) ?_
      refine ⟨leb rfl, rfl, by omega, ?_, ⟨wp rfl (ltb rfl), wp rfl (ltb rfl), wp rfl trivial, wp rfl trivial, wp rfl trivial, wp rfl trivial, wp rfl trivial, trivial⟩, ?_, ?_⟩
      ·have hJ' := hJ
       simp [kk, skB, e0] at hJ' ⊢
       try simp [hJ']
      ·exact ⟨bk rfl rfl, bk rfl rfl, bk rfl rfl, bk rfl rfl, bk rfl rfl, bk rfl rfl, bk rfl rfl, bk rfl rfl, bk rfl rfl, bk rfl rfl, bk rfl rfl, bk rfl rfl, bk rfl rfl, bk rfl rfl, bk rfl rfl, bk rfl rfl, bk rfl rfl, trivial⟩
      ·first | trivial | exact ⟨⟨gsB .ready, rfl, under_gsB _⟩, trivial⟩
   ·refine If.mk (fun h => absurd h (by decide)) (fun _ => ?_)
    refine ifN ?_
    refine ⟨leb rfl, ?_⟩
    refine .inl ⟨.inr rfl, _, rfl, rfl, ?_⟩
    refine ⟨_, _, rfl, (fun e => by cases e), rfl, ?_⟩
    refine ⟨.inl rfl, leb rfl, FinP.mk _ rfl rfl ?_⟩
    have hI' : skB cl p0 p1 p2 p3 false false false false false false 6 = true := hI
    rw [hI']
    rfl
end Go.Vm

namespace Go.Vm
open Go.Proofs
def cA (q : Nat × Nat) : List AV := [n' (q.1 : Nat), n' (q.2 : Nat)]
def cAs (l : List (Nat × Nat)) : List AV := l.flatMap cA
theorem cAs_snoc (l : List (Nat × Nat)) (q : Nat × Nat) : cAs (l ++ [q]) = cAs l ++ cA q := by unfold cAs; rw [List.flatMap_append, List.flatMap_cons, List.flatMap_nil, List.append_nil]
theorem cAs_length : ∀ l : List (Nat × Nat), (cAs l).length = l.length * 2
 | [] => rfl
 | p :: l => by
  have ih := cAs_length l
  unfold cAs at ih ⊢
  rw [List.flatMap_cons, List.length_append, ih, List.length_cons]
  show 2 + l.length * 2 = _
  omega
theorem under_cAs (n : Nat) : ∀ l : List (Nat × Nat), AV.unders n (cAs l)
 | [] => trivial
 | _ :: l => ⟨trivial, trivial, under_cAs n l⟩
def eChs (l : List (Nat × Nat)) : AV := .sl l.length (cAs l) .unk
theorem under_eChs (n : Nat) (l : List (Nat × Nat)) : (eChs l).under n := ⟨under_cAs n l, trivial⟩
def rowC (l : List (Nat × Nat)) (id : Nat) : AV := .sl l.length (cAs l) (.own id l.length 2)
theorem under_rowC (n : Nat) {id : Nat} (h : id < n) (l : List (Nat × Nat)) : (rowC l id).under n := ⟨under_cAs n l, h⟩
theorem rowC_snoc (l : List (Nat × Nat)) (q : Nat × Nat) (id : Nat) : rowC (l ++ [q]) id = .sl (l.length + 1) (cAs l ++ cA q) (.own id (l.length + 1) 2) := by
 unfold rowC
 rw [cAs_snoc, List.length_append]
 rfl
theorem jx_ch {l : List (Nat × Nat)} {tl : Tail} {i : Int} {r : Nat} {q : Nat × Nat} (hi : i = r) (h : l[r]? = some q) : indexOp Tryz.prog 201 (.sl l.length (cAs l) tl) (.lit (.int .i64 i)) = some (.eptr (cA q)) := by
 subst hi
 have hr := (List.getElem?_eq_some_iff.1 h).1
 refine (indexOp_sl (elem := 148) (n := 2) (by kernel_rfl) (by kernel_rfl) ⟨by omega, by omega, by rw [cAs_length, Int.toNat_natCast]; omega, by omega⟩).trans ?_
 obtain ⟨_, rfl⟩ := List.getElem?_eq_some_iff.1 h
 have e : l = l.take r ++ l[r] :: l.drop (r + 1) := by rw [← List.drop_eq_getElem_cons hr, List.take_append_drop]
 have e2 : cAs l = cAs (l.take r) ++ (cA l[r] ++ cAs (l.drop (r + 1))) := by
  conv => lhs; rw [e]
  unfold cAs
  rw [List.flatMap_append, List.flatMap_cons]
 rw [Int.toNat_natCast, e2, List.drop_append_of_le_length (by rw [cAs_length, List.length_take]; omega), List.drop_of_length_le (by rw [cAs_length, List.length_take]; omega)]
 rfl
theorem app_ch {g : Nat → Option Blk} {n id gen : Nat} {l : List (Nat × Nat)} {q : Nat × Nat} (h2 : l.length < 2097152) (hg : g id = some (.row gen)) :
  appT Tryz.prog false g n 201 201 (.sl l.length (cAs l) (.own id gen 2)) (.sl 1 (cA q) .full) = some (.sl (l.length + 1) (cAs l ++ cA q) (.own id (gen + 1) 2), .set id (.row (gen + 1))) :=
 appT_own (e := 148) (bytes := 16) (z := .agg #[.int .i64 0, .int .i64 0]) (by kernel_rfl) (by kernel_rfl) (by kernel_rfl) (by kernel_rfl) (by kernel_rfl) rfl (by omega) (by rw [cAs_length]) (by omega) hg rfl
def ocA (o : Option (Nat × Nat)) : List AV := cA (o.getD (0, 0))
theorem bstS_none {l : List (Nat × Nat)} : bstL l = none ↔ l = [] := by
 rcases List.eq_nil_or_concat l with rfl | ⟨k, q, rfl⟩
 ·exact ⟨fun _ => rfl, fun _ => rfl⟩
 ·rw [List.concat_eq_append, bstL_snoc]
  refine ⟨fun h => ?_, fun h => by simp at h⟩
  unfold bstS at h
  split at h
  ·cases h
  ·split at h <;> cases h
set_option maxRecDepth 100000 in
theorem c_lessC (p q : Nat × Nat) (H : List Blk) : ACall Tryz.prog 170 [.agg (cA p), .agg (cA q)] H (.ret (.lit (.bool (decide (p.2 < q.2))))) H := by
 refine fn_rule (m := false) (fn := Tryz.f170) (c := (Tryz.f170.body).getD .skip) mixed (by kernel_rfl) (by kernel_rfl) (of_decide_eq_true (by kernel_rfl)) ?_ ?_ ?_ H
 ·exact ⟨⟨trivial, trivial, trivial⟩, ⟨trivial, trivial, trivial⟩, trivial⟩
 ·trivial
 ·refine If.mk (fun h => ?_) (fun h => ?_)
  ·exact ⟨.inl rfl, FinG.yes rfl rfl (Int.ofNat_lt.1 h)⟩
  ·exact ⟨.inl rfl, FinG.no rfl rfl fun h2 => h (Int.ofNat_lt.2 h2)⟩
set_option maxRecDepth 100000 in
theorem c_bestC (l : List (Nat × Nat)) (hl : l.length ≤ 1000000) (H : List Blk) : ACall Tryz.prog 169 [eChs l, .lit (.func (.func 170) #[] #[])] H (.ret (.tup [.agg (ocA (bstL l)), nb (bstL l).isSome])) H := by
 refine fn_rule (m := false) (fn := Tryz.f169) (c := (Tryz.f169.body).getD .skip) mixed (by kernel_rfl) (by kernel_rfl) (of_decide_eq_true (by kernel_rfl)) ?_ ?_ ?_ H
 ·exact ⟨under_eChs 0 _, trivial, trivial⟩
 ·exact ⟨⟨trivial, trivial, trivial⟩, trivial, trivial⟩
 ·refine LoopG.at (n0 := 2) rfl (loop_up mixed (m := false) (fun r => [(0, eChs l), (1, .lit (.func (.func 170) #[] #[])), (4, .ptr 0 0), (5, .lit (.bool false)), (6, .ptr 1 0), (9, eChs l), (10, n' (l.length : Nat)), (11, n' r)]) (fun r => [(0, .box (cA (0, 0)) 148), (1, .box (ocA (bstL (l.take r))) 148)]) (fun _ => True) l.length 1 (leb rfl) trivial ?_ ?_ ?_)
  ·exact ⟨⟨_, rfl, Weak.refl _ _, under_eChs _ _⟩, wp rfl trivial, wp rfl (ltb rfl), wp rfl trivial, wp rfl (ltb rfl), ⟨_, rfl, Weak.refl _ _, under_eChs _ _⟩, wp rfl trivial, wp rfl trivial, trivial⟩
  ·exact ⟨bk rfl rfl, bk rfl rfl, trivial⟩
  ·intro r hr _
   have hw0 : bstL (l.take r) = none ↔ l.take r = [] := bstS_none
   generalize hw : bstL (l.take r) = w at hw0 ⊢
   refine If.mk (fun h1 => ?_) (fun h1 => ?_)
   ·refine ifY ?_
    obtain ⟨q, hq, htk, _⟩ := at_some (l := l) (r := r) (by omega)
    have hS : bstL (l.take (r + 1)) = bstS w q := by rw [htk, bstL_snoc, hw]
    refine Ex.mk _ (jx_ch (r := r) rfl hq) ?_
    refine Ex.mk _ rfl ?_
    cases w with
    | none =>
     have hr0 : r = 0 := by
      have := congrArg List.length (hw0.1 rfl)
      rw [List.length_take, List.length_nil] at this
      omega
     refine If.mk (fun _ => ?_) (fun h => absurd (by omega) h)
     refine ifY ?_
     refine Side.mk (fits64 (by omega)) ?_
     refine ⟨leb rfl, rfl, by omega, trivial, ⟨⟨_, rfl, Weak.refl _ _, under_eChs _ _⟩, wp rfl trivial, wp rfl (ltb rfl), wp rfl trivial, wp rfl (ltb rfl), ⟨_, rfl, Weak.refl _ _, under_eChs _ _⟩, wp rfl trivial, wp rfl trivial, trivial⟩, ⟨bk rfl rfl, ⟨?_, ltb rfl⟩, trivial⟩, ⟨_, rfl, trivial, trivial, trivial⟩, trivial⟩
     rw [hS]
     rfl
    | some b =>
     have hr0 : r ≠ 0 := by
      rintro rfl
      cases (hw0.2 rfl)
     refine If.mk (fun h => absurd h (by omega)) (fun _ => ?_)
     refine CallG.bool (c_lessC _ _) (fun h3 => ?_) (fun h3 => ?_)
     ·refine ifY ?_
      refine Side.mk (fits64 (by omega)) ?_
      refine ⟨leb rfl, rfl, by omega, trivial, ⟨⟨_, rfl, Weak.refl _ _, under_eChs _ _⟩, wp rfl trivial, wp rfl (ltb rfl), wp rfl trivial, wp rfl (ltb rfl), ⟨_, rfl, Weak.refl _ _, under_eChs _ _⟩, wp rfl trivial, wp rfl trivial, trivial⟩, ⟨bk rfl rfl, ⟨?_, ltb rfl⟩, trivial⟩, ⟨_, rfl, trivial, trivial, trivial⟩, trivial⟩
      have e : bstS (some b) q = some q := if_pos h3
      rw [hS, e]
      rfl
     ·refine ifN ?_
      refine Side.mk (fits64 (by omega)) ?_
      refine ⟨leb rfl, rfl, by omega, trivial, ⟨⟨_, rfl, Weak.refl _ _, under_eChs _ _⟩, wp rfl trivial, wp rfl (ltb rfl), wp rfl trivial, wp rfl (ltb rfl), ⟨_, rfl, Weak.refl _ _, under_eChs _ _⟩, wp rfl trivial, wp rfl trivial, trivial⟩, ⟨bk rfl rfl, ⟨?_, ltb rfl⟩, trivial⟩, trivial⟩
      have e : bstS (some b) q = some b := if_neg h3
      rw [hS, e]
      rfl
   ·refine ifN ?_
    obtain rfl : r = l.length := by omega
    rw [List.take_length] at hw
    have hn : w = none ↔ l = [] := by rw [← hw]; exact bstS_none
    refine ⟨leb rfl, ?_⟩
    rw [hw]
    cases w with
    | none =>
     obtain rfl := hn.1 rfl
     refine If.mk (fun h => absurd h (by decide)) (fun _ => ?_)
     exact ⟨.inl rfl, FinG.mk _ rfl rfl rfl⟩
    | some b =>
     have : l ≠ [] := fun h => by cases hn.2 h
     have hp := List.length_pos_iff.2 this
     refine If.mk (fun _ => ?_) (fun h => absurd (by omega) h)
     exact ⟨.inl rfl, FinG.mk _ rfl rfl rfl⟩
theorem needC_snoc {N : P4 → Option Nat} {y : P4} : ∀ {l : List P4} {acc : Nat}, needC N (l ++ [y]) acc = match needC N l acc with
  | none => none
  | some k => match N y with
   | none => none
   | some n => some (max k (n + 1))
 | [], acc => by
  show (match N y with | none => none | some n => needC N [] (max acc (n + 1))) = _
  cases N y <;> rfl
 | x :: l, acc => by
  show (match N x with | none => none | some n => needC N (l ++ [y]) (max acc (n + 1))) = _
  have e : needC N (x :: l) acc = (match N x with | none => none | some n => needC N l (max acc (n + 1))) := rfl
  rw [e]
  cases N x with
  | none => rfl
  | some n => exact needC_snoc (l := l)
theorem needC_stop {N : P4 → Option Nat} {y : P4} {l : List P4} (h : y ∈ l) (hN : N y = none) : needC N l 0 = none := needC_none.2 ⟨y, h, hN⟩
theorem max_s (k n : Nat) : AV.lit (.int .i64 (if ((n : Nat) : Int) + 1 > ((k : Nat) : Int) then ((n : Nat) : Int) + 1 else ((k : Nat) : Int))) = n' ((max k (n + 1) : Nat) : Int) := by
 refine congrArg n' ?_
 split <;> omega
theorem wk_mp {id : Nat} (H : List Blk) : WeakH H (.mp id) .mpx := fun _ _ _ _ h => by
 simp only [VRel] at h ⊢
 obtain ⟨b, wm, _, _, hc⟩ := h
 exact ⟨b, hc⟩
theorem wk_gC (b : Book) (H : List Blk) : WeakH H (.agg (gC b)) (.agg (gX b)) := wk_agg (.cons (fun H => WeakH.refl _ H) (.cons (fun H => WeakH.refl _ H) (.cons (fun H => WeakH.refl _ H) (.cons wk_mp (.cons wk_mp .nil)))))
noncomputable def gcT (b : Book) (now : Evening) (st : P4) (cl : Sta → Nat) (N : List (P4 × Nat)) (p : P4) (m : Nat) : List (Nat × Blk) :=
 gL b now st cl N ++ [(11, .box (gC b) 145), (12, .box (pA p) 130), (13, .box (cA (0, 0)) 148), (14, .row m)]
set_option maxHeartbeats 16000000 in
set_option maxRecDepth 100000 in
theorem c_gCue {b : Book} (hB : BOk b) {now : Evening} {st : P4} {cl : Sta → Nat} {N : List (P4 × Nat)} (hN : ∀ y n, lookP N y = some n → n ≤ 1000) {p : P4} (hp : P4Ok b.vs p) (H2 : List Blk) :
  ACall Tryz.prog 119 [.agg (gC b), .agg (pA p)] (gH b now st cl N ++ H2) (.ret (.tup [.agg (ocA (bestC (lookP N) (succ4 b.vs b.tunes.toNat) p b.cues.toNat)), nb (bestC (lookP N) (succ4 b.vs b.tunes.toNat) p b.cues.toNat).isSome])) (gH b now st cl N ++ H2) := by
 have G := hB.game
 have hs : Small b.vs := G.hs
 have hbc := hB.1.1
 have htu := hB.1.2.1
 unfold inI at hbc htu
 refine fn_pre (m := false) (fn := Tryz.f119) (c := (Tryz.f119.body).getD .skip) (t0 := ofL (gL b now st cl N)) (n0 := 11) mixed (by kernel_rfl) (by kernel_rfl) (of_decide_eq_true (by kernel_rfl)) (HT.full (l := gL b now st cl N) ⟨rfl, rfl, rfl, rfl, rfl, rfl, rfl, rfl, rfl, rfl, rfl, trivial⟩ rfl) ?_ (gH_under _ _ _ _ _) rfl ?_ H2
 ·exact ⟨under_gC (ltb rfl) _, under_pA 11 _, trivial⟩
 ·refine LoopG.ghost (LoopG.at (n0 := 15) rfl ?_)
  have hchl : ∀ c, (chs (lookP N) (succ4 b.vs b.tunes.toNat) p c).length ≤ c := fun c => by
   unfold chs
   refine Nat.le_trans (List.length_filterMap_le _ _) ?_
   rw [List.length_range]
   exact Nat.le_refl _
  refine loop_up mixed (m := false) (fun c => [(2, .ptr 11 0), (3, .ptr 12 0), (4, .ptr 13 0), (6, rowC (chs (lookP N) (succ4 b.vs b.tunes.toNat) p c) 14), (15, n' b.cues), (16, n' c)]) (fun c => gcT b now st cl N p (chs (lookP N) (succ4 b.vs b.tunes.toNat) p c).length) (fun _ => True) b.cues.toNat 14 (leb rfl) trivial ?_ ?_ ?_
  ·exact ⟨wp rfl (ltb rfl), wp rfl (ltb rfl), wp rfl (ltb rfl), ⟨_, rfl, Weak.own (r := 14) (g := 0) 2 rfl, ⟨trivial, ltb rfl⟩⟩, wp rfl trivial, wp rfl trivial, trivial⟩
  ·exact ⟨bk rfl rfl, bk rfl rfl, bk rfl rfl, bk rfl rfl, bk rfl rfl, bk rfl rfl, bk rfl rfl, bk rfl rfl, bk rfl rfl, bk rfl rfl, bk rfl rfl, bk rfl rfl, bk rfl rfl, bk rfl rfl, bk rfl rfl, trivial⟩
  ·intro c hc _
   have hcs := chs_succ (lookP N) (succ4 b.vs b.tunes.toNat) p c
   have hcl := hchl c
   generalize hL : chs (lookP N) (succ4 b.vs b.tunes.toNat) p c = L at *
   refine If.mk (fun h1 => ?_) (fun h1 => ?_)
   ·refine ifY ?_
    have hc' : c < b.cues.toNat := by omega
    refine CallG.weak _ (.cons (wk_gC b) (.cons (fun H => WeakH.refl _ H) (.cons (fun H => WeakH.refl _ H) .nil))) (c_splits4 hB hp hc') ?_
    have hlo : ∀ y ∈ succ4 b.vs b.tunes.toNat p c, P4Ok b.vs y := fun y hy => G.succ_ok hp hc' hy
    have hll : (succ4 b.vs b.tunes.toNat p c).length ≤ 6 := by
     have := sucR_length b.vs p c b.tunes.toNat
     have e : sucR b.vs p c b.tunes.toNat = succ4 b.vs b.tunes.toNat p c := rfl
     rw [e] at this
     omega
    generalize succ4 b.vs b.tunes.toNat p c = l at *
    refine LoopG.at (n0 := 16) rfl (loop_r mixed (m := false) (α := { s : Nat × Nat // s.1 ≤ l.length ∧ needC (lookP N) (l.take s.1) 0 = some s.2 ∧ s.2 ≤ 1001 }) (fun a => [(2, .ptr 11 0), (3, .ptr 12 0), (4, .ptr 13 0), (6, rowC L 14), (7, n' c), (8, .ptr 15 0), (15, n' b.cues), (16, n' c), (24, eP4s l), (25, n' (l.length : Nat)), (26, n' (a.1.1 : Nat))]) (fun a => gcT b now st cl N p L.length ++ [(15, .box (cA (c, a.1.2)) 148)]) (fun a => l.length - a.1.1) 14 ⟨(0, 0), Nat.zero_le _, rfl, Nat.zero_le _⟩ (leb rfl) ?_ ?_ ?_)
    ·exact ⟨wp rfl (ltb rfl), wp rfl (ltb rfl), wp rfl (ltb rfl), ⟨_, rfl, Weak.refl _ _, under_rowC _ (ltb rfl) _⟩, wp rfl trivial, wp rfl (ltb rfl), wp rfl trivial, wp rfl trivial, ⟨_, rfl, Weak.refl _ _, under_eP4s _ _⟩, wp rfl trivial, wp rfl trivial, trivial⟩
    ·exact ⟨bk rfl rfl, bk rfl rfl, bk rfl rfl, bk rfl rfl, bk rfl rfl, bk rfl rfl, bk rfl rfl, bk rfl rfl, bk rfl rfl, bk rfl rfl, bk rfl rfl, bk rfl rfl, bk rfl rfl, bk rfl rfl, bk rfl rfl, bk rfl rfl, trivial⟩
    ·rintro ⟨⟨r, k⟩, hr, hk, hk1⟩
     have hr : r ≤ l.length := hr
     have hk : needC (lookP N) (l.take r) 0 = some k := hk
     have hk1 : k ≤ 1001 := hk1
     refine If.mk (fun h2 => ?_) (fun h2 => ?_)
     ·refine ifY ?_
      have h2 : (r : Int) < (l.length : Nat) := h2
      obtain ⟨y, hy, htk, hym⟩ := at_some (l := l) (r := r) (by omega)
      have hyo := hlo y hym
      have hS : PosS (y, noM) := PosK.posS hs hyo
      have hkey : ∀ x ∈ kP y, -1 ≤ x ∧ x ≤ 1000 := fun x hx => by
       obtain ⟨a1, a2, a3, a4⟩ := hS
       unfold kP at hx
       simp only [List.mem_cons, List.mem_nil_iff, or_false] at hx
       rcases hx with rfl | rfl | rfl | rfl | rfl
       ·exact a1
       ·exact a2
       ·exact a3
       ·exact a4
       ·omega
      have hlk := eP_look y N
      refine Ex.mk _ (jx_p4 (r := r) rfl hy) ?_
      refine Ex.mk _ rfl ?_
      cases hNy : lookP N y with
      | none =>
       rw [hNy] at hlk
       simp only [Option.map_none] at hlk
       refine Ex.mk _ (aop_lookN2 (kt := 130) (et := 3) (key := kP y) rfl rfl rfl rfl (by kernel_rfl) (by kernel_rfl) rfl hkey hlk) ?_
       refine ifY ?_
       have hst := needC_stop (N := lookP N) hym hNy
       rw [hst] at hcs
       simp only at hcs
       refine ⟨leb rfl, ?_⟩
       refine Side.mk (fits64 (by omega)) ?_
       refine ⟨leb rfl, rfl, by omega, trivial, ⟨wp rfl (ltb rfl), wp rfl (ltb rfl), wp rfl (ltb rfl), ⟨_, rfl, Weak.of_eq (?_), under_rowC _ (ltb rfl) _⟩, wp rfl trivial, wp rfl trivial, trivial⟩, ⟨bk rfl rfl, bk rfl rfl, bk rfl rfl, bk rfl rfl, bk rfl rfl, bk rfl rfl, bk rfl rfl, bk rfl rfl, bk rfl rfl, bk rfl rfl, bk rfl rfl, bk rfl rfl, bk rfl rfl, bk rfl rfl, ⟨?_, ltb rfl⟩, trivial⟩, ⟨⟨_, rfl, trivial⟩, trivial⟩⟩
       ·exact congrArg (fun M => rowC M 14) hcs.symm
       ·exact congrArg (fun M : List (Nat × Nat) => some (Blk.row M.length)) hcs.symm
      | some n =>
       rw [hNy] at hlk
       simp only [Option.map_some] at hlk
       have hn := hN y n hNy
       refine Ex.mk _ (aop_lookK2 (kt := 130) (et := 3) (key := kP y) rfl rfl rfl rfl (by kernel_rfl) (by kernel_rfl) rfl hkey hlk) ?_
       refine ifN ?_
       refine Side.mk (fits64 (by omega)) ?_
       refine Ex.mk _ rfl ?_
       refine Side.mk (fits64 (by omega)) ?_
       have hnk : needC (lookP N) (l.take (r + 1)) 0 = some (max k (n + 1)) := by rw [htk, needC_snoc, hk, hNy]
       refine ⟨leb rfl, rfl, ⟨(r + 1, max k (n + 1)), (by show r + 1 ≤ l.length; omega), hnk, (by show max k (n + 1) ≤ 1001; omega)⟩, (by show l.length - (r + 1) < l.length - r; omega), ⟨wp rfl (ltb rfl), wp rfl (ltb rfl), wp rfl (ltb rfl), ⟨_, rfl, Weak.refl _ _, under_rowC _ (ltb rfl) _⟩, wp rfl trivial, wp rfl (ltb rfl), wp rfl trivial, wp rfl trivial, ⟨_, rfl, Weak.refl _ _, under_eP4s _ _⟩, wp rfl trivial, wp rfl trivial, trivial⟩, ⟨bk rfl rfl, bk rfl rfl, bk rfl rfl, bk rfl rfl, bk rfl rfl, bk rfl rfl, bk rfl rfl, bk rfl rfl, bk rfl rfl, bk rfl rfl, bk rfl rfl, bk rfl rfl, bk rfl rfl, bk rfl rfl, bk rfl rfl, ⟨?_, ltb rfl⟩, trivial⟩, ⟨⟨_, rfl, trivial, trivial, trivial⟩, trivial⟩⟩
       exact congrArg (fun a => some (Blk.box [n' ((c : Nat) : Int), a] 148)) (max_s k n)
     ·refine ifN ?_
      have h2 : ¬ (r : Int) < (l.length : Nat) := h2
      obtain rfl : r = l.length := by omega
      rw [List.take_length] at hk
      rw [hk] at hcs
      refine ⟨leb rfl, ?_⟩
      refine ex_app _ _ (app_ch (q := (c, k)) (by omega) rfl) ?_
      refine Side.mk (fits64 (by omega)) ?_
      simp only at hcs
      refine ⟨leb rfl, rfl, by omega, trivial, ⟨wp rfl (ltb rfl), wp rfl (ltb rfl), wp rfl (ltb rfl), ⟨_, rfl, Weak.of_eq (?_), under_rowC _ (ltb rfl) _⟩, wp rfl trivial, wp rfl trivial, trivial⟩, ⟨bk rfl rfl, bk rfl rfl, bk rfl rfl, bk rfl rfl, bk rfl rfl, bk rfl rfl, bk rfl rfl, bk rfl rfl, bk rfl rfl, bk rfl rfl, bk rfl rfl, bk rfl rfl, bk rfl rfl, bk rfl rfl, ⟨?_, ltb rfl⟩, trivial⟩, ⟨⟨_, rfl, trivial⟩, trivial⟩⟩
      ·show _ = rowC (chs (lookP N) (succ4 b.vs b.tunes.toNat) p (c + 1)) 14
       rw [hcs, rowC_snoc]
      ·show _ = some (Blk.row (chs (lookP N) (succ4 b.vs b.tunes.toNat) p (c + 1)).length)
       rw [hcs, List.length_append]
       rfl
   ·refine ifN ?_
    obtain rfl : c = b.cues.toNat := by omega
    refine ⟨leb rfl, ?_⟩
    have hbst := bstL_chs (lookP N) (succ4 b.vs b.tunes.toNat) p b.cues.toNat
    rw [hL] at hbst
    rw [← hbst]
    refine CallG.weak _ (.cons (fun H => WeakH.tail _ _ _ H) (.cons (fun H => WeakH.refl _ H) (.nil))) (c_bestC L (by omega)) ?_
    exact ⟨.inl rfl, leb rfl, FinF.mk _ rfl rfl rfl⟩
end Go.Vm

namespace Go.Vm
open Go.Proofs
theorem WR.copy {ro : Option Nat} {vars : Trie AV} {t : Trie Blk} {n lo lo' : Nat} {d : List Nat} {Q : CodeQ} {gb id1 id2 : Nat} {gcells : List AV} {gt : TypeId} {es m2 : List (Value × AV)} (h8 : get vars 8 = some (.mp id1)) (h2 : get vars 2 = some (.ptr gb 0)) (hg : get t gb = some (.box gcells gt))
  (hgc : (gcells.drop 4).head? = some (.mp id2)) (h1 : get t id1 = some (.map (.arr 5) es)) (hm2 : get t id2 = some (.map (.arr 5) m2)) (hne : id1 ≠ id2) (hl1 : lo' ≤ lo) (hl2 : lo' ≤ id2) (hQ : Q .normal ⟨dropAll vars copySlots, set t id2 (.map (.arr 5) (copyTo m2 es)), n, d⟩ lo') :
  WR Tryz.prog ro (copyCode oA oB oC oD) 72 vars t n d lo Q := fun H H0 hH hk =>
 ⟨.normal, _, lo', H.set id2 (.map (.arr 5) (copyTo m2 es)), hH.set (hH.lt hm2) _, hk.trans (Keep.set (hH.blk _ _ hm2) (by simp)) hl1 hl2, copy_run copyOps h8 h2 (hH.blk _ _ hg) hgc (hH.blk _ _ h1) (hH.blk _ _ hm2) hne, hQ⟩
theorem fn_keepW {P : Program} {f : FuncId} {fn : Func} {c : Code} {args : List AV} {v : AV} {L : List (Nat × Blk)} {p : Nat} (Pr : List (Nat × Blk) → Prop) (hf : P.funcs[f]? = some fn) (hb : fn.body = some c) (hn : args.length ≤ fn.ntmps)
  (hv : v.flat = true) (hL : Numd 0 L) (hp1 : L.length = p)
  (h : WR P none c fn.ntmps (initVars 0 args) (ofL L) p [] noLo fun x e _ => (x = .ret ∨ x = .normal) ∧ ∃ L', Pr L' ∧ Numd 0 L' ∧ L'.length = p ∧ (∀ q ∈ L', q.2.under p) ∧ Blks (get e.t) noLo L' ∧ FinF P fn.results.toList e v) : ∃ L', Pr L' ∧ ACall P f args (hp L) (.ret v) (hp L') := by
 obtain ⟨x, e, lo, H', hH', hk', hrun, hx, L', hP, hL', hp2, hu', hB, vs, hres, hd, hfr⟩ := h _ _ (HT.full hL hp1) (Keep.refl _ _)
 have hcr : ACall P f args (hp L) (.ret (resV vs)) H' := by
  rw [hd] at hrun
  exact ACall.intro_marks hf hb hn hrun hx List.nodup_nil (resT_sound hH' hres)
 subst hfr
 refine ⟨L', hP, ?_⟩
 have e1 : (hp L).length = L'.length := by simp [hp1, hp2]
 have e2 : H'.take (hp L).length = hp L' := by
  rw [e1]
  exact take_full hL' fun q hq => hH'.blk _ _ (hB.mem q hq).1
 have h3 := hcr.cut (AV.flat_under _ _ hv) (by
  rw [e2]
  intro B hBm
  obtain ⟨q, hq, rfl⟩ := List.mem_map.1 hBm
  rw [e1, hp2]; exact hu' q hq)
 rw [e2] at h3
 exact h3
theorem val_small {vs : List Vers} {K T : Nat} {st : P4} {U : List P4} (G : GameOk vs K T) (hU : AllU vs K T st U) {N : List (P4 × Nat)} {more : Bool} (h : SolveI vs K T U N more) : ∀ y n, lookP N y = some n → n ≤ 1000 := fun y n hy => by
 obtain ⟨⟨r, hr⟩, _, hsub, _⟩ := h
 have hyU : y ∈ U := by
  apply Classical.byContradiction
  intro hno
  have : lookP N y = none := lookP_none.2 fun q hq e => hno (by rw [← e]; exact hsub q hq)
  rw [this] at hy
  cases hy
 have hV := ((hr y hyU n).1 hy).1
 have := win_bound hU.closed hyU hV
 have hf := p4_few (vs := vs) G.hs hU.nodup hU.ok
 omega
theorem c_gSettled4 {b : Book} {now : Evening} {st p : P4} {cl : Sta → Nat} {N : List (P4 × Nat)} (hp : P4Ok b.vs p) (H2 : List Blk) : ACall Tryz.prog 117 [.agg (gC b), .agg (pA p)] (gH b now st cl N ++ H2) (.ret (nb (doneK cl (p, noM)))) (gH b now st cl N ++ H2) := by
 obtain ⟨p0, p1, p2, p3⟩ := p
 obtain ⟨h0, h1, h2, h3⟩ := hp
 exact c_gSettled h0 h1 h2 h3 H2
theorem key_p4 {vs : List Vers} (hs : Small vs) {y : P4} (hy : P4Ok vs y) : ∀ x ∈ kP y, -1 ≤ x ∧ x ≤ 1000 := fun x hx => by
 have hS : PosS (y, noM) := PosK.posS hs hy
 obtain ⟨a1, a2, a3, a4⟩ := hS
 unfold kP at hx
 simp only [List.mem_cons, List.mem_nil_iff, or_false] at hx
 rcases hx with rfl | rfl | rfl | rfl | rfl
 ·exact a1
 ·exact a2
 ·exact a3
 ·exact a4
 ·omega
noncomputable def gvT (b : Book) (now : Evening) (st : P4) (cl : Sta → Nat) (N : List (P4 × Nat)) : List (Nat × Blk) := gL b now st cl N ++ [(11, .box (gC b) 145), (12, .box (pA st) 130)]
theorem gL_under (b : Book) (now : Evening) (st : P4) (cl : Sta → Nat) (N : List (P4 × Nat)) : ∀ q ∈ gL b now st cl N, q.2.under 11 := fun q hq => gH_under b now st cl N q.2 (List.mem_map.2 ⟨q, hq, rfl⟩ : q.2 ∈ (gL b now st cl N).map (·.2))
set_option maxHeartbeats 16000000 in
set_option maxRecDepth 100000 in
theorem c_gSolve {b : Book} (hB : BOk b) {now : Evening} {st : P4} {cl : Sta → Nat} (hcl : ∀ p ∈ allP b.vs, ∀ q ∈ allP b.vs, (cl p = cl q ↔ alS b.vs b.cues.toNat p q)) (hst : P4Ok b.vs st) :
  ∃ L', (∃ U N, AllU b.vs b.cues.toNat b.tunes.toNat st U ∧ SolveI b.vs b.cues.toNat b.tunes.toNat U N false ∧ L' = gL b now st cl N) ∧ ACall Tryz.prog 118 [.agg (gC b), .agg (pA st)] (hp (gL b now st cl [])) (.ret (.tup [])) (hp L') := by
 have G := hB.game
 have hs : Small b.vs := G.hs
 have hbc := hB.1.1
 have htu := hB.1.2.1
 unfold inI at hbc htu
 obtain ⟨_, ⟨U, hU, rfl⟩, hrch⟩ := c_reached hB hst
 have hfew := p4_few hs hU.nodup hU.ok
 have hdn : ∀ p : P4, P4Ok b.vs p → (doneK cl (p, noM) = true ↔ base4 b.vs b.cues.toNat p) := fun p hp => doneK_iff hcl hp
 have hbeg := SolveI.begin hU (sb := fun p => doneK cl (p, noM)) fun x hx => hdn x (hU.ok x hx)
 have hmemU : ∀ {r : Nat} {x : P4}, U[r]? = some x → x ∈ U := fun h => List.mem_of_getElem? h
 refine fn_keepW (fn := Tryz.f118) (c := (Tryz.f118.body).getD .skip) _ (by kernel_rfl) (by kernel_rfl) (of_decide_eq_true (by kernel_rfl)) rfl (L := gL b now st cl []) (p := 11) ⟨rfl, rfl, rfl, rfl, rfl, rfl, rfl, rfl, rfl, rfl, rfl, trivial⟩ rfl ?_
 refine WR.seq (WR.of (m := false) mixed ?_)
 refine WR.seq (WR.of (m := false) mixed ?_)
 refine CallG.weak _ (.cons (wk_gC b) (.cons (fun H => WeakH.refl _ H) .nil)) hrch ?_
 refine WR.seq (WR.of (m := false) mixed ?_)
 refine LoopG.at (n0 := 13) rfl (loop_up mixed (m := false) (fun r => [(2, .ptr 11 0), (3, .ptr 12 0), (4, eP4s U), (20, eP4s U), (21, n' (U.length : Nat)), (22, n' r)]) (fun r => gvT b now st cl (iniE (fun p => doneK cl (p, noM)) U r)) (fun _ => True) U.length 6 (leb rfl) trivial ?_ ?_ ?_)
 ·exact ⟨wp rfl (ltb rfl), wp rfl (ltb rfl), ⟨_, rfl, Weak.refl _ _, under_eP4s _ _⟩, ⟨_, rfl, Weak.refl _ _, under_eP4s _ _⟩, wp rfl trivial, wp rfl trivial, trivial⟩
 ·exact ⟨bk rfl rfl, bk rfl rfl, bk rfl rfl, bk rfl rfl, bk rfl rfl, bk rfl rfl, bk rfl rfl, bk rfl rfl, bk rfl rfl, bk rfl rfl, bk rfl rfl, bk rfl rfl, bk rfl rfl, trivial⟩
 ·intro r hr _
  refine If.mk (fun h1 => ?_) (fun h1 => ?_)
  ·refine ifY ?_
   obtain ⟨x, hx, _, hxm⟩ := at_some (l := U) (r := r) (by omega)
   have hxo := hU.ok x hxm
   have hkey := key_p4 hs hxo
   have hsnoc := iniE_snoc (sb := fun p => doneK cl (p, noM)) hx
   have hnew := iniE_new (sb := fun p => doneK cl (p, noM)) hU.nodup hx
   generalize iniE (fun p => doneK cl (p, noM)) U r = N at *
   refine Ex.mk _ (jx_p4 (r := r) rfl hx) ?_
   refine Ex.mk _ rfl ?_
   refine CallG.at (nb (doneK cl (x, noM))) (fun H hH => ?_) ?_
   ·obtain ⟨H2, rfl⟩ := hH.firstG (b := b) (now := now) (st := st) (cl := cl) (N := N) ⟨bk rfl rfl, bk rfl rfl, bk rfl rfl, bk rfl rfl, bk rfl rfl, bk rfl rfl, bk rfl rfl, bk rfl rfl, bk rfl rfl, bk rfl rfl, bk rfl rfl, trivial⟩
    exact c_gSettled4 hxo H2
   refine IfB.mk (fun hd => ?_) (fun hd => ?_)
   ·have e3 : iniE (fun p => doneK cl (p, noM)) U (r + 1) = N ++ [(x, 0)] := by rw [hsnoc]; exact if_pos hd
    refine Ex.mk _ ((aop_setK (kt := 130) (et := 3) (key := kP x) (es := eP N) (v := ((0 : Nat) : Int)) rfl rfl rfl rfl rfl (by kernel_rfl) rfl hkey (eP_new hnew)).trans (congrArg (fun B => some (DR.val (.lit undef) (Dl.set 6 B))) (show Blk.map (.arr 5) (kE (eP N ++ [(kP x, ((0 : Nat) : Int))])) = needB (N ++ [(x, 0)]) by unfold needB; rw [eP_snoc]))) ?_
    refine Side.mk (fits64 (by omega)) ?_
    refine ⟨leb rfl, rfl, by omega, trivial, ⟨wp rfl (ltb rfl), wp rfl (ltb rfl), ⟨_, rfl, Weak.refl _ _, under_eP4s _ _⟩, ⟨_, rfl, Weak.refl _ _, under_eP4s _ _⟩, wp rfl trivial, wp rfl trivial, trivial⟩, ⟨bk rfl rfl, bk rfl rfl, bk rfl rfl, bk rfl rfl, bk rfl rfl, bk rfl rfl, ⟨congrArg (fun M => some (needB M)) e3.symm, ltb rfl⟩, bk rfl rfl, bk rfl rfl, bk rfl rfl, bk rfl rfl, bk rfl rfl, bk rfl rfl, trivial⟩, ?_⟩
    exact ⟨⟨_, rfl, under_kE _⟩, ⟨_, rfl, trivial⟩, ⟨_, rfl, under_gC (by decide) _⟩, ⟨_, rfl, trivial⟩, ⟨_, rfl, under_kE _⟩, ⟨_, rfl, under_gC (by decide) _⟩, ⟨_, rfl, under_pA _ _⟩, trivial⟩
   ·have e3 : iniE (fun p => doneK cl (p, noM)) U (r + 1) = N := by rw [hsnoc]; exact if_neg (by simpa using hd)
    refine Side.mk (fits64 (by omega)) ?_
    refine ⟨leb rfl, rfl, by omega, trivial, ⟨wp rfl (ltb rfl), wp rfl (ltb rfl), ⟨_, rfl, Weak.refl _ _, under_eP4s _ _⟩, ⟨_, rfl, Weak.refl _ _, under_eP4s _ _⟩, wp rfl trivial, wp rfl trivial, trivial⟩, ⟨bk rfl rfl, bk rfl rfl, bk rfl rfl, bk rfl rfl, bk rfl rfl, bk rfl rfl, ⟨congrArg (fun M => some (needB M)) e3.symm, ltb rfl⟩, bk rfl rfl, bk rfl rfl, bk rfl rfl, bk rfl rfl, bk rfl rfl, bk rfl rfl, trivial⟩, trivial⟩
  ·refine ifN ?_
   obtain rfl : r = U.length := by omega
   refine ⟨leb rfl, ?_⟩
   refine WR.seq (WR.of (m := false) mixed ?_)
   refine WR.block (WR.loop ?_)
   refine loop_w (α := { s : List (P4 × Nat) × Bool // SolveI b.vs b.cues.toNat b.tunes.toNat U s.1 s.2 }) (fun a => [(2, .ptr 11 0), (3, .ptr 12 0), (4, eP4s U), (7, nb a.1.2)]) (fun a => gvT b now st cl a.1.1) (fun a => 2 * (626 - a.1.1.length) + (if a.1.2 = true then 1 else 0)) 6 ⟨(iniE (fun p => doneK cl (p, noM)) U U.length, true), hbeg⟩ (leb rfl) ?_ ?_ ?_
   ·exact ⟨wp rfl (ltb rfl), wp rfl (ltb rfl), ⟨_, rfl, Weak.refl _ _, under_eP4s _ _⟩, wp rfl trivial, trivial⟩
   ·exact ⟨bk rfl rfl, bk rfl rfl, bk rfl rfl, bk rfl rfl, bk rfl rfl, bk rfl rfl, bk rfl rfl, bk rfl rfl, bk rfl rfl, bk rfl rfl, bk rfl rfl, bk rfl rfl, bk rfl rfl, trivial⟩
   ·rintro ⟨⟨N, more⟩, hI⟩
    have hI : SolveI b.vs b.cues.toNat b.tunes.toNat U N more := hI
    have hNf := hI.few
    have hNs := val_small G hU hI
    refine WR.seq (WR.of (m := false) mixed ?_)
    refine IfB.mk (fun hm => ?_) (fun hm => ?_)
    ·subst hm
     have hst2 := hI.step G hU
     refine WR.block ?_
     refine WR.seq (WR.of (m := false) mixed ?_)
     refine WR.seq (WR.of (m := false) mixed ?_)
     refine WR.seq (WR.of (m := false) mixed ?_)
     refine LoopG.at (n0 := 14) rfl (loop_up mixed (m := false) (fun r => [(2, .ptr 11 0), (3, .ptr 12 0), (4, eP4s U), (7, nb (decide (fndE (succ4 b.vs b.tunes.toNat) b.cues.toNat N U r ≠ []))), (8, .mp 13), (35, eP4s U), (36, n' (U.length : Nat)), (37, n' r)]) (fun r => gvT b now st cl N ++ [(13, needB (fndE (succ4 b.vs b.tunes.toNat) b.cues.toNat N U r))]) (fun _ => True) U.length 13 (leb rfl) trivial ?_ ?_ ?_)
     ·exact ⟨wp rfl (ltb rfl), wp rfl (ltb rfl), ⟨_, rfl, Weak.refl _ _, under_eP4s _ _⟩, wp rfl trivial, wp rfl (ltb rfl), ⟨_, rfl, Weak.refl _ _, under_eP4s _ _⟩, wp rfl trivial, wp rfl trivial, trivial⟩
     ·exact ⟨bk rfl rfl, bk rfl rfl, bk rfl rfl, bk rfl rfl, bk rfl rfl, bk rfl rfl, bk rfl rfl, bk rfl rfl, bk rfl rfl, bk rfl rfl, bk rfl rfl, bk rfl rfl, bk rfl rfl, bk rfl rfl, trivial⟩
     ·intro r hr _
      refine If.mk (fun h1 => ?_) (fun h1 => ?_)
      ·refine ifY ?_
       obtain ⟨x, hx, _, hxm⟩ := at_some (l := U) (r := r) (by omega)
       have hxo := hU.ok x hxm
       have hkey := key_p4 hs hxo
       have hsnoc := fndE_snoc (succ := succ4 b.vs b.tunes.toNat) (K := b.cues.toNat) (N := N) hx
       have hnew := fndE_new (succ := succ4 b.vs b.tunes.toNat) (K := b.cues.toNat) (N := N) hU.nodup hx
       generalize hF : fndE (succ4 b.vs b.tunes.toNat) b.cues.toNat N U r = F at *
       have hlk := eP_look x N
       refine Ex.mk _ (jx_p4 (r := r) rfl hx) ?_
       refine Ex.mk _ rfl ?_
       cases hNx : lookP N x with
       | some n =>
        rw [hNx] at hlk
        simp only [Option.map_some] at hlk
        have e3 : fndE (succ4 b.vs b.tunes.toNat) b.cues.toNat N U (r + 1) = F := by
         rw [hsnoc]
         unfold fndF
         rw [hNx]
        refine Ex.mk _ (aop_lookK2 (kt := 130) (et := 3) (key := kP x) rfl rfl rfl rfl (by kernel_rfl) (by kernel_rfl) rfl hkey hlk) ?_
        refine ifY ?_
        refine Side.mk (fits64 (by omega)) ?_
        refine ⟨leb rfl, rfl, by omega, trivial, ⟨wp rfl (ltb rfl), wp rfl (ltb rfl), ⟨_, rfl, Weak.refl _ _, under_eP4s _ _⟩, ⟨_, rfl, Weak.of_eq (?_), trivial⟩, wp rfl (ltb rfl), ⟨_, rfl, Weak.refl _ _, under_eP4s _ _⟩, wp rfl trivial, wp rfl trivial, trivial⟩, ⟨bk rfl rfl, bk rfl rfl, bk rfl rfl, bk rfl rfl, bk rfl rfl, bk rfl rfl, bk rfl rfl, bk rfl rfl, bk rfl rfl, bk rfl rfl, bk rfl rfl, bk rfl rfl, bk rfl rfl, ⟨congrArg (fun M => some (needB M)) e3.symm, ltb rfl⟩, trivial⟩, ?_⟩
        ·exact congrArg (fun M => nb (decide (M ≠ []))) e3.symm
        ·trivial
       | none =>
        rw [hNx] at hlk
        simp only [Option.map_none] at hlk
        refine Ex.mk _ (aop_lookN2 (kt := 130) (et := 3) (key := kP x) rfl rfl rfl rfl (by kernel_rfl) (by kernel_rfl) rfl hkey hlk) ?_
        refine ifN ?_
        refine CallG.at (.tup [.agg (ocA (bestC (lookP N) (succ4 b.vs b.tunes.toNat) x b.cues.toNat)), nb (bestC (lookP N) (succ4 b.vs b.tunes.toNat) x b.cues.toNat).isSome]) (fun H hH => ?_) ?_
        ·obtain ⟨H2, rfl⟩ := hH.firstG (b := b) (now := now) (st := st) (cl := cl) (N := N) ⟨bk rfl rfl, bk rfl rfl, bk rfl rfl, bk rfl rfl, bk rfl rfl, bk rfl rfl, bk rfl rfl, bk rfl rfl, bk rfl rfl, bk rfl rfl, bk rfl rfl, trivial⟩
         exact c_gCue hB hNs hxo H2
        cases hb : bestC (lookP N) (succ4 b.vs b.tunes.toNat) x b.cues.toNat with
        | none =>
         have e3 : fndE (succ4 b.vs b.tunes.toNat) b.cues.toNat N U (r + 1) = F := by
          rw [hsnoc]
          unfold fndF
          rw [hNx, hb]
          rfl
         refine ifN ?_
         refine Side.mk (fits64 (by omega)) ?_
         refine ⟨leb rfl, rfl, by omega, trivial, ⟨wp rfl (ltb rfl), wp rfl (ltb rfl), ⟨_, rfl, Weak.refl _ _, under_eP4s _ _⟩, ⟨_, rfl, Weak.of_eq (?_), trivial⟩, wp rfl (ltb rfl), ⟨_, rfl, Weak.refl _ _, under_eP4s _ _⟩, wp rfl trivial, wp rfl trivial, trivial⟩, ⟨bk rfl rfl, bk rfl rfl, bk rfl rfl, bk rfl rfl, bk rfl rfl, bk rfl rfl, bk rfl rfl, bk rfl rfl, bk rfl rfl, bk rfl rfl, bk rfl rfl, bk rfl rfl, bk rfl rfl, ⟨congrArg (fun M => some (needB M)) e3.symm, ltb rfl⟩, trivial⟩, ?_⟩
         ·exact congrArg (fun M => nb (decide (M ≠ []))) e3.symm
         ·trivial
        | some q =>
         have e3 : fndE (succ4 b.vs b.tunes.toNat) b.cues.toNat N U (r + 1) = F ++ [(x, q.2)] := by
          rw [hsnoc]
          unfold fndF
          rw [hNx, hb]
          rfl
         refine ifY ?_
         refine Ex.mk _ ((aop_setK (kt := 130) (et := 3) (key := kP x) (es := eP F) (v := ((q.2 : Nat) : Int)) rfl rfl rfl rfl rfl (by kernel_rfl) rfl hkey (eP_new hnew)).trans (congrArg (fun B => some (DR.val (.lit undef) (Dl.set 13 B))) (show Blk.map (.arr 5) (kE (eP F ++ [(kP x, ((q.2 : Nat) : Int))])) = needB (F ++ [(x, q.2)]) by unfold needB; rw [eP_snoc]))) ?_
         refine Side.mk (fits64 (by omega)) ?_
         refine ⟨leb rfl, rfl, by omega, trivial, ⟨wp rfl (ltb rfl), wp rfl (ltb rfl), ⟨_, rfl, Weak.refl _ _, under_eP4s _ _⟩, ⟨_, rfl, Weak.of_eq (?_), trivial⟩, wp rfl (ltb rfl), ⟨_, rfl, Weak.refl _ _, under_eP4s _ _⟩, wp rfl trivial, wp rfl trivial, trivial⟩, ⟨bk rfl rfl, bk rfl rfl, bk rfl rfl, bk rfl rfl, bk rfl rfl, bk rfl rfl, bk rfl rfl, bk rfl rfl, bk rfl rfl, bk rfl rfl, bk rfl rfl, bk rfl rfl, bk rfl rfl, ⟨congrArg (fun M => some (needB M)) e3.symm, ltb rfl⟩, trivial⟩, ?_⟩
         ·show _ = nb (decide (fndE (succ4 b.vs b.tunes.toNat) b.cues.toNat N U (r + 1) ≠ []))
          rw [e3]
          simp [nb]
         ·exact ⟨⟨_, rfl, under_kE _⟩, trivial⟩
      ·refine ifN ?_
       obtain rfl : r = U.length := by omega
       refine ⟨leb rfl, ?_⟩
       have hcopy := copy_new hst2.keys
       refine WR.copy (id1 := 13) (id2 := 6) (gb := 11) (lo' := 6) rfl rfl rfl rfl rfl rfl (by decide) (leb rfl) (leb rfl) ?_
       refine ⟨leb rfl, rfl, ⟨(N ++ fndE (succ4 b.vs b.tunes.toNat) b.cues.toNat N U U.length, decide (fndE (succ4 b.vs b.tunes.toNat) b.cues.toNat N U U.length ≠ [])), hst2⟩, ?_, ⟨wp rfl (ltb rfl), wp rfl (ltb rfl), ⟨_, rfl, Weak.refl _ _, under_eP4s _ _⟩, wp rfl trivial, trivial⟩, ⟨bk rfl rfl, bk rfl rfl, bk rfl rfl, bk rfl rfl, bk rfl rfl, bk rfl rfl, ⟨congrArg (fun es => some (Blk.map (.arr 5) es)) hcopy, ltb rfl⟩, bk rfl rfl, bk rfl rfl, bk rfl rfl, bk rfl rfl, bk rfl rfl, bk rfl rfl, trivial⟩, ?_⟩
       ·have hnf := hst2.few
        rw [List.length_append] at hnf
        show 2 * (626 - (N ++ fndE (succ4 b.vs b.tunes.toNat) b.cues.toNat N U U.length).length) + (if decide (fndE (succ4 b.vs b.tunes.toNat) b.cues.toNat N U U.length ≠ []) = true then 1 else 0) < 2 * (626 - N.length) + 1
        rw [List.length_append]
        cases hF : fndE (succ4 b.vs b.tunes.toNat) b.cues.toNat N U U.length with
        | nil => simp
        | cons a R =>
         rw [hF] at hnf
         rw [List.length_cons] at hnf ⊢
         simp
         omega
       ·have hu : (Blk.map (.arr 5) (copyTo (kE (eP N)) (kE (eP (fndE (succ4 b.vs b.tunes.toNat) b.cues.toNat N U U.length))))).under 13 := by
         rw [hcopy]
         exact under_kE _
        have hg : (Blk.box (gC b) 145).under 13 := under_gC (by decide) _
        exact ⟨⟨_, rfl, hu⟩, ⟨_, rfl, trivial⟩, ⟨_, rfl, hg⟩, ⟨_, rfl, trivial⟩, ⟨_, rfl, under_kE _⟩, ⟨_, rfl, hg⟩, ⟨_, rfl, under_pA _ _⟩, trivial⟩
    ·subst hm
     exact ⟨leb rfl, .inr rfl, gL b now st cl N, ⟨U, N, hU, hI, rfl⟩, ⟨rfl, rfl, rfl, rfl, rfl, rfl, rfl, rfl, rfl, rfl, rfl, trivial⟩, rfl, (fun q hq => gL_under _ _ _ _ _ q hq), ⟨bk rfl rfl, bk rfl rfl, bk rfl rfl, bk rfl rfl, bk rfl rfl, bk rfl rfl, bk rfl rfl, bk rfl rfl, bk rfl rfl, bk rfl rfl, bk rfl rfl, trivial⟩, FinF.mk _ rfl rfl rfl⟩
end Go.Vm

namespace Go.Vm
open Go.Proofs
def askP : Option (Option (Nat × Nat)) → AV
 | some none => .tup [n' (-1), n' 0, n' 0]
 | some (some (c, n)) => .tup [n' c, n' n, n' 0]
 | none => .tup [n' 0, n' 0, n' 5]
theorem under_askP (n : Nat) (o : Option (Option (Nat × Nat))) : (askP o).under n := by
 rcases o with _ | _ | ⟨_, _⟩
 ·exact ⟨trivial, trivial, trivial, trivial⟩
 ·exact ⟨trivial, trivial, trivial, trivial⟩
 ·exact ⟨trivial, trivial, trivial, trivial⟩
def sqI (vs : List Vers) (L : List Int) (l : List Nat) (i n : Nat) : Int := if (n : Int) ∈ L.take i then ((after (vAt vs n) 0 (cuesI l) : Nat) : Int) else bgI L n
theorem sq_succ {vs : List Vers} {L : List Int} {l : List Nat} {i : Nat} {j : Int} (hj : L[i]? = some j) (n : Nat) : sqI vs L l (i + 1) n = if (n : Int) = j then ((after (vAt vs n) 0 (cuesI l) : Nat) : Int) else sqI vs L l i n := by
 unfold sqI
 rw [show L.take (i + 1) = L.take i ++ [j] by rw [List.take_add_one, hj]; rfl]
 by_cases h : (n : Int) = j
 ·rw [if_pos h, if_pos (by simp [h])]
 ·rw [if_neg h]
  by_cases h2 : (n : Int) ∈ L.take i
  ·rw [if_pos h2, if_pos (by simp [h2])]
  ·rw [if_neg h2, if_neg (by simp [h2, h])]
def sqB (vs : List Vers) (L : List Int) (l : List Nat) (i : Nat) : Blk := .box [n' (sqI vs L l i 0), n' (sqI vs L l i 1), n' (sqI vs L l i 2), n' (sqI vs L l i 3), n' 0] 130
theorem sq_end {vs : List Vers} {L : List Int} {l : List Nat} : sqB vs L l L.length = .box (pA (stP vs L l)) 130 := by
 have e : ∀ n : Nat, sqI vs L l L.length n = erI vs L l n := fun n => by
  unfold sqI erI bgI
  rw [List.take_length]
  by_cases h : (n : Int) ∈ L
  ·rw [if_pos h, if_pos h]; rfl
  ·rw [if_neg h, if_neg h, if_neg h]
 unfold sqB
 simp only [e]
 rfl
set_option maxHeartbeats 16000000 in
set_option maxRecDepth 100000 in
theorem c_Ask {b : Book} (hl : BLen b) (hB : BOk b) {evs : List Evening} (hE : EvsOk b evs) {now : Evening} (hN : EvOk b now) (hne : remL b.vs (evs ++ [now]) b.vs.length ≠ []) {l : List Nat} (hlo : OkL b.cues.toNat l) (hcu : now.1 = cuesI l) :
  ∃ o, AskR b.vs b.cues.toNat b.tunes.toNat (stP b.vs (remL b.vs (evs ++ [now]) b.vs.length) l) o ∧ ∀ H, ACall Tryz.prog 57 [eBook b, eEvenings evs, eEvening now] H (.ret (askP o)) H := by
 have G := hB.game
 have hn := G.hn
 have hs : Small b.vs := G.hs
 have hbc := hB.1.1
 unfold inI at hbc
 have hn8 := hN.1.1.1
 have hcl : now.1.length < 1000000 := by omega
 have hcc : CuesOk b.cues.toNat now.1 := by rw [hcu]; exact cuesI_ok hlo
 have hleft := c_left hl hB hE hN hne
 have hLl := remL_length b.vs (evs ++ [now]) b.vs.length
 have hLm : ∀ j ∈ remL b.vs (evs ++ [now]) b.vs.length, 0 ≤ j ∧ j < b.vs.length := fun j hj => remL_mem hj
 have hP := G.st_ok hlo (evs ++ [now])
 obtain ⟨es, ⟨cl, rfl, hcb, hclS⟩, hmap⟩ := c_classes hB
 generalize remL b.vs (evs ++ [now]) b.vs.length = L at *
 obtain ⟨_, ⟨U, N, hU, hI, rfl⟩, hsolve⟩ := c_gSolve hB (now := now) (st := stP b.vs L l) hclS hP
 have hNs := val_small G hU hI
 have hdn : doneK cl (stP b.vs L l, noM) = true ↔ base4 b.vs b.cues.toNat (stP b.vs L l) := doneK_iff hclS hP
 have hkey := key_p4 hs hP
 have hlk := eP_look (stP b.vs L l) N
 have hk : ∃ o, AskR b.vs b.cues.toNat b.tunes.toNat (stP b.vs L l) o ∧ ((doneK cl (stP b.vs L l, noM) = true ∧ o = some none) ∨ (doneK cl (stP b.vs L l, noM) = false ∧ lookP N (stP b.vs L l) = none ∧ o = none) ∨ (doneK cl (stP b.vs L l, noM) = false ∧ ∃ c n, lookP N (stP b.vs L l) = some n ∧ bestC (lookP N) (succ4 b.vs b.tunes.toNat) (stP b.vs L l) b.cues.toNat = some (c, n) ∧ o = some (some (c, n)))) := by
  cases hd : doneK cl (stP b.vs L l, noM) with
  | true => exact ⟨_, .done (hdn.1 hd), .inl ⟨rfl, rfl⟩⟩
  | false =>
   have hnb : ¬ base4 b.vs b.cues.toNat (stP b.vs L l) := fun h => by rw [hdn.2 h] at hd; cases hd
   rcases hI.ask G hU hnb with ⟨hN0, hA⟩ | ⟨c, n, hN0, hbst, hA⟩
   ·exact ⟨_, hA, .inr (.inl ⟨rfl, hN0, rfl⟩)⟩
   ·exact ⟨_, hA, .inr (.inr ⟨rfl, c, n, hN0, hbst, rfl⟩)⟩
 obtain ⟨o, hA, ho⟩ := hk
 refine ⟨o, hA, fun H => ?_⟩
 refine fn_rule (m := false) (fn := Tryz.f57) (c := (Tryz.f57.body).getD .skip) mixed (by kernel_rfl) (by kernel_rfl) (of_decide_eq_true (by kernel_rfl)) ?_ ?_ ?_ H
 ·exact ⟨under_eBook 0 _, under_eEvenings 0 _, under_eEvening 0 _, trivial⟩
 ·exact under_askP 0 _
 ·refine CallG.pure _ (hleft) ?_
  refine If.mk (fun _ => ?_) (fun h => absurd (by decide) h)
  refine ifN ?_
  refine CallG.weak _ (.cons (fun H => WeakH.tail _ _ _ H) (.nil)) (c_posBegun L (by omega)) ?_
  refine LoopG.at (n0 := 3) rfl (loop_up mixed (m := false) (fun i => [(3, .ptr 0 0), (5, .ptr 1 0), (9, eInts L), (11, .ptr 2 0), (33, eInts L), (34, n' (L.length : Nat)), (35, n' i)]) (fun i => [(0, bBox b), (1, .box (cEvening now) 51), (2, sqB b.vs L l i)]) (fun _ => True) L.length 2 (leb rfl) trivial ?_ ?_ ?_)
  ·exact ⟨wp rfl (ltb rfl), wp rfl (ltb rfl), ⟨_, rfl, Weak.refl _ _, under_eInts _ _⟩, wp rfl (ltb rfl), ⟨_, rfl, Weak.refl _ _, under_eInts _ _⟩, wp rfl trivial, wp rfl trivial, trivial⟩
  ·exact ⟨bk rfl rfl, bk rfl rfl, bk rfl rfl, trivial⟩
  ·intro i hi _
   refine If.mk (fun h1 => ?_) (fun h1 => ?_)
   ·refine ifY ?_
    obtain ⟨j, hj, _, hjm⟩ := at_some (l := L) (r := i) (by omega)
    have hj' := hLm j hjm
    refine Ex.mk _ (jx_ints (r := i) rfl hj) ?_
    refine Ex.mk _ rfl ?_
    have hj4 : j = 0 ∨ j = 1 ∨ j = 2 ∨ j = 3 := by omega
    rcases hj4 with rfl | rfl | rfl | rfl
    ·obtain ⟨hvn, hvm⟩ := vAt_of (vs := b.vs) (n := 0) (by omega)
     have hV := (hB.2 _ hvm).vers
     refine Ex.mk _ (jx_versions (r := 0) rfl hvn) ?_
     refine Ex.mk _ rfl ?_
     refine CallG.pure _ (c_played hV.1 hV.2 hcc hcl) ?_
     refine Side.mk (fits64 (by omega)) ?_
     refine ⟨leb rfl, rfl, by omega, trivial, ⟨wp rfl (ltb rfl), wp rfl (ltb rfl), ⟨_, rfl, Weak.refl _ _, under_eInts _ _⟩, wp rfl (ltb rfl), ⟨_, rfl, Weak.refl _ _, under_eInts _ _⟩, wp rfl trivial, wp rfl trivial, trivial⟩, ⟨bk rfl rfl, bk rfl rfl, ⟨?_, ltb rfl⟩, trivial⟩, ⟨⟨_, rfl, trivial, trivial, trivial, trivial, trivial, trivial⟩, trivial⟩⟩
     have hs := sq_succ (vs := b.vs) (l := l) hj
     show some (Blk.box [n' ((after (vAt b.vs 0) 0 now.1 : Nat) : Int), n' (sqI b.vs L l i 1), n' (sqI b.vs L l i 2), n' (sqI b.vs L l i 3), n' 0] 130) = some (sqB b.vs L l (i + 1))
     unfold sqB
     simp only [hs]
     simp [hcu]
    ·obtain ⟨hvn, hvm⟩ := vAt_of (vs := b.vs) (n := 1) (by omega)
     have hV := (hB.2 _ hvm).vers
     refine Ex.mk _ (jx_versions (r := 1) rfl hvn) ?_
     refine Ex.mk _ rfl ?_
     refine CallG.pure _ (c_played hV.1 hV.2 hcc hcl) ?_
     refine Side.mk (fits64 (by omega)) ?_
     refine ⟨leb rfl, rfl, by omega, trivial, ⟨wp rfl (ltb rfl), wp rfl (ltb rfl), ⟨_, rfl, Weak.refl _ _, under_eInts _ _⟩, wp rfl (ltb rfl), ⟨_, rfl, Weak.refl _ _, under_eInts _ _⟩, wp rfl trivial, wp rfl trivial, trivial⟩, ⟨bk rfl rfl, bk rfl rfl, ⟨?_, ltb rfl⟩, trivial⟩, ⟨⟨_, rfl, trivial, trivial, trivial, trivial, trivial, trivial⟩, trivial⟩⟩
     have hs := sq_succ (vs := b.vs) (l := l) hj
     show some (Blk.box [n' (sqI b.vs L l i 0), n' ((after (vAt b.vs 1) 0 now.1 : Nat) : Int), n' (sqI b.vs L l i 2), n' (sqI b.vs L l i 3), n' 0] 130) = some (sqB b.vs L l (i + 1))
     unfold sqB
     simp only [hs]
     simp [hcu]
    ·obtain ⟨hvn, hvm⟩ := vAt_of (vs := b.vs) (n := 2) (by omega)
     have hV := (hB.2 _ hvm).vers
     refine Ex.mk _ (jx_versions (r := 2) rfl hvn) ?_
     refine Ex.mk _ rfl ?_
     refine CallG.pure _ (c_played hV.1 hV.2 hcc hcl) ?_
     refine Side.mk (fits64 (by omega)) ?_
     refine ⟨leb rfl, rfl, by omega, trivial, ⟨wp rfl (ltb rfl), wp rfl (ltb rfl), ⟨_, rfl, Weak.refl _ _, under_eInts _ _⟩, wp rfl (ltb rfl), ⟨_, rfl, Weak.refl _ _, under_eInts _ _⟩, wp rfl trivial, wp rfl trivial, trivial⟩, ⟨bk rfl rfl, bk rfl rfl, ⟨?_, ltb rfl⟩, trivial⟩, ⟨⟨_, rfl, trivial, trivial, trivial, trivial, trivial, trivial⟩, trivial⟩⟩
     have hs := sq_succ (vs := b.vs) (l := l) hj
     show some (Blk.box [n' (sqI b.vs L l i 0), n' (sqI b.vs L l i 1), n' ((after (vAt b.vs 2) 0 now.1 : Nat) : Int), n' (sqI b.vs L l i 3), n' 0] 130) = some (sqB b.vs L l (i + 1))
     unfold sqB
     simp only [hs]
     simp [hcu]
    ·obtain ⟨hvn, hvm⟩ := vAt_of (vs := b.vs) (n := 3) (by omega)
     have hV := (hB.2 _ hvm).vers
     refine Ex.mk _ (jx_versions (r := 3) rfl hvn) ?_
     refine Ex.mk _ rfl ?_
     refine CallG.pure _ (c_played hV.1 hV.2 hcc hcl) ?_
     refine Side.mk (fits64 (by omega)) ?_
     refine ⟨leb rfl, rfl, by omega, trivial, ⟨wp rfl (ltb rfl), wp rfl (ltb rfl), ⟨_, rfl, Weak.refl _ _, under_eInts _ _⟩, wp rfl (ltb rfl), ⟨_, rfl, Weak.refl _ _, under_eInts _ _⟩, wp rfl trivial, wp rfl trivial, trivial⟩, ⟨bk rfl rfl, bk rfl rfl, ⟨?_, ltb rfl⟩, trivial⟩, ⟨⟨_, rfl, trivial, trivial, trivial, trivial, trivial, trivial⟩, trivial⟩⟩
     have hs := sq_succ (vs := b.vs) (l := l) hj
     show some (Blk.box [n' (sqI b.vs L l i 0), n' (sqI b.vs L l i 1), n' (sqI b.vs L l i 2), n' ((after (vAt b.vs 3) 0 now.1 : Nat) : Int), n' 0] 130) = some (sqB b.vs L l (i + 1))
     unfold sqB
     simp only [hs]
     simp [hcu]
   ·refine ifN ?_
    obtain rfl : i = L.length := by omega
    refine ⟨leb rfl, ?_⟩
    rw [sq_end]
    refine CallG.map hmap ?_
    refine CallG.at (nb (doneK cl (stP b.vs L l, noM))) (fun H hH => ?_) ?_
    ·obtain ⟨H2, rfl⟩ := hH.firstG (b := b) (now := now) (st := stP b.vs L l) (cl := cl) (N := []) ⟨bk rfl rfl, bk rfl rfl, bk rfl rfl, bk rfl rfl, bk rfl rfl, bk rfl rfl, bk rfl rfl, bk rfl rfl, bk rfl rfl, bk rfl rfl, bk rfl rfl, trivial⟩
     exact c_gSettled4 hP H2
    rcases ho with ⟨hd, rfl⟩ | ho
    ·rw [hd]
     refine ifY ?_
     exact ⟨.inl rfl, FinG.mk _ rfl rfl rfl⟩
    have hd : doneK cl (stP b.vs L l, noM) = false := by rcases ho with ⟨h, _⟩ | ⟨h, _⟩ <;> exact h
    rw [hd]
    refine ifN ?_
    refine CallG.pre [.agg (gC b), .agg (pA (stP b.vs L l))] (gL b now (stP b.vs L l) cl []) (gL b now (stP b.vs L l) cl N) (.tup []) 6 (.cons (fun H => WeakH.refl _ H) (.cons (fun H => WeakH.refl _ H) .nil)) ⟨rfl, rfl, rfl, rfl, rfl, rfl, rfl, rfl, rfl, rfl, rfl, trivial⟩ ⟨rfl, rfl, rfl, rfl, rfl, rfl, rfl, rfl, rfl, rfl, rfl, trivial⟩ rfl ⟨fun h => h, fun h => h, fun h => h, fun h => h, fun h => h, fun h => h, fun h => (by cases h), fun h => h, fun h => h, fun h => h, fun h => h, trivial⟩ ⟨bk rfl rfl, bk rfl rfl, bk rfl rfl, bk rfl rfl, bk rfl rfl, bk rfl rfl, bk rfl rfl, bk rfl rfl, bk rfl rfl, bk rfl rfl, bk rfl rfl, trivial⟩ rfl ⟨under_gC (n := 11) (by decide) _, under_pA _ _, trivial⟩ rfl (gL_under _ _ _ _ _) (gL_under _ _ _ _ _) hsolve ?_
    rcases ho with ⟨_, hN0, rfl⟩ | ⟨_, c, n, hN0, hbst, rfl⟩
    ·rw [hN0] at hlk
     simp only [Option.map_none] at hlk
     refine Ex.mk _ (aop_lookN2 (kt := 130) (et := 3) (key := kP (stP b.vs L l)) rfl rfl rfl rfl (by kernel_rfl) (by kernel_rfl) rfl hkey hlk) ?_
     refine ifY ?_
     exact ⟨.inl rfl, FinG.mk _ rfl rfl rfl⟩
    ·rw [hN0] at hlk
     simp only [Option.map_some] at hlk
     refine Ex.mk _ (aop_lookK2 (kt := 130) (et := 3) (key := kP (stP b.vs L l)) rfl rfl rfl rfl (by kernel_rfl) (by kernel_rfl) rfl hkey hlk) ?_
     refine ifN ?_
     refine CallG.at (.tup [.agg (ocA (some (c, n))), nb true]) (fun H hH => ?_) ?_
     ·obtain ⟨H2, rfl⟩ := hH.firstG (b := b) (now := now) (st := stP b.vs L l) (cl := cl) (N := N) ⟨bk rfl rfl, bk rfl rfl, bk rfl rfl, bk rfl rfl, bk rfl rfl, bk rfl rfl, bk rfl rfl, bk rfl rfl, bk rfl rfl, bk rfl rfl, bk rfl rfl, trivial⟩
      have := c_gCue hB (now := now) (st := stP b.vs L l) (cl := cl) hNs hP H2
      rw [hbst] at this
      exact this
     exact ⟨.inl rfl, FinG.mk _ rfl rfl rfl⟩
end Go.Vm

namespace Go.Vm
open Go.Proofs
theorem ap_evNil {g : Nat → Option Blk} {n : Nat} {l : List Evening} (h : l ≠ []) (hl : l.length ≤ 2097152) : appT Tryz.prog false g n 40 40 (.lit (.slice none 0 0)) (eEvenings l) = some (.sl l.length (l.flatMap cEvening) (.own n 0 2), .push (.row 0)) :=
 appT_nil (e := 51) (bytes := 48) (z := .agg #[.slice none 0 0, .slice none 0 0]) (by kernel_rfl) (by kernel_rfl) (by kernel_rfl) (by kernel_rfl) (by kernel_rfl) (src_evenings g l _) (List.length_pos_iff.2 h) hl
theorem ap_ev1 {g : Nat → Option Blk} {n : Nat} {e : Evening} : appT Tryz.prog false g n 40 40 (.lit (.slice none 0 0)) (.sl 1 (cEvening e) .full) = some (.sl 1 (cEvening e) (.own n 0 2), .push (.row 0)) :=
 appT_nil (e := 51) (bytes := 48) (z := .agg #[.slice none 0 0, .slice none 0 0]) (by kernel_rfl) (by kernel_rfl) (by kernel_rfl) (by kernel_rfl) (by kernel_rfl) rfl (by omega) (by omega)
end Go.Vm
