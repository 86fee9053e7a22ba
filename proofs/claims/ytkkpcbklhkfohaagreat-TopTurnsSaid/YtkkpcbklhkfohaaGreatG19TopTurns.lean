/-
  Texts of the proof, part 19: the machine, contracts of functions, plain laws. (Own work.)
-/
import Derived.Test.YtkkpcbklhkfohaaGreatG16TopTurns
import Derived.Test.YtkkpcbklhkfohaaGreatG18TopTurns
import Derived.Test.YtkkpcbklhkfohaaGreatG12TopTurns

namespace Go.Vm
open Go.Proofs
section
variable (ok : PoseD → Prop) [DecidablePred ok]
def bfS (to : PoseD) : Nat → AwS
 | 0 => ([(to, 0)], [to])
 | j + 1 => rowI ok (j + 1) ((bfS to j).1, []) (bfS to j).2
end
section
variable {ok : PoseD → Prop} [DecidablePred ok]
theorem ext_len (many : Nat) (s : AwS) (y : PoseD) : (extI ok many s y).2.length ≤ s.2.length + 1 := by
 unfold extI
 split
 ·simp
 ·omega
theorem exp_len (many : Nat) (s : AwS) (x : PoseD) : ∀ r, (expI ok many s x r).2.length ≤ s.2.length + r
 | 0 => by show s.2.length ≤ _; omega
 | r + 1 => by
  rw [expI_succ]
  have := ext_len (ok := ok) many (expI ok many s x r) (nxtI r x)
  have := exp_len many s x r
  omega
theorem row_len (many : Nat) : ∀ (now : List PoseD) (s : AwS), (rowI ok many s now).2.length ≤ s.2.length + 4 * now.length
 | [], s => by show s.2.length ≤ _; omega
 | x :: now, s => by
  show (rowI ok many (expI ok many s x 4) now).2.length ≤ _
  have := row_len many now (expI ok many s x 4)
  have := exp_len (ok := ok) many s x 4
  rw [List.length_cons]
  omega
theorem ext_ok {many : Nat} {s : AwS} {y : PoseD} (h : ∀ x ∈ s.2, ok x) : ∀ x ∈ (extI ok many s y).2, ok x := by
 unfold extI
 split
 ·rename_i hy
  intro x hx
  rcases List.mem_append.1 hx with hx | hx
  ·exact h x hx
  ·rw [List.mem_singleton.1 hx]; exact hy.1
 ·exact h
theorem exp_ok {many : Nat} {s : AwS} {x : PoseD} (h : ∀ x ∈ s.2, ok x) : ∀ r, ∀ y ∈ (expI ok many s x r).2, ok y
 | 0 => h
 | r + 1 => by rw [expI_succ]; exact ext_ok (exp_ok h r)
theorem row_ok {many : Nat} : ∀ {now : List PoseD} {s : AwS}, (∀ x ∈ s.2, ok x) → ∀ y ∈ (rowI ok many s now).2, ok y
 | [], _, h => h
 | _ :: now, _, h => row_ok (now := now) (exp_ok h 4)
theorem bf_ok {to : PoseD} (h : ok to) : ∀ j, ∀ x ∈ (bfS ok to j).2, ok x
 | 0 => fun x hx => by rw [List.mem_singleton.1 hx]; exact h
 | _ + 1 => row_ok (fun _ hx => by cases hx)
theorem bf_len (to : PoseD) : ∀ j, (bfS ok to j).2.length ≤ 4 ^ j
 | 0 => Nat.le_refl _
 | j + 1 => by
  have h1 := row_len (ok := ok) (j + 1) (bfS ok to j).2 ((bfS ok to j).1, [])
  have h2 := bf_len to j
  show (rowI ok (j + 1) ((bfS ok to j).1, []) (bfS ok to j).2).2.length ≤ _
  have h3 : 4 ^ (j + 1) = 4 * 4 ^ j := by rw [Nat.pow_succ, Nat.mul_comm]
  have h4 : ([] : List PoseD).length = 0 := rfl
  have h5 : (((bfS ok to j).1, ([] : List PoseD)) : AwS).2.length = 0 := rfl
  omega
theorem bf_stop {to : PoseD} {j : Nat} (h : (bfS ok to j).2 = []) : ∀ i, bfS ok to (j + i) = bfS ok to j
 | 0 => rfl
 | i + 1 => by
  show rowI ok (j + i + 1) ((bfS ok to (j + i)).1, []) (bfS ok to (j + i)).2 = _
  rw [bf_stop h i, h]
  show ((bfS ok to j).1, ([] : List PoseD)) = bfS ok to j
  rw [← h]
end
theorem LoopG.fresh {P : Program} {ro : Option Nat} {c : Code} {k : Nat} {vars : Trie AV} {t : Trie Blk} {n n0 : Nat} {d : List Nat} {lo : Nat} {Q : CodeQ} (S : List (Nat × AV)) (T : List (Nat × Blk)) (hn : n = n0) (hS : SlotsW (get vars) t S) (hT : Blks (get t) noLo T)
  (h : LoopG P ro c k (ofL S) (ofL T) n0 d lo Q) : LoopG P ro c k vars t n d lo Q := by
 subst hn
 obtain ⟨h⟩ := h
 refine ⟨fun H H0 hH hk => ?_⟩
 obtain ⟨x, e, lo', H', h1, h2, h3, h4⟩ := h H H0 (hH.subN hT) hk
 exact ⟨x, e, lo', H', h1, h2, h3.fewer fun s v hg => by
  obtain ⟨v1, g1, g2⟩ := hS.mem _ (get_ofL hg)
  exact ⟨v1, g1, g2 _ _ hH⟩, h4⟩
def okI (st : Int) (a b : LimbD) (e h0 h1 : FieldD) (r0 : Int) (y : PoseD) : Prop := poseOk a b y.1 y.2 ∧ fineI st a b e h0 h1 r0 y.1 y.2
instance (st : Int) (a b : LimbD) (e h0 h1 : FieldD) (r0 : Int) : DecidablePred (okI st a b e h0 h1 r0) := fun y => by unfold okI; infer_instance
def lsP (R : Nat) (A : List PoseD) : AV := .sl A.length ((A.map prL).map eInts) (.own R A.length 1)
theorem under_lsP {n R : Nat} (A : List PoseD) (h : R < n) : (lsP R A).under n := ⟨unders_map (under_eInts _) _, h⟩
theorem lsP_snoc (R : Nat) (A : List PoseD) (y : PoseD) : AV.sl (A.length + 1) ((A.map prL).map eInts ++ [eInts (prL y)]) (.own R (A.length + 1) 1) = lsP R (A ++ [y]) := by
 unfold lsP; rw [List.length_append, List.map_append, List.map_append]; rfl
theorem wk_lsP {t : Trie Blk} (R : Nat) (A : List PoseD) : Weak t (lsP R A) (ePoses A) := by
 unfold lsP ePoses eLists
 rw [poses_len]
 exact Weak.tail _ _ _ _
theorem under_awE {n : Nat} (E : List (PoseD × Nat)) : (Blk.map (.arr 5) (kE (awE E))).under n := by
 show AV.unders n ((kE (awE E)).map (·.2))
 unfold kE
 rw [List.map_map]
 exact unders_map (f := (fun p : Value × AV => p.2) ∘ fun p : List Int × Int => (intV p.1, n' p.2)) (fun _ => trivial) _
theorem under_kC (n : Nat) (st : Int) (a b : LimbD) (e h0 h1 : FieldD) (r0 r1 : Int) : AV.unders n (kC st a b e h0 h1 r0 r1) := under_eK n st a b e h0 h1 r0 r1
def kBox (st : Int) (a b : LimbD) (e h0 h1 : FieldD) (r0 r1 : Int) : Blk := .box (kC st a b e h0 h1 r0 r1) 108
theorem c_turnJ0 {x : PoseD} (hx : -4 ≤ x.1 ∧ x.1 ≤ 4) (H : List Blk) : ACall Tryz.prog 102 [eInts (prL x), .agg [n' 0, n' (-1)]] H (.ret (eInts (prL (nxtI 0 x)))) H := by
 have h := c_turn0 (p := x.1) (q := x.2) (d := -1) (by omega) (by decide) H
 rw [show x.1 + -1 = x.1 - 1 by omega] at h
 exact h
theorem c_turnJ1 {x : PoseD} (hx : -4 ≤ x.1 ∧ x.1 ≤ 4) (H : List Blk) : ACall Tryz.prog 102 [eInts (prL x), .agg [n' 0, n' 1]] H (.ret (eInts (prL (nxtI 1 x)))) H :=
 c_turn0 (p := x.1) (q := x.2) (d := 1) (by omega) (by decide) H
theorem c_turnJ2 {x : PoseD} (hx : -4 ≤ x.2 ∧ x.2 ≤ 4) (H : List Blk) : ACall Tryz.prog 102 [eInts (prL x), .agg [n' 1, n' (-1)]] H (.ret (eInts (prL (nxtI 2 x)))) H := by
 have h := c_turn1 (p := x.1) (q := x.2) (d := -1) (by omega) (by decide) H
 rw [show x.2 + -1 = x.2 - 1 by omega] at h
 exact h
theorem c_turnJ3 {x : PoseD} (hx : -4 ≤ x.2 ∧ x.2 ≤ 4) (H : List Blk) : ACall Tryz.prog 102 [eInts (prL x), .agg [n' 1, n' 1]] H (.ret (eInts (prL (nxtI 3 x)))) H :=
 c_turn1 (p := x.1) (q := x.2) (d := 1) (by omega) (by decide) H
noncomputable def awS0 (now : List PoseD) (i : Nat) : List (Nat × AV) := [(2, .ptr 0 0), (5, .ptr 2 0), (7, .ptr 3 0), (8, .ptr 4 0), (26, ePoses now), (27, n' now.length), (28, n' (i : Nat)), (34, .fn (.func 101) [] [.ptr 6 0, .ptr 7 0])]
noncomputable def awB0 (now : List PoseD) (i : Nat) (st : LoopState) : Blk := lpB Tryz.f48 st (awS0 now i) 8
theorem under_awB0 (now : List PoseD) (i : Nat) (st : LoopState) : (awB0 now i st).under 10 := under_lpB ⟨ltb rfl, ltb rfl, ltb rfl, ltb rfl, under_eLists _ _, trivial, trivial, ⟨trivial, ltb rfl, ltb rfl, trivial⟩, trivial⟩ (ltb rfl)
noncomputable def awT0 (K : List AV) (_ : Nat → List PoseD) (now : List PoseD) (i : Nat) (x : PoseD) (st : LoopState) (s : AwS) : List (Nat × Blk) :=
 [(0, .box K 108), (1, .map (.arr 5) (kE (awE s.1))), (2, .box [.mp 1] 111), (3, .box [n' 1] 3), (4, .box [lsP 5 s.2] 38), (5, .row s.2.length), (6, .box K 108), (7, .box [eInts (prL x)] 30), (8, .defd), (9, awB0 now i st)]
noncomputable def awS1 (now : List PoseD) (i : Nat) : List (Nat × AV) := [(2, .ptr 0 0), (5, .ptr 2 0), (7, .ptr 6 0), (8, .ptr 7 0), (26, ePoses now), (27, n' now.length), (28, n' (i : Nat)), (34, .fn (.func 101) [] [.ptr 9 0, .ptr 10 0])]
noncomputable def awB1 (now : List PoseD) (i : Nat) (st : LoopState) : Blk := lpB Tryz.f48 st (awS1 now i) 11
theorem under_awB1 (now : List PoseD) (i : Nat) (st : LoopState) : (awB1 now i st).under 13 := under_lpB ⟨ltb rfl, ltb rfl, ltb rfl, ltb rfl, under_eLists _ _, trivial, trivial, ⟨trivial, ltb rfl, ltb rfl, trivial⟩, trivial⟩ (ltb rfl)
noncomputable def awT1 (K : List AV) (O : Nat → List PoseD) (now : List PoseD) (i : Nat) (x : PoseD) (st : LoopState) (s : AwS) : List (Nat × Blk) :=
 [(0, .box K 108), (1, .map (.arr 5) (kE (awE s.1))), (2, .box [.mp 1] 111), (3, .box [n' 1] 3), (4, .box [lsP 5 (O 0)] 38), (5, .row (O 0).length), (6, .box [n' 2] 3), (7, .box [lsP 8 s.2] 38), (8, .row s.2.length), (9, .box K 108), (10, .box [eInts (prL x)] 30), (11, .defd), (12, awB1 now i st)]
noncomputable def awS2 (now : List PoseD) (i : Nat) : List (Nat × AV) := [(2, .ptr 0 0), (5, .ptr 2 0), (7, .ptr 9 0), (8, .ptr 10 0), (26, ePoses now), (27, n' now.length), (28, n' (i : Nat)), (34, .fn (.func 101) [] [.ptr 12 0, .ptr 13 0])]
noncomputable def awB2 (now : List PoseD) (i : Nat) (st : LoopState) : Blk := lpB Tryz.f48 st (awS2 now i) 14
theorem under_awB2 (now : List PoseD) (i : Nat) (st : LoopState) : (awB2 now i st).under 16 := under_lpB ⟨ltb rfl, ltb rfl, ltb rfl, ltb rfl, under_eLists _ _, trivial, trivial, ⟨trivial, ltb rfl, ltb rfl, trivial⟩, trivial⟩ (ltb rfl)
noncomputable def awT2 (K : List AV) (O : Nat → List PoseD) (now : List PoseD) (i : Nat) (x : PoseD) (st : LoopState) (s : AwS) : List (Nat × Blk) :=
 [(0, .box K 108), (1, .map (.arr 5) (kE (awE s.1))), (2, .box [.mp 1] 111), (3, .box [n' 1] 3), (4, .box [lsP 5 (O 0)] 38), (5, .row (O 0).length), (6, .box [n' 2] 3), (7, .box [lsP 8 (O 1)] 38), (8, .row (O 1).length), (9, .box [n' 3] 3), (10, .box [lsP 11 s.2] 38), (11, .row s.2.length), (12, .box K 108), (13, .box [eInts (prL x)] 30), (14, .defd), (15, awB2 now i st)]
noncomputable def awS3 (now : List PoseD) (i : Nat) : List (Nat × AV) := [(2, .ptr 0 0), (5, .ptr 2 0), (7, .ptr 12 0), (8, .ptr 13 0), (26, ePoses now), (27, n' now.length), (28, n' (i : Nat)), (34, .fn (.func 101) [] [.ptr 15 0, .ptr 16 0])]
noncomputable def awB3 (now : List PoseD) (i : Nat) (st : LoopState) : Blk := lpB Tryz.f48 st (awS3 now i) 17
theorem under_awB3 (now : List PoseD) (i : Nat) (st : LoopState) : (awB3 now i st).under 19 := under_lpB ⟨ltb rfl, ltb rfl, ltb rfl, ltb rfl, under_eLists _ _, trivial, trivial, ⟨trivial, ltb rfl, ltb rfl, trivial⟩, trivial⟩ (ltb rfl)
noncomputable def awT3 (K : List AV) (O : Nat → List PoseD) (now : List PoseD) (i : Nat) (x : PoseD) (st : LoopState) (s : AwS) : List (Nat × Blk) :=
 [(0, .box K 108), (1, .map (.arr 5) (kE (awE s.1))), (2, .box [.mp 1] 111), (3, .box [n' 1] 3), (4, .box [lsP 5 (O 0)] 38), (5, .row (O 0).length), (6, .box [n' 2] 3), (7, .box [lsP 8 (O 1)] 38), (8, .row (O 1).length), (9, .box [n' 3] 3), (10, .box [lsP 11 (O 2)] 38), (11, .row (O 2).length), (12, .box [n' 4] 3), (13, .box [lsP 14 s.2] 38), (14, .row s.2.length), (15, .box K 108), (16, .box [eInts (prL x)] 30), (17, .defd), (18, awB3 now i st)]
set_option maxHeartbeats 8000000 in
set_option maxRecDepth 100000 in
theorem c_away {st : Int} {a b : LimbD} {e h0 h1 : FieldD} {r0 r1 : Int} (hf : figOk st a b) (hs : stageOk e h0 h1 r0 r1) {to : PoseD} (hto : okI st a b e h0 h1 r0 to) (h4 : (bfS (okI st a b e h0 h1 r0) to 4).2 = []) :
  ∃ es, es = kE (awE (bfS (okI st a b e h0 h1 r0) to 4).1) ∧ ∀ H, ACall Tryz.prog 48 [eK st a b e h0 h1 r0 r1, eInts (prL to)] H (.ret (.mp H.length)) (H ++ [.map (.arr 5) es]) := by
 refine fn_ruleN (m := false) (fn := Tryz.f48) (c := (Tryz.f48.body).getD .skip) (fun es => es = kE (awE (bfS (okI st a b e h0 h1 r0) to 4).1)) mixed (by kernel_rfl) (by kernel_rfl) (of_decide_eq_true (by kernel_rfl)) ⟨under_eK _ _ _ _ _ _ _ _ _, under_eInts _ _, trivial⟩ ?_
 have near : ∀ {y : PoseD}, poseOk a b y.1 y.2 → (-4 ≤ y.1 ∧ y.1 ≤ 4) ∧ (-4 ≤ y.2 ∧ y.2 ≤ 4) := fun {y} h => by
  obtain ⟨_, ⟨_, _, m3, m4, _⟩, ⟨_, _, k3, k4, _⟩⟩ := hf
  obtain ⟨p1, p2⟩ := h
  omega
 have hto4 := near hto.1
 have hpar : ∀ s ∈ ((rgn (Tryz.f48.body.getD .skip)).getD (#[], .skip, .skip)).1, s < Tryz.f48.ntmps := by decide
 refine CallG.pure _ (c_keyOf to.1 to.2) ?_
 refine Ex.mk _ (aw_set (y := to) (E := []) (many := 0) (id := 1) (.inr rfl) rfl rfl rfl rfl (shOk_key (by omega) (by omega)) (by simp)) ?_
 obtain ⟨B, hB⟩ : ∃ B, B = bfS (okI st a b e h0 h1 r0) to := ⟨_, rfl⟩
 have hB0 : B 0 = ([(to, 0)], [to]) := by rw [hB]; rfl
 have hBs : ∀ j, B (j + 1) = rowI (okI st a b e h0 h1 r0) (j + 1) ((B j).1, []) (B j).2 := fun j => by rw [hB]; rfl
 have hBok : ∀ j, ∀ x ∈ (B j).2, okI st a b e h0 h1 r0 x := fun j => by rw [hB]; exact bf_ok hto j
 have hBl : ∀ j, (B j).2.length ≤ 4 ^ j := fun j => by rw [hB]; exact bf_len to j
 have hBe : ∀ {j}, (B j).2 = [] → ∀ i, B (j + i) = B j := fun {j} h i => by rw [hB] at h ⊢; exact bf_stop h i
 rw [← hB] at h4 ⊢
 have hE : ∀ {s : AwS} {y : PoseD}, ¬ (∀ e ∈ s.1, e.1 ≠ y) → ∃ m, lookD s.1 y = some m := fun {s y} h => Option.ne_none_iff_exists'.1 fun h' => h (lookD_none.1 h')
 have lits : ∀ E : List (PoseD × Nat), ∀ p ∈ kE (awE E), ∃ v, p.2 = .lit v := fun E p hp => by
  obtain ⟨q, _, rfl⟩ := List.mem_map.1 hp
  exact ⟨_, rfl⟩
 have nul : ∀ {L : List PoseD}, ¬ (0 : Int) < ((L.map prL).length : Nat) → L = [] := fun {L} h => by
  rw [poses_len] at h
  exact List.length_eq_zero_iff.1 (by omega)
 refine LoopG.fresh (n0 := 4) [(2, .ptr 0 0), (5, .ptr 2 0), (6, ePoses (B 0).2), (7, .ptr 3 0)] [(0, kBox st a b e h0 h1 r0 r1), (1, .map (.arr 5) (kE (awE (B 0).1))), (2, .box [.mp 1] 111), (3, .box [n' 1] 3)] rfl ?_ ?_ ?_
 ·exact ⟨⟨_, rfl, Weak.refl _ _⟩, ⟨_, rfl, Weak.refl _ _⟩, ⟨_, rfl, by rw [hB0]; exact Weak.tail _ _ _ _⟩, ⟨_, rfl, Weak.refl _ _⟩, trivial⟩
 ·exact ⟨bk rfl rfl, ⟨by rw [hB0]; rfl, ltb rfl⟩, bk rfl rfl, bk rfl rfl, trivial⟩
 refine LoopG.round mixed (m := false) ?_
 refine If.mk (fun g => ?_) (fun g => ?_)
 rotate_left
 ·refine ifN ?_
  exact ⟨.inl rfl, rfl, 1, _, rfl, rfl, lits _, congrArg (fun s : AwS => kE (awE s.1)) (hBe (nul g) 4).symm⟩
 refine ifY ?_
 refine LoopG.ghost (LoopG.at (n0 := 6) rfl (LoopG.box 4 [.sl 0 [] (.own 5 0 1)] 1 (leb rfl) (leb rfl) rfl (.cons (Weak.own (r := 5) (g := 0) 1 rfl) (.nil _)) ?_))
 refine loop_up mixed (m := false) (fun i => [(2, .ptr 0 0), (5, .ptr 2 0), (7, .ptr 3 0), (8, .ptr 4 0), (26, ePoses (B 0).2), (27, n' (B 0).2.length), (28, n' (i : Nat))])
  (fun i => [(0, kBox st a b e h0 h1 r0 r1), (1, .map (.arr 5) (kE (awE (rowI (okI st a b e h0 h1 r0) 1 ((B 0).1, []) ((B 0).2.take i)).1))), (2, .box [.mp 1] 111), (3, .box [n' 1] 3), (4, .box [lsP 5 (rowI (okI st a b e h0 h1 r0) 1 ((B 0).1, []) ((B 0).2.take i)).2] 38), (5, .row (rowI (okI st a b e h0 h1 r0) 1 ((B 0).1, []) ((B 0).2.take i)).2.length)]) (fun _ => True) (B 0).2.length 1 (leb rfl) trivial ?_ ?_ ?_
 ·exact ⟨wp rfl (ltb rfl), wp rfl (ltb rfl), wp rfl (ltb rfl), wp rfl (ltb rfl), ⟨_, rfl, Weak.refl _ _, under_eLists _ _⟩, ⟨_, rfl, Weak.of_eq (congrArg n' (by rw [poses_len])), trivial⟩, wp rfl trivial, trivial⟩
 ·exact ⟨bk rfl rfl, bk rfl rfl, bk rfl rfl, bk rfl rfl, bk rfl rfl, bk rfl rfl, trivial⟩
 intro i hi _
 refine If.mk (fun g2 => ?_) (fun g2 => ?_)
 ·refine ifY ?_
  have hi' : i < (B 0).2.length := by
   have : (i : Int) < ((B 0).2.length : Nat) := g2
   omega
  obtain ⟨x, hx, etk, hxm⟩ := at_some (l := (B 0).2) (r := i) hi'
  have hx4 := near (hBok 0 x hxm).1
  refine Ex.mk _ (jx_lists (r := i) rfl (poses_at hx)) ?_
  refine Ex.mk _ rfl ?_
  refine CallG.inlineP (m := false) (fn := Tryz.f50) (c := (Tryz.f50.body).getD .skip) mixed (by kernel_rfl) (by kernel_rfl) (of_decide_eq_true (by kernel_rfl)) ?_
  refine .inl ⟨.inl rfl, _, rfl, rfl, ?_⟩
  obtain ⟨s0, hs0⟩ : ∃ s0, s0 = rowI (okI st a b e h0 h1 r0) 1 ((B 0).1, []) ((B 0).2.take i) := ⟨_, rfl⟩
  have hA : ∀ r, (expI (okI st a b e h0 h1 r0) 1 s0 x r).2.length ≤ 4 * i + r := fun r => by
   have q1 := exp_len (ok := okI st a b e h0 h1 r0) 1 s0 x r
   have q2 := row_len (ok := okI st a b e h0 h1 r0) 1 ((B 0).2.take i) ((B 0).1, [])
   rw [← hs0, List.length_take] at q2
   have q3 : (((B 0).1, ([] : List PoseD)) : AwS).2.length = 0 := rfl
   omega
  have hi4 : i ≤ 256 := Nat.le_trans hi (Nat.le_trans (hBl 0) (by decide))
  refine RangeG.fresh (n0 := 8) (awS0 (B 0).2 i) ((awT0 (kC st a b e h0 h1 r0 r1) (fun i => (B (i + 1)).2) (B 0).2 i x .ready s0).take 8) rfl ?_ ?_ ?_
  ·exact ⟨⟨_, rfl, Weak.refl _ _⟩, ⟨_, rfl, Weak.refl _ _⟩, ⟨_, rfl, Weak.refl _ _⟩, ⟨_, rfl, Weak.refl _ _⟩, ⟨_, rfl, Weak.refl _ _⟩, ⟨_, rfl, Weak.refl _ _⟩, ⟨_, rfl, Weak.refl _ _⟩, ⟨_, rfl, Weak.refl _ _⟩, trivial⟩
  ·rw [hs0]; exact ⟨bk rfl rfl, bk rfl rfl, bk rfl rfl, bk rfl rfl, bk rfl rfl, bk rfl rfl, bk rfl rfl, bk rfl rfl, trivial⟩
  refine RangeG.outer (f := 101) (first := []) (captured := [.ptr 6 0, .ptr 7 0]) rfl rfl rfl ?_
  refine CallG.inlineP (m := false) (fn := Tryz.f101) (c := (Tryz.f101.body).getD .skip) mixed (by kernel_rfl) (by kernel_rfl) (of_decide_eq_true (by kernel_rfl)) ?_
  refine LoopG.at (n0 := 10) rfl (loop_up mixed (m := false) (fun l => [(0, .yld 9), (1, .ptr 6 0), (2, .ptr 7 0), (12, n' 2), (13, n' (l : Nat))])
   (fun l => awT0 (kC st a b e h0 h1 r0 r1) (fun i => (B (i + 1)).2) (B 0).2 i x .ready (expI (okI st a b e h0 h1 r0) 1 s0 x (2 * l))) (fun _ => True) 2 1 (leb rfl) trivial ?_ ?_ ?_)
  ·exact ⟨wp rfl (ltb rfl), wp rfl (ltb rfl), wp rfl (ltb rfl), wp rfl trivial, wp rfl trivial, trivial⟩
  ·exact ⟨bk rfl rfl, bk rfl rfl, bk rfl rfl, bk rfl rfl, bk rfl rfl, bk rfl rfl, bk rfl rfl, bk rfl rfl, bk rfl rfl, bk rfl rfl, trivial⟩
  ·intro l hl _
   have hl3 : l = 0 ∨ l = 1 ∨ l = 2 := by omega
   rcases hl3 with rfl | rfl | rfl
   ·refine If.mk (fun _ => ?_) (fun h => absurd (by decide) h)
    refine ifY ?_
    refine LoopG.at (n0 := 10) rfl (loop_up mixed (m := false) (fun r => [(0, .yld 9), (1, .ptr 6 0), (2, .ptr 7 0), (4, n' (0 : Nat)), (12, n' 2), (13, n' (0 : Nat)), (16, .agg [n' (-1), n' 1]), (17, n' (r : Nat))])
     (fun r => awT0 (kC st a b e h0 h1 r0 r1) (fun i => (B (i + 1)).2) (B 0).2 i x .ready (expI (okI st a b e h0 h1 r0) 1 s0 x (0 + r))) (fun _ => True) 2 1 (leb rfl) trivial ?_ ?_ ?_)
    ·exact ⟨wp rfl (ltb rfl), wp rfl (ltb rfl), wp rfl (ltb rfl), wp rfl trivial, wp rfl trivial, wp rfl trivial, ⟨_, rfl, Weak.refl _ _, ⟨trivial, trivial, trivial⟩⟩, wp rfl trivial, trivial⟩
    ·exact ⟨bk rfl rfl, bk rfl rfl, bk rfl rfl, bk rfl rfl, bk rfl rfl, bk rfl rfl, bk rfl rfl, bk rfl rfl, bk rfl rfl, bk rfl rfl, trivial⟩
    ·intro r hr _
     have hr3 : r = 0 ∨ r = 1 ∨ r = 2 := by omega
     rcases hr3 with rfl | rfl | rfl
     ·refine If.mk (fun _ => ?_) (fun h => absurd (by decide) h)
      refine ifY ?_
      refine Ex.mk _ rfl ?_
      refine CallG.pure _ (c_turnJ0 hx4.1) ?_
      refine CallG.bool (c_jpose st a b (nxtI 0 x).1 (nxtI 0 x).2) (fun p1 => ?_) (fun p1 => ?_)
      ·have y4 := near p1
       refine CallG.bool (c_jfine hf hs p1) (fun p2 => ?_) (fun p2 => ?_)
       ·refine RoundG.fresh (n0 := 11) (awT0 (kC st a b e h0 h1 r0 r1) (fun i => (B (i + 1)).2) (B 0).2 i x .ready (expI (okI st a b e h0 h1 r0) 1 s0 x 0)) rfl ?_ ?_
        ·exact ⟨bk rfl rfl, bk rfl rfl, bk rfl rfl, bk rfl rfl, bk rfl rfl, bk rfl rfl, bk rfl rfl, bk rfl rfl, bk rfl rfl, bk rfl rfl, trivial⟩
        refine RoundG.introF (m := false) mixed rfl rfl hpar ?_
        refine ⟨rfl, _, rfl, rfl, [(5, .ptr 2 0), (7, .ptr 3 0), (8, .ptr 4 0), (12, eInts (prL (nxtI 0 x)))], awT0 (kC st a b e h0 h1 r0 r1) (fun i => (B (i + 1)).2) (B 0).2 i x .busy (expI (okI st a b e h0 h1 r0) 1 s0 x 0), 11, rfl, ?_, ?_, ?_⟩
        ·exact ⟨⟨_, rfl, Weak.refl _ _⟩, ⟨_, rfl, Weak.refl _ _⟩, ⟨_, rfl, Weak.refl _ _⟩, ⟨_, rfl, Weak.refl _ _⟩, trivial⟩
        ·exact ⟨bk rfl rfl, bk rfl rfl, bk rfl rfl, bk rfl rfl, bk rfl rfl, bk rfl rfl, bk rfl rfl, bk rfl rfl, bk rfl rfl, bk rfl rfl, trivial⟩
        refine CallG.pure _ (c_keyOf (nxtI 0 x).1 (nxtI 0 x).2) ?_
        refine (Classical.em (∀ z ∈ (expI (okI st a b e h0 h1 r0) 1 s0 x 0).1, z.1 ≠ nxtI 0 x)).elim (fun hm => ?_) (fun hm => ?_)
        ·refine Ex.mk _ (aw_none2 (y := nxtI 0 x) (E := (expI (okI st a b e h0 h1 r0) 1 s0 x 0).1) (id := 1) rfl rfl rfl rfl (shOk_key (by omega) (by omega)) (lookD_none.2 hm)) ?_
         refine ifY ?_
         refine CallG.pure _ (c_keyOf (nxtI 0 x).1 (nxtI 0 x).2) ?_
         refine Ex.mk _ (aw_set (y := nxtI 0 x) (E := (expI (okI st a b e h0 h1 r0) 1 s0 x 0).1) (many := 1) (id := 1) (.inl rfl) rfl rfl rfl rfl (shOk_key (by omega) (by omega)) hm) ?_
         refine ex_app _ _ (app_line (by rw [List.length_map, List.length_map]) (by have := hA 0; omega) rfl) ?_
         refine ⟨_, _, rfl, rfl, ?_⟩
         refine ifN ?_
         refine Side.mk (by unfold fitsK; kernel_rfl) ?_
         have ek : expI (okI st a b e h0 h1 r0) 1 s0 x (0 + (0 + 1)) = ((expI (okI st a b e h0 h1 r0) 1 s0 x 0).1 ++ [(nxtI 0 x, 1)], (expI (okI st a b e h0 h1 r0) 1 s0 x 0).2 ++ [nxtI 0 x]) := (expI_succ 1 s0 x 0).trans (extI_new ⟨p1, p2⟩ hm)
         refine ⟨leb rfl, rfl, by decide, trivial, ⟨wp rfl (ltb rfl), wp rfl (ltb rfl), wp rfl (ltb rfl), wp rfl trivial, wp rfl trivial, wp rfl trivial, ⟨_, rfl, Weak.refl _ _, ⟨trivial, trivial, trivial⟩⟩, wp rfl trivial, trivial⟩, ?_, ⟨⟨_, rfl, under_awE _⟩, ⟨_, rfl, ltb rfl, trivial⟩, ⟨_, rfl, trivial, trivial⟩, ⟨_, rfl, ⟨unders_append (unders_map (under_eInts _) _) ⟨under_eInts _ _, trivial⟩, ltb rfl⟩, trivial⟩, ⟨_, rfl, trivial⟩, ⟨_, rfl, under_kC _ _ _ _ _ _ _ _ _⟩, ⟨_, rfl, under_eInts _ _, trivial⟩, ⟨_, rfl, trivial⟩, ⟨_, rfl, under_awB0 _ _ _⟩, trivial⟩⟩
         show Blks _ 10 (awT0 (kC st a b e h0 h1 r0 r1) (fun i => (B (i + 1)).2) (B 0).2 i x .ready (expI (okI st a b e h0 h1 r0) 1 s0 x (0 + (0 + 1))))
         rw [ek]
         exact ⟨bk rfl rfl, bk rfl rfl, bk rfl rfl, bk rfl rfl, ⟨congrArg (fun z => some (Blk.box [z] 38)) (lsP_snoc _ _ _), ltb rfl⟩, ⟨by rw [List.length_append]; rfl, ltb rfl⟩, bk rfl rfl, bk rfl rfl, bk rfl rfl, bk rfl rfl, trivial⟩
        ·refine Ex.mk _ (aw_look2 (y := nxtI 0 x) (E := (expI (okI st a b e h0 h1 r0) 1 s0 x 0).1) (id := 1) rfl rfl rfl rfl (shOk_key (by omega) (by omega)) (hE hm).choose_spec) ?_
         refine ifN ?_
         refine ⟨_, _, rfl, rfl, ?_⟩
         refine ifN ?_
         refine Side.mk (by unfold fitsK; kernel_rfl) ?_
         have ek : expI (okI st a b e h0 h1 r0) 1 s0 x (0 + (0 + 1)) = expI (okI st a b e h0 h1 r0) 1 s0 x 0 := (expI_succ 1 s0 x 0).trans (extI_old fun z => hm z.2)
         refine ⟨leb rfl, rfl, by decide, trivial, ⟨wp rfl (ltb rfl), wp rfl (ltb rfl), wp rfl (ltb rfl), wp rfl trivial, wp rfl trivial, wp rfl trivial, ⟨_, rfl, Weak.refl _ _, ⟨trivial, trivial, trivial⟩⟩, wp rfl trivial, trivial⟩, ?_, ⟨⟨_, rfl, under_awB0 _ _ _⟩, trivial⟩⟩
         show Blks _ 10 (awT0 (kC st a b e h0 h1 r0 r1) (fun i => (B (i + 1)).2) (B 0).2 i x .ready (expI (okI st a b e h0 h1 r0) 1 s0 x (0 + (0 + 1))))
         rw [ek]
         exact ⟨bk rfl rfl, bk rfl rfl, bk rfl rfl, bk rfl rfl, bk rfl rfl, bk rfl rfl, bk rfl rfl, bk rfl rfl, bk rfl rfl, bk rfl rfl, trivial⟩
       ·refine ifN ?_
        refine Side.mk (by unfold fitsK; kernel_rfl) ?_
        refine ⟨leb rfl, rfl, by decide, trivial, ⟨wp rfl (ltb rfl), wp rfl (ltb rfl), wp rfl (ltb rfl), wp rfl trivial, wp rfl trivial, wp rfl trivial, ⟨_, rfl, Weak.refl _ _, ⟨trivial, trivial, trivial⟩⟩, wp rfl trivial, trivial⟩, ?_, trivial⟩
        have ek : expI (okI st a b e h0 h1 r0) 1 s0 x (0 + (0 + 1)) = expI (okI st a b e h0 h1 r0) 1 s0 x 0 := (expI_succ 1 s0 x 0).trans (extI_old fun z => p2 z.1.2)
        show Blks _ 10 (awT0 (kC st a b e h0 h1 r0 r1) (fun i => (B (i + 1)).2) (B 0).2 i x .ready (expI (okI st a b e h0 h1 r0) 1 s0 x (0 + (0 + 1))))
        rw [ek]
        exact ⟨bk rfl rfl, bk rfl rfl, bk rfl rfl, bk rfl rfl, bk rfl rfl, bk rfl rfl, bk rfl rfl, bk rfl rfl, bk rfl rfl, bk rfl rfl, trivial⟩
      ·refine ifN ?_
       refine Side.mk (by unfold fitsK; kernel_rfl) ?_
       have ek : expI (okI st a b e h0 h1 r0) 1 s0 x (0 + (0 + 1)) = expI (okI st a b e h0 h1 r0) 1 s0 x 0 := (expI_succ 1 s0 x 0).trans (extI_old fun z => p1 z.1.1)
       refine ⟨leb rfl, rfl, by decide, trivial, ⟨wp rfl (ltb rfl), wp rfl (ltb rfl), wp rfl (ltb rfl), wp rfl trivial, wp rfl trivial, wp rfl trivial, ⟨_, rfl, Weak.refl _ _, ⟨trivial, trivial, trivial⟩⟩, wp rfl trivial, trivial⟩, ?_, trivial⟩
       show Blks _ 10 (awT0 (kC st a b e h0 h1 r0 r1) (fun i => (B (i + 1)).2) (B 0).2 i x .ready (expI (okI st a b e h0 h1 r0) 1 s0 x (0 + (0 + 1))))
       rw [ek]
       exact ⟨bk rfl rfl, bk rfl rfl, bk rfl rfl, bk rfl rfl, bk rfl rfl, bk rfl rfl, bk rfl rfl, bk rfl rfl, bk rfl rfl, bk rfl rfl, trivial⟩
     ·refine If.mk (fun _ => ?_) (fun h => absurd (by decide) h)
      refine ifY ?_
      refine Ex.mk _ rfl ?_
      refine CallG.pure _ (c_turnJ1 hx4.1) ?_
      refine CallG.bool (c_jpose st a b (nxtI 1 x).1 (nxtI 1 x).2) (fun p1 => ?_) (fun p1 => ?_)
      ·have y4 := near p1
       refine CallG.bool (c_jfine hf hs p1) (fun p2 => ?_) (fun p2 => ?_)
       ·refine RoundG.fresh (n0 := 11) (awT0 (kC st a b e h0 h1 r0 r1) (fun i => (B (i + 1)).2) (B 0).2 i x .ready (expI (okI st a b e h0 h1 r0) 1 s0 x 1)) rfl ?_ ?_
        ·exact ⟨bk rfl rfl, bk rfl rfl, bk rfl rfl, bk rfl rfl, bk rfl rfl, bk rfl rfl, bk rfl rfl, bk rfl rfl, bk rfl rfl, bk rfl rfl, trivial⟩
        refine RoundG.introF (m := false) mixed rfl rfl hpar ?_
        refine ⟨rfl, _, rfl, rfl, [(5, .ptr 2 0), (7, .ptr 3 0), (8, .ptr 4 0), (12, eInts (prL (nxtI 1 x)))], awT0 (kC st a b e h0 h1 r0 r1) (fun i => (B (i + 1)).2) (B 0).2 i x .busy (expI (okI st a b e h0 h1 r0) 1 s0 x 1), 11, rfl, ?_, ?_, ?_⟩
        ·exact ⟨⟨_, rfl, Weak.refl _ _⟩, ⟨_, rfl, Weak.refl _ _⟩, ⟨_, rfl, Weak.refl _ _⟩, ⟨_, rfl, Weak.refl _ _⟩, trivial⟩
        ·exact ⟨bk rfl rfl, bk rfl rfl, bk rfl rfl, bk rfl rfl, bk rfl rfl, bk rfl rfl, bk rfl rfl, bk rfl rfl, bk rfl rfl, bk rfl rfl, trivial⟩
        refine CallG.pure _ (c_keyOf (nxtI 1 x).1 (nxtI 1 x).2) ?_
        refine (Classical.em (∀ z ∈ (expI (okI st a b e h0 h1 r0) 1 s0 x 1).1, z.1 ≠ nxtI 1 x)).elim (fun hm => ?_) (fun hm => ?_)
        ·refine Ex.mk _ (aw_none2 (y := nxtI 1 x) (E := (expI (okI st a b e h0 h1 r0) 1 s0 x 1).1) (id := 1) rfl rfl rfl rfl (shOk_key (by omega) (by omega)) (lookD_none.2 hm)) ?_
         refine ifY ?_
         refine CallG.pure _ (c_keyOf (nxtI 1 x).1 (nxtI 1 x).2) ?_
         refine Ex.mk _ (aw_set (y := nxtI 1 x) (E := (expI (okI st a b e h0 h1 r0) 1 s0 x 1).1) (many := 1) (id := 1) (.inl rfl) rfl rfl rfl rfl (shOk_key (by omega) (by omega)) hm) ?_
         refine ex_app _ _ (app_line (by rw [List.length_map, List.length_map]) (by have := hA 1; omega) rfl) ?_
         refine ⟨_, _, rfl, rfl, ?_⟩
         refine ifN ?_
         refine Side.mk (by unfold fitsK; kernel_rfl) ?_
         have ek : expI (okI st a b e h0 h1 r0) 1 s0 x (0 + (1 + 1)) = ((expI (okI st a b e h0 h1 r0) 1 s0 x 1).1 ++ [(nxtI 1 x, 1)], (expI (okI st a b e h0 h1 r0) 1 s0 x 1).2 ++ [nxtI 1 x]) := (expI_succ 1 s0 x 1).trans (extI_new ⟨p1, p2⟩ hm)
         refine ⟨leb rfl, rfl, by decide, trivial, ⟨wp rfl (ltb rfl), wp rfl (ltb rfl), wp rfl (ltb rfl), wp rfl trivial, wp rfl trivial, wp rfl trivial, ⟨_, rfl, Weak.refl _ _, ⟨trivial, trivial, trivial⟩⟩, wp rfl trivial, trivial⟩, ?_, ⟨⟨_, rfl, under_awE _⟩, ⟨_, rfl, ltb rfl, trivial⟩, ⟨_, rfl, trivial, trivial⟩, ⟨_, rfl, ⟨unders_append (unders_map (under_eInts _) _) ⟨under_eInts _ _, trivial⟩, ltb rfl⟩, trivial⟩, ⟨_, rfl, trivial⟩, ⟨_, rfl, under_kC _ _ _ _ _ _ _ _ _⟩, ⟨_, rfl, under_eInts _ _, trivial⟩, ⟨_, rfl, trivial⟩, ⟨_, rfl, under_awB0 _ _ _⟩, trivial⟩⟩
         show Blks _ 10 (awT0 (kC st a b e h0 h1 r0 r1) (fun i => (B (i + 1)).2) (B 0).2 i x .ready (expI (okI st a b e h0 h1 r0) 1 s0 x (0 + (1 + 1))))
         rw [ek]
         exact ⟨bk rfl rfl, bk rfl rfl, bk rfl rfl, bk rfl rfl, ⟨congrArg (fun z => some (Blk.box [z] 38)) (lsP_snoc _ _ _), ltb rfl⟩, ⟨by rw [List.length_append]; rfl, ltb rfl⟩, bk rfl rfl, bk rfl rfl, bk rfl rfl, bk rfl rfl, trivial⟩
        ·refine Ex.mk _ (aw_look2 (y := nxtI 1 x) (E := (expI (okI st a b e h0 h1 r0) 1 s0 x 1).1) (id := 1) rfl rfl rfl rfl (shOk_key (by omega) (by omega)) (hE hm).choose_spec) ?_
         refine ifN ?_
         refine ⟨_, _, rfl, rfl, ?_⟩
         refine ifN ?_
         refine Side.mk (by unfold fitsK; kernel_rfl) ?_
         have ek : expI (okI st a b e h0 h1 r0) 1 s0 x (0 + (1 + 1)) = expI (okI st a b e h0 h1 r0) 1 s0 x 1 := (expI_succ 1 s0 x 1).trans (extI_old fun z => hm z.2)
         refine ⟨leb rfl, rfl, by decide, trivial, ⟨wp rfl (ltb rfl), wp rfl (ltb rfl), wp rfl (ltb rfl), wp rfl trivial, wp rfl trivial, wp rfl trivial, ⟨_, rfl, Weak.refl _ _, ⟨trivial, trivial, trivial⟩⟩, wp rfl trivial, trivial⟩, ?_, ⟨⟨_, rfl, under_awB0 _ _ _⟩, trivial⟩⟩
         show Blks _ 10 (awT0 (kC st a b e h0 h1 r0 r1) (fun i => (B (i + 1)).2) (B 0).2 i x .ready (expI (okI st a b e h0 h1 r0) 1 s0 x (0 + (1 + 1))))
         rw [ek]
         exact ⟨bk rfl rfl, bk rfl rfl, bk rfl rfl, bk rfl rfl, bk rfl rfl, bk rfl rfl, bk rfl rfl, bk rfl rfl, bk rfl rfl, bk rfl rfl, trivial⟩
       ·refine ifN ?_
        refine Side.mk (by unfold fitsK; kernel_rfl) ?_
        refine ⟨leb rfl, rfl, by decide, trivial, ⟨wp rfl (ltb rfl), wp rfl (ltb rfl), wp rfl (ltb rfl), wp rfl trivial, wp rfl trivial, wp rfl trivial, ⟨_, rfl, Weak.refl _ _, ⟨trivial, trivial, trivial⟩⟩, wp rfl trivial, trivial⟩, ?_, trivial⟩
        have ek : expI (okI st a b e h0 h1 r0) 1 s0 x (0 + (1 + 1)) = expI (okI st a b e h0 h1 r0) 1 s0 x 1 := (expI_succ 1 s0 x 1).trans (extI_old fun z => p2 z.1.2)
        show Blks _ 10 (awT0 (kC st a b e h0 h1 r0 r1) (fun i => (B (i + 1)).2) (B 0).2 i x .ready (expI (okI st a b e h0 h1 r0) 1 s0 x (0 + (1 + 1))))
        rw [ek]
        exact ⟨bk rfl rfl, bk rfl rfl, bk rfl rfl, bk rfl rfl, bk rfl rfl, bk rfl rfl, bk rfl rfl, bk rfl rfl, bk rfl rfl, bk rfl rfl, trivial⟩
      ·refine ifN ?_
       refine Side.mk (by unfold fitsK; kernel_rfl) ?_
       have ek : expI (okI st a b e h0 h1 r0) 1 s0 x (0 + (1 + 1)) = expI (okI st a b e h0 h1 r0) 1 s0 x 1 := (expI_succ 1 s0 x 1).trans (extI_old fun z => p1 z.1.1)
       refine ⟨leb rfl, rfl, by decide, trivial, ⟨wp rfl (ltb rfl), wp rfl (ltb rfl), wp rfl (ltb rfl), wp rfl trivial, wp rfl trivial, wp rfl trivial, ⟨_, rfl, Weak.refl _ _, ⟨trivial, trivial, trivial⟩⟩, wp rfl trivial, trivial⟩, ?_, trivial⟩
       show Blks _ 10 (awT0 (kC st a b e h0 h1 r0 r1) (fun i => (B (i + 1)).2) (B 0).2 i x .ready (expI (okI st a b e h0 h1 r0) 1 s0 x (0 + (1 + 1))))
       rw [ek]
       exact ⟨bk rfl rfl, bk rfl rfl, bk rfl rfl, bk rfl rfl, bk rfl rfl, bk rfl rfl, bk rfl rfl, bk rfl rfl, bk rfl rfl, bk rfl rfl, trivial⟩
     ·refine If.mk (fun h => absurd h (by decide)) (fun _ => ?_)
      refine ifN ?_
      refine ⟨leb rfl, ?_⟩
      refine Side.mk (by unfold fitsK; kernel_rfl) ?_
      exact ⟨leb rfl, rfl, by decide, trivial, ⟨wp rfl (ltb rfl), wp rfl (ltb rfl), wp rfl (ltb rfl), wp rfl trivial, wp rfl trivial, trivial⟩, ⟨bk rfl rfl, bk rfl rfl, bk rfl rfl, bk rfl rfl, bk rfl rfl, bk rfl rfl, bk rfl rfl, bk rfl rfl, bk rfl rfl, bk rfl rfl, trivial⟩, ⟨⟨_, rfl, under_awE _⟩, ⟨_, rfl, ltb rfl, trivial⟩, ⟨_, rfl, trivial, trivial⟩, ⟨_, rfl, under_lsP _ (ltb rfl), trivial⟩, ⟨_, rfl, trivial⟩, ⟨_, rfl, under_kC _ _ _ _ _ _ _ _ _⟩, ⟨_, rfl, under_eInts _ _, trivial⟩, ⟨_, rfl, trivial⟩, ⟨_, rfl, under_awB0 _ _ _⟩, trivial⟩⟩
   ·refine If.mk (fun _ => ?_) (fun h => absurd (by decide) h)
    refine ifY ?_
    refine LoopG.at (n0 := 10) rfl (loop_up mixed (m := false) (fun r => [(0, .yld 9), (1, .ptr 6 0), (2, .ptr 7 0), (4, n' (1 : Nat)), (12, n' 2), (13, n' (1 : Nat)), (16, .agg [n' (-1), n' 1]), (17, n' (r : Nat))])
     (fun r => awT0 (kC st a b e h0 h1 r0 r1) (fun i => (B (i + 1)).2) (B 0).2 i x .ready (expI (okI st a b e h0 h1 r0) 1 s0 x (2 + r))) (fun _ => True) 2 1 (leb rfl) trivial ?_ ?_ ?_)
    ·exact ⟨wp rfl (ltb rfl), wp rfl (ltb rfl), wp rfl (ltb rfl), wp rfl trivial, wp rfl trivial, wp rfl trivial, ⟨_, rfl, Weak.refl _ _, ⟨trivial, trivial, trivial⟩⟩, wp rfl trivial, trivial⟩
    ·exact ⟨bk rfl rfl, bk rfl rfl, bk rfl rfl, bk rfl rfl, bk rfl rfl, bk rfl rfl, bk rfl rfl, bk rfl rfl, bk rfl rfl, bk rfl rfl, trivial⟩
    ·intro r hr _
     have hr3 : r = 0 ∨ r = 1 ∨ r = 2 := by omega
     rcases hr3 with rfl | rfl | rfl
     ·refine If.mk (fun _ => ?_) (fun h => absurd (by decide) h)
      refine ifY ?_
      refine Ex.mk _ rfl ?_
      refine CallG.pure _ (c_turnJ2 hx4.2) ?_
      refine CallG.bool (c_jpose st a b (nxtI 2 x).1 (nxtI 2 x).2) (fun p1 => ?_) (fun p1 => ?_)
      ·have y4 := near p1
       refine CallG.bool (c_jfine hf hs p1) (fun p2 => ?_) (fun p2 => ?_)
       ·refine RoundG.fresh (n0 := 11) (awT0 (kC st a b e h0 h1 r0 r1) (fun i => (B (i + 1)).2) (B 0).2 i x .ready (expI (okI st a b e h0 h1 r0) 1 s0 x 2)) rfl ?_ ?_
        ·exact ⟨bk rfl rfl, bk rfl rfl, bk rfl rfl, bk rfl rfl, bk rfl rfl, bk rfl rfl, bk rfl rfl, bk rfl rfl, bk rfl rfl, bk rfl rfl, trivial⟩
        refine RoundG.introF (m := false) mixed rfl rfl hpar ?_
        refine ⟨rfl, _, rfl, rfl, [(5, .ptr 2 0), (7, .ptr 3 0), (8, .ptr 4 0), (12, eInts (prL (nxtI 2 x)))], awT0 (kC st a b e h0 h1 r0 r1) (fun i => (B (i + 1)).2) (B 0).2 i x .busy (expI (okI st a b e h0 h1 r0) 1 s0 x 2), 11, rfl, ?_, ?_, ?_⟩
        ·exact ⟨⟨_, rfl, Weak.refl _ _⟩, ⟨_, rfl, Weak.refl _ _⟩, ⟨_, rfl, Weak.refl _ _⟩, ⟨_, rfl, Weak.refl _ _⟩, trivial⟩
        ·exact ⟨bk rfl rfl, bk rfl rfl, bk rfl rfl, bk rfl rfl, bk rfl rfl, bk rfl rfl, bk rfl rfl, bk rfl rfl, bk rfl rfl, bk rfl rfl, trivial⟩
        refine CallG.pure _ (c_keyOf (nxtI 2 x).1 (nxtI 2 x).2) ?_
        refine (Classical.em (∀ z ∈ (expI (okI st a b e h0 h1 r0) 1 s0 x 2).1, z.1 ≠ nxtI 2 x)).elim (fun hm => ?_) (fun hm => ?_)
        ·refine Ex.mk _ (aw_none2 (y := nxtI 2 x) (E := (expI (okI st a b e h0 h1 r0) 1 s0 x 2).1) (id := 1) rfl rfl rfl rfl (shOk_key (by omega) (by omega)) (lookD_none.2 hm)) ?_
         refine ifY ?_
         refine CallG.pure _ (c_keyOf (nxtI 2 x).1 (nxtI 2 x).2) ?_
         refine Ex.mk _ (aw_set (y := nxtI 2 x) (E := (expI (okI st a b e h0 h1 r0) 1 s0 x 2).1) (many := 1) (id := 1) (.inl rfl) rfl rfl rfl rfl (shOk_key (by omega) (by omega)) hm) ?_
         refine ex_app _ _ (app_line (by rw [List.length_map, List.length_map]) (by have := hA 2; omega) rfl) ?_
         refine ⟨_, _, rfl, rfl, ?_⟩
         refine ifN ?_
         refine Side.mk (by unfold fitsK; kernel_rfl) ?_
         have ek : expI (okI st a b e h0 h1 r0) 1 s0 x (2 + (0 + 1)) = ((expI (okI st a b e h0 h1 r0) 1 s0 x 2).1 ++ [(nxtI 2 x, 1)], (expI (okI st a b e h0 h1 r0) 1 s0 x 2).2 ++ [nxtI 2 x]) := (expI_succ 1 s0 x 2).trans (extI_new ⟨p1, p2⟩ hm)
         refine ⟨leb rfl, rfl, by decide, trivial, ⟨wp rfl (ltb rfl), wp rfl (ltb rfl), wp rfl (ltb rfl), wp rfl trivial, wp rfl trivial, wp rfl trivial, ⟨_, rfl, Weak.refl _ _, ⟨trivial, trivial, trivial⟩⟩, wp rfl trivial, trivial⟩, ?_, ⟨⟨_, rfl, under_awE _⟩, ⟨_, rfl, ltb rfl, trivial⟩, ⟨_, rfl, trivial, trivial⟩, ⟨_, rfl, ⟨unders_append (unders_map (under_eInts _) _) ⟨under_eInts _ _, trivial⟩, ltb rfl⟩, trivial⟩, ⟨_, rfl, trivial⟩, ⟨_, rfl, under_kC _ _ _ _ _ _ _ _ _⟩, ⟨_, rfl, under_eInts _ _, trivial⟩, ⟨_, rfl, trivial⟩, ⟨_, rfl, under_awB0 _ _ _⟩, trivial⟩⟩
         show Blks _ 10 (awT0 (kC st a b e h0 h1 r0 r1) (fun i => (B (i + 1)).2) (B 0).2 i x .ready (expI (okI st a b e h0 h1 r0) 1 s0 x (2 + (0 + 1))))
         rw [ek]
         exact ⟨bk rfl rfl, bk rfl rfl, bk rfl rfl, bk rfl rfl, ⟨congrArg (fun z => some (Blk.box [z] 38)) (lsP_snoc _ _ _), ltb rfl⟩, ⟨by rw [List.length_append]; rfl, ltb rfl⟩, bk rfl rfl, bk rfl rfl, bk rfl rfl, bk rfl rfl, trivial⟩
        ·refine Ex.mk _ (aw_look2 (y := nxtI 2 x) (E := (expI (okI st a b e h0 h1 r0) 1 s0 x 2).1) (id := 1) rfl rfl rfl rfl (shOk_key (by omega) (by omega)) (hE hm).choose_spec) ?_
         refine ifN ?_
         refine ⟨_, _, rfl, rfl, ?_⟩
         refine ifN ?_
         refine Side.mk (by unfold fitsK; kernel_rfl) ?_
         have ek : expI (okI st a b e h0 h1 r0) 1 s0 x (2 + (0 + 1)) = expI (okI st a b e h0 h1 r0) 1 s0 x 2 := (expI_succ 1 s0 x 2).trans (extI_old fun z => hm z.2)
         refine ⟨leb rfl, rfl, by decide, trivial, ⟨wp rfl (ltb rfl), wp rfl (ltb rfl), wp rfl (ltb rfl), wp rfl trivial, wp rfl trivial, wp rfl trivial, ⟨_, rfl, Weak.refl _ _, ⟨trivial, trivial, trivial⟩⟩, wp rfl trivial, trivial⟩, ?_, ⟨⟨_, rfl, under_awB0 _ _ _⟩, trivial⟩⟩
         show Blks _ 10 (awT0 (kC st a b e h0 h1 r0 r1) (fun i => (B (i + 1)).2) (B 0).2 i x .ready (expI (okI st a b e h0 h1 r0) 1 s0 x (2 + (0 + 1))))
         rw [ek]
         exact ⟨bk rfl rfl, bk rfl rfl, bk rfl rfl, bk rfl rfl, bk rfl rfl, bk rfl rfl, bk rfl rfl, bk rfl rfl, bk rfl rfl, bk rfl rfl, trivial⟩
       ·refine ifN ?_
        refine Side.mk (by unfold fitsK; kernel_rfl) ?_
        refine ⟨leb rfl, rfl, by decide, trivial, ⟨wp rfl (ltb rfl), wp rfl (ltb rfl), wp rfl (ltb rfl), wp rfl trivial, wp rfl trivial, wp rfl trivial, ⟨_, rfl, Weak.refl _ _, ⟨trivial, trivial, trivial⟩⟩, wp rfl trivial, trivial⟩, ?_, trivial⟩
        have ek : expI (okI st a b e h0 h1 r0) 1 s0 x (2 + (0 + 1)) = expI (okI st a b e h0 h1 r0) 1 s0 x 2 := (expI_succ 1 s0 x 2).trans (extI_old fun z => p2 z.1.2)
        show Blks _ 10 (awT0 (kC st a b e h0 h1 r0 r1) (fun i => (B (i + 1)).2) (B 0).2 i x .ready (expI (okI st a b e h0 h1 r0) 1 s0 x (2 + (0 + 1))))
        rw [ek]
        exact ⟨bk rfl rfl, bk rfl rfl, bk rfl rfl, bk rfl rfl, bk rfl rfl, bk rfl rfl, bk rfl rfl, bk rfl rfl, bk rfl rfl, bk rfl rfl, trivial⟩
      ·refine ifN ?_
       refine Side.mk (by unfold fitsK; kernel_rfl) ?_
       have ek : expI (okI st a b e h0 h1 r0) 1 s0 x (2 + (0 + 1)) = expI (okI st a b e h0 h1 r0) 1 s0 x 2 := (expI_succ 1 s0 x 2).trans (extI_old fun z => p1 z.1.1)
       refine ⟨leb rfl, rfl, by decide, trivial, ⟨wp rfl (ltb rfl), wp rfl (ltb rfl), wp rfl (ltb rfl), wp rfl trivial, wp rfl trivial, wp rfl trivial, ⟨_, rfl, Weak.refl _ _, ⟨trivial, trivial, trivial⟩⟩, wp rfl trivial, trivial⟩, ?_, trivial⟩
       show Blks _ 10 (awT0 (kC st a b e h0 h1 r0 r1) (fun i => (B (i + 1)).2) (B 0).2 i x .ready (expI (okI st a b e h0 h1 r0) 1 s0 x (2 + (0 + 1))))
       rw [ek]
       exact ⟨bk rfl rfl, bk rfl rfl, bk rfl rfl, bk rfl rfl, bk rfl rfl, bk rfl rfl, bk rfl rfl, bk rfl rfl, bk rfl rfl, bk rfl rfl, trivial⟩
     ·refine If.mk (fun _ => ?_) (fun h => absurd (by decide) h)
      refine ifY ?_
      refine Ex.mk _ rfl ?_
      refine CallG.pure _ (c_turnJ3 hx4.2) ?_
      refine CallG.bool (c_jpose st a b (nxtI 3 x).1 (nxtI 3 x).2) (fun p1 => ?_) (fun p1 => ?_)
      ·have y4 := near p1
       refine CallG.bool (c_jfine hf hs p1) (fun p2 => ?_) (fun p2 => ?_)
       ·refine RoundG.fresh (n0 := 11) (awT0 (kC st a b e h0 h1 r0 r1) (fun i => (B (i + 1)).2) (B 0).2 i x .ready (expI (okI st a b e h0 h1 r0) 1 s0 x 3)) rfl ?_ ?_
        ·exact ⟨bk rfl rfl, bk rfl rfl, bk rfl rfl, bk rfl rfl, bk rfl rfl, bk rfl rfl, bk rfl rfl, bk rfl rfl, bk rfl rfl, bk rfl rfl, trivial⟩
        refine RoundG.introF (m := false) mixed rfl rfl hpar ?_
        refine ⟨rfl, _, rfl, rfl, [(5, .ptr 2 0), (7, .ptr 3 0), (8, .ptr 4 0), (12, eInts (prL (nxtI 3 x)))], awT0 (kC st a b e h0 h1 r0 r1) (fun i => (B (i + 1)).2) (B 0).2 i x .busy (expI (okI st a b e h0 h1 r0) 1 s0 x 3), 11, rfl, ?_, ?_, ?_⟩
        ·exact ⟨⟨_, rfl, Weak.refl _ _⟩, ⟨_, rfl, Weak.refl _ _⟩, ⟨_, rfl, Weak.refl _ _⟩, ⟨_, rfl, Weak.refl _ _⟩, trivial⟩
        ·exact ⟨bk rfl rfl, bk rfl rfl, bk rfl rfl, bk rfl rfl, bk rfl rfl, bk rfl rfl, bk rfl rfl, bk rfl rfl, bk rfl rfl, bk rfl rfl, trivial⟩
        refine CallG.pure _ (c_keyOf (nxtI 3 x).1 (nxtI 3 x).2) ?_
        refine (Classical.em (∀ z ∈ (expI (okI st a b e h0 h1 r0) 1 s0 x 3).1, z.1 ≠ nxtI 3 x)).elim (fun hm => ?_) (fun hm => ?_)
        ·refine Ex.mk _ (aw_none2 (y := nxtI 3 x) (E := (expI (okI st a b e h0 h1 r0) 1 s0 x 3).1) (id := 1) rfl rfl rfl rfl (shOk_key (by omega) (by omega)) (lookD_none.2 hm)) ?_
         refine ifY ?_
         refine CallG.pure _ (c_keyOf (nxtI 3 x).1 (nxtI 3 x).2) ?_
         refine Ex.mk _ (aw_set (y := nxtI 3 x) (E := (expI (okI st a b e h0 h1 r0) 1 s0 x 3).1) (many := 1) (id := 1) (.inl rfl) rfl rfl rfl rfl (shOk_key (by omega) (by omega)) hm) ?_
         refine ex_app _ _ (app_line (by rw [List.length_map, List.length_map]) (by have := hA 3; omega) rfl) ?_
         refine ⟨_, _, rfl, rfl, ?_⟩
         refine ifN ?_
         refine Side.mk (by unfold fitsK; kernel_rfl) ?_
         have ek : expI (okI st a b e h0 h1 r0) 1 s0 x (2 + (1 + 1)) = ((expI (okI st a b e h0 h1 r0) 1 s0 x 3).1 ++ [(nxtI 3 x, 1)], (expI (okI st a b e h0 h1 r0) 1 s0 x 3).2 ++ [nxtI 3 x]) := (expI_succ 1 s0 x 3).trans (extI_new ⟨p1, p2⟩ hm)
         refine ⟨leb rfl, rfl, by decide, trivial, ⟨wp rfl (ltb rfl), wp rfl (ltb rfl), wp rfl (ltb rfl), wp rfl trivial, wp rfl trivial, wp rfl trivial, ⟨_, rfl, Weak.refl _ _, ⟨trivial, trivial, trivial⟩⟩, wp rfl trivial, trivial⟩, ?_, ⟨⟨_, rfl, under_awE _⟩, ⟨_, rfl, ltb rfl, trivial⟩, ⟨_, rfl, trivial, trivial⟩, ⟨_, rfl, ⟨unders_append (unders_map (under_eInts _) _) ⟨under_eInts _ _, trivial⟩, ltb rfl⟩, trivial⟩, ⟨_, rfl, trivial⟩, ⟨_, rfl, under_kC _ _ _ _ _ _ _ _ _⟩, ⟨_, rfl, under_eInts _ _, trivial⟩, ⟨_, rfl, trivial⟩, ⟨_, rfl, under_awB0 _ _ _⟩, trivial⟩⟩
         show Blks _ 10 (awT0 (kC st a b e h0 h1 r0 r1) (fun i => (B (i + 1)).2) (B 0).2 i x .ready (expI (okI st a b e h0 h1 r0) 1 s0 x (2 + (1 + 1))))
         rw [ek]
         exact ⟨bk rfl rfl, bk rfl rfl, bk rfl rfl, bk rfl rfl, ⟨congrArg (fun z => some (Blk.box [z] 38)) (lsP_snoc _ _ _), ltb rfl⟩, ⟨by rw [List.length_append]; rfl, ltb rfl⟩, bk rfl rfl, bk rfl rfl, bk rfl rfl, bk rfl rfl, trivial⟩
        ·refine Ex.mk _ (aw_look2 (y := nxtI 3 x) (E := (expI (okI st a b e h0 h1 r0) 1 s0 x 3).1) (id := 1) rfl rfl rfl rfl (shOk_key (by omega) (by omega)) (hE hm).choose_spec) ?_
         refine ifN ?_
         refine ⟨_, _, rfl, rfl, ?_⟩
         refine ifN ?_
         refine Side.mk (by unfold fitsK; kernel_rfl) ?_
         have ek : expI (okI st a b e h0 h1 r0) 1 s0 x (2 + (1 + 1)) = expI (okI st a b e h0 h1 r0) 1 s0 x 3 := (expI_succ 1 s0 x 3).trans (extI_old fun z => hm z.2)
         refine ⟨leb rfl, rfl, by decide, trivial, ⟨wp rfl (ltb rfl), wp rfl (ltb rfl), wp rfl (ltb rfl), wp rfl trivial, wp rfl trivial, wp rfl trivial, ⟨_, rfl, Weak.refl _ _, ⟨trivial, trivial, trivial⟩⟩, wp rfl trivial, trivial⟩, ?_, ⟨⟨_, rfl, under_awB0 _ _ _⟩, trivial⟩⟩
         show Blks _ 10 (awT0 (kC st a b e h0 h1 r0 r1) (fun i => (B (i + 1)).2) (B 0).2 i x .ready (expI (okI st a b e h0 h1 r0) 1 s0 x (2 + (1 + 1))))
         rw [ek]
         exact ⟨bk rfl rfl, bk rfl rfl, bk rfl rfl, bk rfl rfl, bk rfl rfl, bk rfl rfl, bk rfl rfl, bk rfl rfl, bk rfl rfl, bk rfl rfl, trivial⟩
       ·refine ifN ?_
        refine Side.mk (by unfold fitsK; kernel_rfl) ?_
        refine ⟨leb rfl, rfl, by decide, trivial, ⟨wp rfl (ltb rfl), wp rfl (ltb rfl), wp rfl (ltb rfl), wp rfl trivial, wp rfl trivial, wp rfl trivial, ⟨_, rfl, Weak.refl _ _, ⟨trivial, trivial, trivial⟩⟩, wp rfl trivial, trivial⟩, ?_, trivial⟩
        have ek : expI (okI st a b e h0 h1 r0) 1 s0 x (2 + (1 + 1)) = expI (okI st a b e h0 h1 r0) 1 s0 x 3 := (expI_succ 1 s0 x 3).trans (extI_old fun z => p2 z.1.2)
        show Blks _ 10 (awT0 (kC st a b e h0 h1 r0 r1) (fun i => (B (i + 1)).2) (B 0).2 i x .ready (expI (okI st a b e h0 h1 r0) 1 s0 x (2 + (1 + 1))))
        rw [ek]
        exact ⟨bk rfl rfl, bk rfl rfl, bk rfl rfl, bk rfl rfl, bk rfl rfl, bk rfl rfl, bk rfl rfl, bk rfl rfl, bk rfl rfl, bk rfl rfl, trivial⟩
      ·refine ifN ?_
       refine Side.mk (by unfold fitsK; kernel_rfl) ?_
       have ek : expI (okI st a b e h0 h1 r0) 1 s0 x (2 + (1 + 1)) = expI (okI st a b e h0 h1 r0) 1 s0 x 3 := (expI_succ 1 s0 x 3).trans (extI_old fun z => p1 z.1.1)
       refine ⟨leb rfl, rfl, by decide, trivial, ⟨wp rfl (ltb rfl), wp rfl (ltb rfl), wp rfl (ltb rfl), wp rfl trivial, wp rfl trivial, wp rfl trivial, ⟨_, rfl, Weak.refl _ _, ⟨trivial, trivial, trivial⟩⟩, wp rfl trivial, trivial⟩, ?_, trivial⟩
       show Blks _ 10 (awT0 (kC st a b e h0 h1 r0 r1) (fun i => (B (i + 1)).2) (B 0).2 i x .ready (expI (okI st a b e h0 h1 r0) 1 s0 x (2 + (1 + 1))))
       rw [ek]
       exact ⟨bk rfl rfl, bk rfl rfl, bk rfl rfl, bk rfl rfl, bk rfl rfl, bk rfl rfl, bk rfl rfl, bk rfl rfl, bk rfl rfl, bk rfl rfl, trivial⟩
     ·refine If.mk (fun h => absurd h (by decide)) (fun _ => ?_)
      refine ifN ?_
      refine ⟨leb rfl, ?_⟩
      refine Side.mk (by unfold fitsK; kernel_rfl) ?_
      exact ⟨leb rfl, rfl, by decide, trivial, ⟨wp rfl (ltb rfl), wp rfl (ltb rfl), wp rfl (ltb rfl), wp rfl trivial, wp rfl trivial, trivial⟩, ⟨bk rfl rfl, bk rfl rfl, bk rfl rfl, bk rfl rfl, bk rfl rfl, bk rfl rfl, bk rfl rfl, bk rfl rfl, bk rfl rfl, bk rfl rfl, trivial⟩, ⟨⟨_, rfl, under_awE _⟩, ⟨_, rfl, ltb rfl, trivial⟩, ⟨_, rfl, trivial, trivial⟩, ⟨_, rfl, under_lsP _ (ltb rfl), trivial⟩, ⟨_, rfl, trivial⟩, ⟨_, rfl, under_kC _ _ _ _ _ _ _ _ _⟩, ⟨_, rfl, under_eInts _ _, trivial⟩, ⟨_, rfl, trivial⟩, ⟨_, rfl, under_awB0 _ _ _⟩, trivial⟩⟩
   ·refine If.mk (fun h => absurd h (by decide)) (fun _ => ?_)
    refine ifN ?_
    refine ⟨leb rfl, .inl ⟨.inr rfl, _, rfl, rfl, ?_⟩⟩
    refine ⟨_, _, rfl, (fun e => by cases e), rfl, ?_⟩
    refine Side.mk (fits64 (by omega)) ?_
    have en : rowI (okI st a b e h0 h1 r0) 1 ((B 0).1, []) ((B 0).2.take (i + 1)) = expI (okI st a b e h0 h1 r0) 1 s0 x 4 := by rw [etk, rowI_snoc, ← hs0]
    refine ⟨leb rfl, rfl, hi', trivial, ⟨wp rfl (ltb rfl), wp rfl (ltb rfl), wp rfl (ltb rfl), wp rfl (ltb rfl), ⟨_, rfl, Weak.refl _ _, under_eLists _ _⟩, wp rfl trivial, ⟨_, rfl, Weak.of_eq (congrArg n' (by omega)), trivial⟩, trivial⟩, ?_, ⟨⟨_, rfl, under_awE _⟩, ⟨_, rfl, ltb rfl, trivial⟩, ⟨_, rfl, trivial, trivial⟩, ⟨_, rfl, under_lsP _ (ltb rfl), trivial⟩, ⟨_, rfl, trivial⟩, trivial⟩⟩
    refine ⟨bk rfl rfl, ⟨?_, ltb rfl⟩, bk rfl rfl, bk rfl rfl, ⟨?_, ltb rfl⟩, ⟨?_, ltb rfl⟩, trivial⟩
    ·rw [en]; rfl
    ·rw [en]; rfl
    ·rw [en]; rfl
 refine ifN ?_
 obtain rfl : i = (B 0).2.length := by
  have : ¬ (i : Int) < ((B 0).2.length : Nat) := g2
  omega
 refine ⟨leb rfl, ?_⟩
 refine Side.mk (by unfold fitsK; kernel_rfl) ?_
 have eB1 : B 1 = rowI (okI st a b e h0 h1 r0) 1 ((B 0).1, []) ((B 0).2.take (B 0).2.length) := by rw [List.take_length]; exact hBs 0
 refine LoopG.fresh (n0 := 7) [(2, .ptr 0 0), (5, .ptr 2 0), (6, ePoses (B 1).2), (7, .ptr 6 0)] [(0, kBox st a b e h0 h1 r0 r1), (1, .map (.arr 5) (kE (awE (B 1).1))), (2, .box [.mp 1] 111), (3, .box [n' 1] 3), (4, .box [lsP 5 (B 1).2] 38), (5, .row (B 1).2.length), (6, .box [n' 2] 3)] rfl ?_ ?_ ?_
 ·exact ⟨⟨_, rfl, Weak.refl _ _⟩, ⟨_, rfl, Weak.refl _ _⟩, ⟨_, rfl, by rw [eB1]; exact wk_lsP 5 _⟩, ⟨_, rfl, Weak.refl _ _⟩, trivial⟩
 ·exact ⟨bk rfl rfl, ⟨by rw [eB1]; rfl, ltb rfl⟩, bk rfl rfl, bk rfl rfl, ⟨by rw [eB1]; rfl, ltb rfl⟩, ⟨by rw [eB1]; rfl, ltb rfl⟩, bk rfl rfl, trivial⟩
 refine LoopG.round mixed (m := false) ?_
 refine If.mk (fun g => ?_) (fun g => ?_)
 rotate_left
 ·refine ifN ?_
  exact ⟨.inl rfl, rfl, 1, _, rfl, rfl, lits _, congrArg (fun s : AwS => kE (awE s.1)) (hBe (nul g) 3).symm⟩
 refine ifY ?_
 refine LoopG.ghost (LoopG.at (n0 := 9) rfl (LoopG.box 7 [.sl 0 [] (.own 8 0 1)] 1 (leb rfl) (leb rfl) rfl (.cons (Weak.own (r := 8) (g := 0) 1 rfl) (.nil _)) ?_))
 refine loop_up mixed (m := false) (fun i => [(2, .ptr 0 0), (5, .ptr 2 0), (7, .ptr 6 0), (8, .ptr 7 0), (26, ePoses (B 1).2), (27, n' (B 1).2.length), (28, n' (i : Nat))])
  (fun i => [(0, kBox st a b e h0 h1 r0 r1), (1, .map (.arr 5) (kE (awE (rowI (okI st a b e h0 h1 r0) 2 ((B 1).1, []) ((B 1).2.take i)).1))), (2, .box [.mp 1] 111), (3, .box [n' 1] 3), (4, .box [lsP 5 (B 1).2] 38), (5, .row (B 1).2.length), (6, .box [n' 2] 3), (7, .box [lsP 8 (rowI (okI st a b e h0 h1 r0) 2 ((B 1).1, []) ((B 1).2.take i)).2] 38), (8, .row (rowI (okI st a b e h0 h1 r0) 2 ((B 1).1, []) ((B 1).2.take i)).2.length)]) (fun _ => True) (B 1).2.length 1 (leb rfl) trivial ?_ ?_ ?_
 ·exact ⟨wp rfl (ltb rfl), wp rfl (ltb rfl), wp rfl (ltb rfl), wp rfl (ltb rfl), ⟨_, rfl, Weak.refl _ _, under_eLists _ _⟩, ⟨_, rfl, Weak.of_eq (congrArg n' (by rw [poses_len])), trivial⟩, wp rfl trivial, trivial⟩
 ·exact ⟨bk rfl rfl, bk rfl rfl, bk rfl rfl, bk rfl rfl, bk rfl rfl, bk rfl rfl, bk rfl rfl, bk rfl rfl, bk rfl rfl, trivial⟩
 intro i hi _
 refine If.mk (fun g2 => ?_) (fun g2 => ?_)
 ·refine ifY ?_
  have hi' : i < (B 1).2.length := by
   have : (i : Int) < ((B 1).2.length : Nat) := g2
   omega
  obtain ⟨x, hx, etk, hxm⟩ := at_some (l := (B 1).2) (r := i) hi'
  have hx4 := near (hBok 1 x hxm).1
  refine Ex.mk _ (jx_lists (r := i) rfl (poses_at hx)) ?_
  refine Ex.mk _ rfl ?_
  refine CallG.inlineP (m := false) (fn := Tryz.f50) (c := (Tryz.f50.body).getD .skip) mixed (by kernel_rfl) (by kernel_rfl) (of_decide_eq_true (by kernel_rfl)) ?_
  refine .inl ⟨.inl rfl, _, rfl, rfl, ?_⟩
  obtain ⟨s0, hs0⟩ : ∃ s0, s0 = rowI (okI st a b e h0 h1 r0) 2 ((B 1).1, []) ((B 1).2.take i) := ⟨_, rfl⟩
  have hA : ∀ r, (expI (okI st a b e h0 h1 r0) 2 s0 x r).2.length ≤ 4 * i + r := fun r => by
   have q1 := exp_len (ok := okI st a b e h0 h1 r0) 2 s0 x r
   have q2 := row_len (ok := okI st a b e h0 h1 r0) 2 ((B 1).2.take i) ((B 1).1, [])
   rw [← hs0, List.length_take] at q2
   have q3 : (((B 1).1, ([] : List PoseD)) : AwS).2.length = 0 := rfl
   omega
  have hi4 : i ≤ 256 := Nat.le_trans hi (Nat.le_trans (hBl 1) (by decide))
  refine RangeG.fresh (n0 := 11) (awS1 (B 1).2 i) ((awT1 (kC st a b e h0 h1 r0 r1) (fun i => (B (i + 1)).2) (B 1).2 i x .ready s0).take 11) rfl ?_ ?_ ?_
  ·exact ⟨⟨_, rfl, Weak.refl _ _⟩, ⟨_, rfl, Weak.refl _ _⟩, ⟨_, rfl, Weak.refl _ _⟩, ⟨_, rfl, Weak.refl _ _⟩, ⟨_, rfl, Weak.refl _ _⟩, ⟨_, rfl, Weak.refl _ _⟩, ⟨_, rfl, Weak.refl _ _⟩, ⟨_, rfl, Weak.refl _ _⟩, trivial⟩
  ·rw [hs0]; exact ⟨bk rfl rfl, bk rfl rfl, bk rfl rfl, bk rfl rfl, bk rfl rfl, bk rfl rfl, bk rfl rfl, bk rfl rfl, bk rfl rfl, bk rfl rfl, bk rfl rfl, trivial⟩
  refine RangeG.outer (f := 101) (first := []) (captured := [.ptr 9 0, .ptr 10 0]) rfl rfl rfl ?_
  refine CallG.inlineP (m := false) (fn := Tryz.f101) (c := (Tryz.f101.body).getD .skip) mixed (by kernel_rfl) (by kernel_rfl) (of_decide_eq_true (by kernel_rfl)) ?_
  refine LoopG.at (n0 := 13) rfl (loop_up mixed (m := false) (fun l => [(0, .yld 12), (1, .ptr 9 0), (2, .ptr 10 0), (12, n' 2), (13, n' (l : Nat))])
   (fun l => awT1 (kC st a b e h0 h1 r0 r1) (fun i => (B (i + 1)).2) (B 1).2 i x .ready (expI (okI st a b e h0 h1 r0) 2 s0 x (2 * l))) (fun _ => True) 2 1 (leb rfl) trivial ?_ ?_ ?_)
  ·exact ⟨wp rfl (ltb rfl), wp rfl (ltb rfl), wp rfl (ltb rfl), wp rfl trivial, wp rfl trivial, trivial⟩
  ·exact ⟨bk rfl rfl, bk rfl rfl, bk rfl rfl, bk rfl rfl, bk rfl rfl, bk rfl rfl, bk rfl rfl, bk rfl rfl, bk rfl rfl, bk rfl rfl, bk rfl rfl, bk rfl rfl, bk rfl rfl, trivial⟩
  ·intro l hl _
   have hl3 : l = 0 ∨ l = 1 ∨ l = 2 := by omega
   rcases hl3 with rfl | rfl | rfl
   ·refine If.mk (fun _ => ?_) (fun h => absurd (by decide) h)
    refine ifY ?_
    refine LoopG.at (n0 := 13) rfl (loop_up mixed (m := false) (fun r => [(0, .yld 12), (1, .ptr 9 0), (2, .ptr 10 0), (4, n' (0 : Nat)), (12, n' 2), (13, n' (0 : Nat)), (16, .agg [n' (-1), n' 1]), (17, n' (r : Nat))])
     (fun r => awT1 (kC st a b e h0 h1 r0 r1) (fun i => (B (i + 1)).2) (B 1).2 i x .ready (expI (okI st a b e h0 h1 r0) 2 s0 x (0 + r))) (fun _ => True) 2 1 (leb rfl) trivial ?_ ?_ ?_)
    ·exact ⟨wp rfl (ltb rfl), wp rfl (ltb rfl), wp rfl (ltb rfl), wp rfl trivial, wp rfl trivial, wp rfl trivial, ⟨_, rfl, Weak.refl _ _, ⟨trivial, trivial, trivial⟩⟩, wp rfl trivial, trivial⟩
    ·exact ⟨bk rfl rfl, bk rfl rfl, bk rfl rfl, bk rfl rfl, bk rfl rfl, bk rfl rfl, bk rfl rfl, bk rfl rfl, bk rfl rfl, bk rfl rfl, bk rfl rfl, bk rfl rfl, bk rfl rfl, trivial⟩
    ·intro r hr _
     have hr3 : r = 0 ∨ r = 1 ∨ r = 2 := by omega
     rcases hr3 with rfl | rfl | rfl
     ·refine If.mk (fun _ => ?_) (fun h => absurd (by decide) h)
      refine ifY ?_
      refine Ex.mk _ rfl ?_
      refine CallG.pure _ (c_turnJ0 hx4.1) ?_
      refine CallG.bool (c_jpose st a b (nxtI 0 x).1 (nxtI 0 x).2) (fun p1 => ?_) (fun p1 => ?_)
      ·have y4 := near p1
       refine CallG.bool (c_jfine hf hs p1) (fun p2 => ?_) (fun p2 => ?_)
       ·refine RoundG.fresh (n0 := 14) (awT1 (kC st a b e h0 h1 r0 r1) (fun i => (B (i + 1)).2) (B 1).2 i x .ready (expI (okI st a b e h0 h1 r0) 2 s0 x 0)) rfl ?_ ?_
        ·exact ⟨bk rfl rfl, bk rfl rfl, bk rfl rfl, bk rfl rfl, bk rfl rfl, bk rfl rfl, bk rfl rfl, bk rfl rfl, bk rfl rfl, bk rfl rfl, bk rfl rfl, bk rfl rfl, bk rfl rfl, trivial⟩
        refine RoundG.introF (m := false) mixed rfl rfl hpar ?_
        refine ⟨rfl, _, rfl, rfl, [(5, .ptr 2 0), (7, .ptr 6 0), (8, .ptr 7 0), (12, eInts (prL (nxtI 0 x)))], awT1 (kC st a b e h0 h1 r0 r1) (fun i => (B (i + 1)).2) (B 1).2 i x .busy (expI (okI st a b e h0 h1 r0) 2 s0 x 0), 14, rfl, ?_, ?_, ?_⟩
        ·exact ⟨⟨_, rfl, Weak.refl _ _⟩, ⟨_, rfl, Weak.refl _ _⟩, ⟨_, rfl, Weak.refl _ _⟩, ⟨_, rfl, Weak.refl _ _⟩, trivial⟩
        ·exact ⟨bk rfl rfl, bk rfl rfl, bk rfl rfl, bk rfl rfl, bk rfl rfl, bk rfl rfl, bk rfl rfl, bk rfl rfl, bk rfl rfl, bk rfl rfl, bk rfl rfl, bk rfl rfl, bk rfl rfl, trivial⟩
        refine CallG.pure _ (c_keyOf (nxtI 0 x).1 (nxtI 0 x).2) ?_
        refine (Classical.em (∀ z ∈ (expI (okI st a b e h0 h1 r0) 2 s0 x 0).1, z.1 ≠ nxtI 0 x)).elim (fun hm => ?_) (fun hm => ?_)
        ·refine Ex.mk _ (aw_none2 (y := nxtI 0 x) (E := (expI (okI st a b e h0 h1 r0) 2 s0 x 0).1) (id := 1) rfl rfl rfl rfl (shOk_key (by omega) (by omega)) (lookD_none.2 hm)) ?_
         refine ifY ?_
         refine CallG.pure _ (c_keyOf (nxtI 0 x).1 (nxtI 0 x).2) ?_
         refine Ex.mk _ (aw_set (y := nxtI 0 x) (E := (expI (okI st a b e h0 h1 r0) 2 s0 x 0).1) (many := 2) (id := 1) (.inl rfl) rfl rfl rfl rfl (shOk_key (by omega) (by omega)) hm) ?_
         refine ex_app _ _ (app_line (by rw [List.length_map, List.length_map]) (by have := hA 0; omega) rfl) ?_
         refine ⟨_, _, rfl, rfl, ?_⟩
         refine ifN ?_
         refine Side.mk (by unfold fitsK; kernel_rfl) ?_
         have ek : expI (okI st a b e h0 h1 r0) 2 s0 x (0 + (0 + 1)) = ((expI (okI st a b e h0 h1 r0) 2 s0 x 0).1 ++ [(nxtI 0 x, 2)], (expI (okI st a b e h0 h1 r0) 2 s0 x 0).2 ++ [nxtI 0 x]) := (expI_succ 2 s0 x 0).trans (extI_new ⟨p1, p2⟩ hm)
         refine ⟨leb rfl, rfl, by decide, trivial, ⟨wp rfl (ltb rfl), wp rfl (ltb rfl), wp rfl (ltb rfl), wp rfl trivial, wp rfl trivial, wp rfl trivial, ⟨_, rfl, Weak.refl _ _, ⟨trivial, trivial, trivial⟩⟩, wp rfl trivial, trivial⟩, ?_, ⟨⟨_, rfl, under_awE _⟩, ⟨_, rfl, ltb rfl, trivial⟩, ⟨_, rfl, trivial, trivial⟩, ⟨_, rfl, under_lsP _ (ltb rfl), trivial⟩, ⟨_, rfl, trivial⟩, ⟨_, rfl, trivial, trivial⟩, ⟨_, rfl, ⟨unders_append (unders_map (under_eInts _) _) ⟨under_eInts _ _, trivial⟩, ltb rfl⟩, trivial⟩, ⟨_, rfl, trivial⟩, ⟨_, rfl, under_kC _ _ _ _ _ _ _ _ _⟩, ⟨_, rfl, under_eInts _ _, trivial⟩, ⟨_, rfl, trivial⟩, ⟨_, rfl, under_awB1 _ _ _⟩, trivial⟩⟩
         show Blks _ 13 (awT1 (kC st a b e h0 h1 r0 r1) (fun i => (B (i + 1)).2) (B 1).2 i x .ready (expI (okI st a b e h0 h1 r0) 2 s0 x (0 + (0 + 1))))
         rw [ek]
         exact ⟨bk rfl rfl, bk rfl rfl, bk rfl rfl, bk rfl rfl, bk rfl rfl, bk rfl rfl, bk rfl rfl, ⟨congrArg (fun z => some (Blk.box [z] 38)) (lsP_snoc _ _ _), ltb rfl⟩, ⟨by rw [List.length_append]; rfl, ltb rfl⟩, bk rfl rfl, bk rfl rfl, bk rfl rfl, bk rfl rfl, trivial⟩
        ·refine Ex.mk _ (aw_look2 (y := nxtI 0 x) (E := (expI (okI st a b e h0 h1 r0) 2 s0 x 0).1) (id := 1) rfl rfl rfl rfl (shOk_key (by omega) (by omega)) (hE hm).choose_spec) ?_
         refine ifN ?_
         refine ⟨_, _, rfl, rfl, ?_⟩
         refine ifN ?_
         refine Side.mk (by unfold fitsK; kernel_rfl) ?_
         have ek : expI (okI st a b e h0 h1 r0) 2 s0 x (0 + (0 + 1)) = expI (okI st a b e h0 h1 r0) 2 s0 x 0 := (expI_succ 2 s0 x 0).trans (extI_old fun z => hm z.2)
         refine ⟨leb rfl, rfl, by decide, trivial, ⟨wp rfl (ltb rfl), wp rfl (ltb rfl), wp rfl (ltb rfl), wp rfl trivial, wp rfl trivial, wp rfl trivial, ⟨_, rfl, Weak.refl _ _, ⟨trivial, trivial, trivial⟩⟩, wp rfl trivial, trivial⟩, ?_, ⟨⟨_, rfl, under_awB1 _ _ _⟩, trivial⟩⟩
         show Blks _ 13 (awT1 (kC st a b e h0 h1 r0 r1) (fun i => (B (i + 1)).2) (B 1).2 i x .ready (expI (okI st a b e h0 h1 r0) 2 s0 x (0 + (0 + 1))))
         rw [ek]
         exact ⟨bk rfl rfl, bk rfl rfl, bk rfl rfl, bk rfl rfl, bk rfl rfl, bk rfl rfl, bk rfl rfl, bk rfl rfl, bk rfl rfl, bk rfl rfl, bk rfl rfl, bk rfl rfl, bk rfl rfl, trivial⟩
       ·refine ifN ?_
        refine Side.mk (by unfold fitsK; kernel_rfl) ?_
        refine ⟨leb rfl, rfl, by decide, trivial, ⟨wp rfl (ltb rfl), wp rfl (ltb rfl), wp rfl (ltb rfl), wp rfl trivial, wp rfl trivial, wp rfl trivial, ⟨_, rfl, Weak.refl _ _, ⟨trivial, trivial, trivial⟩⟩, wp rfl trivial, trivial⟩, ?_, trivial⟩
        have ek : expI (okI st a b e h0 h1 r0) 2 s0 x (0 + (0 + 1)) = expI (okI st a b e h0 h1 r0) 2 s0 x 0 := (expI_succ 2 s0 x 0).trans (extI_old fun z => p2 z.1.2)
        show Blks _ 13 (awT1 (kC st a b e h0 h1 r0 r1) (fun i => (B (i + 1)).2) (B 1).2 i x .ready (expI (okI st a b e h0 h1 r0) 2 s0 x (0 + (0 + 1))))
        rw [ek]
        exact ⟨bk rfl rfl, bk rfl rfl, bk rfl rfl, bk rfl rfl, bk rfl rfl, bk rfl rfl, bk rfl rfl, bk rfl rfl, bk rfl rfl, bk rfl rfl, bk rfl rfl, bk rfl rfl, bk rfl rfl, trivial⟩
      ·refine ifN ?_
       refine Side.mk (by unfold fitsK; kernel_rfl) ?_
       have ek : expI (okI st a b e h0 h1 r0) 2 s0 x (0 + (0 + 1)) = expI (okI st a b e h0 h1 r0) 2 s0 x 0 := (expI_succ 2 s0 x 0).trans (extI_old fun z => p1 z.1.1)
       refine ⟨leb rfl, rfl, by decide, trivial, ⟨wp rfl (ltb rfl), wp rfl (ltb rfl), wp rfl (ltb rfl), wp rfl trivial, wp rfl trivial, wp rfl trivial, ⟨_, rfl, Weak.refl _ _, ⟨trivial, trivial, trivial⟩⟩, wp rfl trivial, trivial⟩, ?_, trivial⟩
       show Blks _ 13 (awT1 (kC st a b e h0 h1 r0 r1) (fun i => (B (i + 1)).2) (B 1).2 i x .ready (expI (okI st a b e h0 h1 r0) 2 s0 x (0 + (0 + 1))))
       rw [ek]
       exact ⟨bk rfl rfl, bk rfl rfl, bk rfl rfl, bk rfl rfl, bk rfl rfl, bk rfl rfl, bk rfl rfl, bk rfl rfl, bk rfl rfl, bk rfl rfl, bk rfl rfl, bk rfl rfl, bk rfl rfl, trivial⟩
     ·refine If.mk (fun _ => ?_) (fun h => absurd (by decide) h)
      refine ifY ?_
      refine Ex.mk _ rfl ?_
      refine CallG.pure _ (c_turnJ1 hx4.1) ?_
      refine CallG.bool (c_jpose st a b (nxtI 1 x).1 (nxtI 1 x).2) (fun p1 => ?_) (fun p1 => ?_)
      ·have y4 := near p1
       refine CallG.bool (c_jfine hf hs p1) (fun p2 => ?_) (fun p2 => ?_)
       ·refine RoundG.fresh (n0 := 14) (awT1 (kC st a b e h0 h1 r0 r1) (fun i => (B (i + 1)).2) (B 1).2 i x .ready (expI (okI st a b e h0 h1 r0) 2 s0 x 1)) rfl ?_ ?_
        ·exact ⟨bk rfl rfl, bk rfl rfl, bk rfl rfl, bk rfl rfl, bk rfl rfl, bk rfl rfl, bk rfl rfl, bk rfl rfl, bk rfl rfl, bk rfl rfl, bk rfl rfl, bk rfl rfl, bk rfl rfl, trivial⟩
        refine RoundG.introF (m := false) mixed rfl rfl hpar ?_
        refine ⟨rfl, _, rfl, rfl, [(5, .ptr 2 0), (7, .ptr 6 0), (8, .ptr 7 0), (12, eInts (prL (nxtI 1 x)))], awT1 (kC st a b e h0 h1 r0 r1) (fun i => (B (i + 1)).2) (B 1).2 i x .busy (expI (okI st a b e h0 h1 r0) 2 s0 x 1), 14, rfl, ?_, ?_, ?_⟩
        ·exact ⟨⟨_, rfl, Weak.refl _ _⟩, ⟨_, rfl, Weak.refl _ _⟩, ⟨_, rfl, Weak.refl _ _⟩, ⟨_, rfl, Weak.refl _ _⟩, trivial⟩
        ·exact ⟨bk rfl rfl, bk rfl rfl, bk rfl rfl, bk rfl rfl, bk rfl rfl, bk rfl rfl, bk rfl rfl, bk rfl rfl, bk rfl rfl, bk rfl rfl, bk rfl rfl, bk rfl rfl, bk rfl rfl, trivial⟩
        refine CallG.pure _ (c_keyOf (nxtI 1 x).1 (nxtI 1 x).2) ?_
        refine (Classical.em (∀ z ∈ (expI (okI st a b e h0 h1 r0) 2 s0 x 1).1, z.1 ≠ nxtI 1 x)).elim (fun hm => ?_) (fun hm => ?_)
        ·refine Ex.mk _ (aw_none2 (y := nxtI 1 x) (E := (expI (okI st a b e h0 h1 r0) 2 s0 x 1).1) (id := 1) rfl rfl rfl rfl (shOk_key (by omega) (by omega)) (lookD_none.2 hm)) ?_
         refine ifY ?_
         refine CallG.pure _ (c_keyOf (nxtI 1 x).1 (nxtI 1 x).2) ?_
         refine Ex.mk _ (aw_set (y := nxtI 1 x) (E := (expI (okI st a b e h0 h1 r0) 2 s0 x 1).1) (many := 2) (id := 1) (.inl rfl) rfl rfl rfl rfl (shOk_key (by omega) (by omega)) hm) ?_
         refine ex_app _ _ (app_line (by rw [List.length_map, List.length_map]) (by have := hA 1; omega) rfl) ?_
         refine ⟨_, _, rfl, rfl, ?_⟩
         refine ifN ?_
         refine Side.mk (by unfold fitsK; kernel_rfl) ?_
         have ek : expI (okI st a b e h0 h1 r0) 2 s0 x (0 + (1 + 1)) = ((expI (okI st a b e h0 h1 r0) 2 s0 x 1).1 ++ [(nxtI 1 x, 2)], (expI (okI st a b e h0 h1 r0) 2 s0 x 1).2 ++ [nxtI 1 x]) := (expI_succ 2 s0 x 1).trans (extI_new ⟨p1, p2⟩ hm)
         refine ⟨leb rfl, rfl, by decide, trivial, ⟨wp rfl (ltb rfl), wp rfl (ltb rfl), wp rfl (ltb rfl), wp rfl trivial, wp rfl trivial, wp rfl trivial, ⟨_, rfl, Weak.refl _ _, ⟨trivial, trivial, trivial⟩⟩, wp rfl trivial, trivial⟩, ?_, ⟨⟨_, rfl, under_awE _⟩, ⟨_, rfl, ltb rfl, trivial⟩, ⟨_, rfl, trivial, trivial⟩, ⟨_, rfl, under_lsP _ (ltb rfl), trivial⟩, ⟨_, rfl, trivial⟩, ⟨_, rfl, trivial, trivial⟩, ⟨_, rfl, ⟨unders_append (unders_map (under_eInts _) _) ⟨under_eInts _ _, trivial⟩, ltb rfl⟩, trivial⟩, ⟨_, rfl, trivial⟩, ⟨_, rfl, under_kC _ _ _ _ _ _ _ _ _⟩, ⟨_, rfl, under_eInts _ _, trivial⟩, ⟨_, rfl, trivial⟩, ⟨_, rfl, under_awB1 _ _ _⟩, trivial⟩⟩
         show Blks _ 13 (awT1 (kC st a b e h0 h1 r0 r1) (fun i => (B (i + 1)).2) (B 1).2 i x .ready (expI (okI st a b e h0 h1 r0) 2 s0 x (0 + (1 + 1))))
         rw [ek]
         exact ⟨bk rfl rfl, bk rfl rfl, bk rfl rfl, bk rfl rfl, bk rfl rfl, bk rfl rfl, bk rfl rfl, ⟨congrArg (fun z => some (Blk.box [z] 38)) (lsP_snoc _ _ _), ltb rfl⟩, ⟨by rw [List.length_append]; rfl, ltb rfl⟩, bk rfl rfl, bk rfl rfl, bk rfl rfl, bk rfl rfl, trivial⟩
        ·refine Ex.mk _ (aw_look2 (y := nxtI 1 x) (E := (expI (okI st a b e h0 h1 r0) 2 s0 x 1).1) (id := 1) rfl rfl rfl rfl (shOk_key (by omega) (by omega)) (hE hm).choose_spec) ?_
         refine ifN ?_
         refine ⟨_, _, rfl, rfl, ?_⟩
         refine ifN ?_
         refine Side.mk (by unfold fitsK; kernel_rfl) ?_
         have ek : expI (okI st a b e h0 h1 r0) 2 s0 x (0 + (1 + 1)) = expI (okI st a b e h0 h1 r0) 2 s0 x 1 := (expI_succ 2 s0 x 1).trans (extI_old fun z => hm z.2)
         refine ⟨leb rfl, rfl, by decide, trivial, ⟨wp rfl (ltb rfl), wp rfl (ltb rfl), wp rfl (ltb rfl), wp rfl trivial, wp rfl trivial, wp rfl trivial, ⟨_, rfl, Weak.refl _ _, ⟨trivial, trivial, trivial⟩⟩, wp rfl trivial, trivial⟩, ?_, ⟨⟨_, rfl, under_awB1 _ _ _⟩, trivial⟩⟩
         show Blks _ 13 (awT1 (kC st a b e h0 h1 r0 r1) (fun i => (B (i + 1)).2) (B 1).2 i x .ready (expI (okI st a b e h0 h1 r0) 2 s0 x (0 + (1 + 1))))
         rw [ek]
         exact ⟨bk rfl rfl, bk rfl rfl, bk rfl rfl, bk rfl rfl, bk rfl rfl, bk rfl rfl, bk rfl rfl, bk rfl rfl, bk rfl rfl, bk rfl rfl, bk rfl rfl, bk rfl rfl, bk rfl rfl, trivial⟩
       ·refine ifN ?_
        refine Side.mk (by unfold fitsK; kernel_rfl) ?_
        refine ⟨leb rfl, rfl, by decide, trivial, ⟨wp rfl (ltb rfl), wp rfl (ltb rfl), wp rfl (ltb rfl), wp rfl trivial, wp rfl trivial, wp rfl trivial, ⟨_, rfl, Weak.refl _ _, ⟨trivial, trivial, trivial⟩⟩, wp rfl trivial, trivial⟩, ?_, trivial⟩
        have ek : expI (okI st a b e h0 h1 r0) 2 s0 x (0 + (1 + 1)) = expI (okI st a b e h0 h1 r0) 2 s0 x 1 := (expI_succ 2 s0 x 1).trans (extI_old fun z => p2 z.1.2)
        show Blks _ 13 (awT1 (kC st a b e h0 h1 r0 r1) (fun i => (B (i + 1)).2) (B 1).2 i x .ready (expI (okI st a b e h0 h1 r0) 2 s0 x (0 + (1 + 1))))
        rw [ek]
        exact ⟨bk rfl rfl, bk rfl rfl, bk rfl rfl, bk rfl rfl, bk rfl rfl, bk rfl rfl, bk rfl rfl, bk rfl rfl, bk rfl rfl, bk rfl rfl, bk rfl rfl, bk rfl rfl, bk rfl rfl, trivial⟩
      ·refine ifN ?_
       refine Side.mk (by unfold fitsK; kernel_rfl) ?_
       have ek : expI (okI st a b e h0 h1 r0) 2 s0 x (0 + (1 + 1)) = expI (okI st a b e h0 h1 r0) 2 s0 x 1 := (expI_succ 2 s0 x 1).trans (extI_old fun z => p1 z.1.1)
       refine ⟨leb rfl, rfl, by decide, trivial, ⟨wp rfl (ltb rfl), wp rfl (ltb rfl), wp rfl (ltb rfl), wp rfl trivial, wp rfl trivial, wp rfl trivial, ⟨_, rfl, Weak.refl _ _, ⟨trivial, trivial, trivial⟩⟩, wp rfl trivial, trivial⟩, ?_, trivial⟩
       show Blks _ 13 (awT1 (kC st a b e h0 h1 r0 r1) (fun i => (B (i + 1)).2) (B 1).2 i x .ready (expI (okI st a b e h0 h1 r0) 2 s0 x (0 + (1 + 1))))
       rw [ek]
       exact ⟨bk rfl rfl, bk rfl rfl, bk rfl rfl, bk rfl rfl, bk rfl rfl, bk rfl rfl, bk rfl rfl, bk rfl rfl, bk rfl rfl, bk rfl rfl, bk rfl rfl, bk rfl rfl, bk rfl rfl, trivial⟩
     ·refine If.mk (fun h => absurd h (by decide)) (fun _ => ?_)
      refine ifN ?_
      refine ⟨leb rfl, ?_⟩
      refine Side.mk (by unfold fitsK; kernel_rfl) ?_
      exact ⟨leb rfl, rfl, by decide, trivial, ⟨wp rfl (ltb rfl), wp rfl (ltb rfl), wp rfl (ltb rfl), wp rfl trivial, wp rfl trivial, trivial⟩, ⟨bk rfl rfl, bk rfl rfl, bk rfl rfl, bk rfl rfl, bk rfl rfl, bk rfl rfl, bk rfl rfl, bk rfl rfl, bk rfl rfl, bk rfl rfl, bk rfl rfl, bk rfl rfl, bk rfl rfl, trivial⟩, ⟨⟨_, rfl, under_awE _⟩, ⟨_, rfl, ltb rfl, trivial⟩, ⟨_, rfl, trivial, trivial⟩, ⟨_, rfl, under_lsP _ (ltb rfl), trivial⟩, ⟨_, rfl, trivial⟩, ⟨_, rfl, trivial, trivial⟩, ⟨_, rfl, under_lsP _ (ltb rfl), trivial⟩, ⟨_, rfl, trivial⟩, ⟨_, rfl, under_kC _ _ _ _ _ _ _ _ _⟩, ⟨_, rfl, under_eInts _ _, trivial⟩, ⟨_, rfl, trivial⟩, ⟨_, rfl, under_awB1 _ _ _⟩, trivial⟩⟩
   ·refine If.mk (fun _ => ?_) (fun h => absurd (by decide) h)
    refine ifY ?_
    refine LoopG.at (n0 := 13) rfl (loop_up mixed (m := false) (fun r => [(0, .yld 12), (1, .ptr 9 0), (2, .ptr 10 0), (4, n' (1 : Nat)), (12, n' 2), (13, n' (1 : Nat)), (16, .agg [n' (-1), n' 1]), (17, n' (r : Nat))])
     (fun r => awT1 (kC st a b e h0 h1 r0 r1) (fun i => (B (i + 1)).2) (B 1).2 i x .ready (expI (okI st a b e h0 h1 r0) 2 s0 x (2 + r))) (fun _ => True) 2 1 (leb rfl) trivial ?_ ?_ ?_)
    ·exact ⟨wp rfl (ltb rfl), wp rfl (ltb rfl), wp rfl (ltb rfl), wp rfl trivial, wp rfl trivial, wp rfl trivial, ⟨_, rfl, Weak.refl _ _, ⟨trivial, trivial, trivial⟩⟩, wp rfl trivial, trivial⟩
    ·exact ⟨bk rfl rfl, bk rfl rfl, bk rfl rfl, bk rfl rfl, bk rfl rfl, bk rfl rfl, bk rfl rfl, bk rfl rfl, bk rfl rfl, bk rfl rfl, bk rfl rfl, bk rfl rfl, bk rfl rfl, trivial⟩
    ·intro r hr _
     have hr3 : r = 0 ∨ r = 1 ∨ r = 2 := by omega
     rcases hr3 with rfl | rfl | rfl
     ·refine If.mk (fun _ => ?_) (fun h => absurd (by decide) h)
      refine ifY ?_
      refine Ex.mk _ rfl ?_
      refine CallG.pure _ (c_turnJ2 hx4.2) ?_
      refine CallG.bool (c_jpose st a b (nxtI 2 x).1 (nxtI 2 x).2) (fun p1 => ?_) (fun p1 => ?_)
      ·have y4 := near p1
       refine CallG.bool (c_jfine hf hs p1) (fun p2 => ?_) (fun p2 => ?_)
       ·refine RoundG.fresh (n0 := 14) (awT1 (kC st a b e h0 h1 r0 r1) (fun i => (B (i + 1)).2) (B 1).2 i x .ready (expI (okI st a b e h0 h1 r0) 2 s0 x 2)) rfl ?_ ?_
        ·exact ⟨bk rfl rfl, bk rfl rfl, bk rfl rfl, bk rfl rfl, bk rfl rfl, bk rfl rfl, bk rfl rfl, bk rfl rfl, bk rfl rfl, bk rfl rfl, bk rfl rfl, bk rfl rfl, bk rfl rfl, trivial⟩
        refine RoundG.introF (m := false) mixed rfl rfl hpar ?_
        refine ⟨rfl, _, rfl, rfl, [(5, .ptr 2 0), (7, .ptr 6 0), (8, .ptr 7 0), (12, eInts (prL (nxtI 2 x)))], awT1 (kC st a b e h0 h1 r0 r1) (fun i => (B (i + 1)).2) (B 1).2 i x .busy (expI (okI st a b e h0 h1 r0) 2 s0 x 2), 14, rfl, ?_, ?_, ?_⟩
        ·exact ⟨⟨_, rfl, Weak.refl _ _⟩, ⟨_, rfl, Weak.refl _ _⟩, ⟨_, rfl, Weak.refl _ _⟩, ⟨_, rfl, Weak.refl _ _⟩, trivial⟩
        ·exact ⟨bk rfl rfl, bk rfl rfl, bk rfl rfl, bk rfl rfl, bk rfl rfl, bk rfl rfl, bk rfl rfl, bk rfl rfl, bk rfl rfl, bk rfl rfl, bk rfl rfl, bk rfl rfl, bk rfl rfl, trivial⟩
        refine CallG.pure _ (c_keyOf (nxtI 2 x).1 (nxtI 2 x).2) ?_
        refine (Classical.em (∀ z ∈ (expI (okI st a b e h0 h1 r0) 2 s0 x 2).1, z.1 ≠ nxtI 2 x)).elim (fun hm => ?_) (fun hm => ?_)
        ·refine Ex.mk _ (aw_none2 (y := nxtI 2 x) (E := (expI (okI st a b e h0 h1 r0) 2 s0 x 2).1) (id := 1) rfl rfl rfl rfl (shOk_key (by omega) (by omega)) (lookD_none.2 hm)) ?_
         refine ifY ?_
         refine CallG.pure _ (c_keyOf (nxtI 2 x).1 (nxtI 2 x).2) ?_
         refine Ex.mk _ (aw_set (y := nxtI 2 x) (E := (expI (okI st a b e h0 h1 r0) 2 s0 x 2).1) (many := 2) (id := 1) (.inl rfl) rfl rfl rfl rfl (shOk_key (by omega) (by omega)) hm) ?_
         refine ex_app _ _ (app_line (by rw [List.length_map, List.length_map]) (by have := hA 2; omega) rfl) ?_
         refine ⟨_, _, rfl, rfl, ?_⟩
         refine ifN ?_
         refine Side.mk (by unfold fitsK; kernel_rfl) ?_
         have ek : expI (okI st a b e h0 h1 r0) 2 s0 x (2 + (0 + 1)) = ((expI (okI st a b e h0 h1 r0) 2 s0 x 2).1 ++ [(nxtI 2 x, 2)], (expI (okI st a b e h0 h1 r0) 2 s0 x 2).2 ++ [nxtI 2 x]) := (expI_succ 2 s0 x 2).trans (extI_new ⟨p1, p2⟩ hm)
         refine ⟨leb rfl, rfl, by decide, trivial, ⟨wp rfl (ltb rfl), wp rfl (ltb rfl), wp rfl (ltb rfl), wp rfl trivial, wp rfl trivial, wp rfl trivial, ⟨_, rfl, Weak.refl _ _, ⟨trivial, trivial, trivial⟩⟩, wp rfl trivial, trivial⟩, ?_, ⟨⟨_, rfl, under_awE _⟩, ⟨_, rfl, ltb rfl, trivial⟩, ⟨_, rfl, trivial, trivial⟩, ⟨_, rfl, under_lsP _ (ltb rfl), trivial⟩, ⟨_, rfl, trivial⟩, ⟨_, rfl, trivial, trivial⟩, ⟨_, rfl, ⟨unders_append (unders_map (under_eInts _) _) ⟨under_eInts _ _, trivial⟩, ltb rfl⟩, trivial⟩, ⟨_, rfl, trivial⟩, ⟨_, rfl, under_kC _ _ _ _ _ _ _ _ _⟩, ⟨_, rfl, under_eInts _ _, trivial⟩, ⟨_, rfl, trivial⟩, ⟨_, rfl, under_awB1 _ _ _⟩, trivial⟩⟩
         show Blks _ 13 (awT1 (kC st a b e h0 h1 r0 r1) (fun i => (B (i + 1)).2) (B 1).2 i x .ready (expI (okI st a b e h0 h1 r0) 2 s0 x (2 + (0 + 1))))
         rw [ek]
         exact ⟨bk rfl rfl, bk rfl rfl, bk rfl rfl, bk rfl rfl, bk rfl rfl, bk rfl rfl, bk rfl rfl, ⟨congrArg (fun z => some (Blk.box [z] 38)) (lsP_snoc _ _ _), ltb rfl⟩, ⟨by rw [List.length_append]; rfl, ltb rfl⟩, bk rfl rfl, bk rfl rfl, bk rfl rfl, bk rfl rfl, trivial⟩
        ·refine Ex.mk _ (aw_look2 (y := nxtI 2 x) (E := (expI (okI st a b e h0 h1 r0) 2 s0 x 2).1) (id := 1) rfl rfl rfl rfl (shOk_key (by omega) (by omega)) (hE hm).choose_spec) ?_
         refine ifN ?_
         refine ⟨_, _, rfl, rfl, ?_⟩
         refine ifN ?_
         refine Side.mk (by unfold fitsK; kernel_rfl) ?_
         have ek : expI (okI st a b e h0 h1 r0) 2 s0 x (2 + (0 + 1)) = expI (okI st a b e h0 h1 r0) 2 s0 x 2 := (expI_succ 2 s0 x 2).trans (extI_old fun z => hm z.2)
         refine ⟨leb rfl, rfl, by decide, trivial, ⟨wp rfl (ltb rfl), wp rfl (ltb rfl), wp rfl (ltb rfl), wp rfl trivial, wp rfl trivial, wp rfl trivial, ⟨_, rfl, Weak.refl _ _, ⟨trivial, trivial, trivial⟩⟩, wp rfl trivial, trivial⟩, ?_, ⟨⟨_, rfl, under_awB1 _ _ _⟩, trivial⟩⟩
         show Blks _ 13 (awT1 (kC st a b e h0 h1 r0 r1) (fun i => (B (i + 1)).2) (B 1).2 i x .ready (expI (okI st a b e h0 h1 r0) 2 s0 x (2 + (0 + 1))))
         rw [ek]
         exact ⟨bk rfl rfl, bk rfl rfl, bk rfl rfl, bk rfl rfl, bk rfl rfl, bk rfl rfl, bk rfl rfl, bk rfl rfl, bk rfl rfl, bk rfl rfl, bk rfl rfl, bk rfl rfl, bk rfl rfl, trivial⟩
       ·refine ifN ?_
        refine Side.mk (by unfold fitsK; kernel_rfl) ?_
        refine ⟨leb rfl, rfl, by decide, trivial, ⟨wp rfl (ltb rfl), wp rfl (ltb rfl), wp rfl (ltb rfl), wp rfl trivial, wp rfl trivial, wp rfl trivial, ⟨_, rfl, Weak.refl _ _, ⟨trivial, trivial, trivial⟩⟩, wp rfl trivial, trivial⟩, ?_, trivial⟩
        have ek : expI (okI st a b e h0 h1 r0) 2 s0 x (2 + (0 + 1)) = expI (okI st a b e h0 h1 r0) 2 s0 x 2 := (expI_succ 2 s0 x 2).trans (extI_old fun z => p2 z.1.2)
        show Blks _ 13 (awT1 (kC st a b e h0 h1 r0 r1) (fun i => (B (i + 1)).2) (B 1).2 i x .ready (expI (okI st a b e h0 h1 r0) 2 s0 x (2 + (0 + 1))))
        rw [ek]
        exact ⟨bk rfl rfl, bk rfl rfl, bk rfl rfl, bk rfl rfl, bk rfl rfl, bk rfl rfl, bk rfl rfl, bk rfl rfl, bk rfl rfl, bk rfl rfl, bk rfl rfl, bk rfl rfl, bk rfl rfl, trivial⟩
      ·refine ifN ?_
       refine Side.mk (by unfold fitsK; kernel_rfl) ?_
       have ek : expI (okI st a b e h0 h1 r0) 2 s0 x (2 + (0 + 1)) = expI (okI st a b e h0 h1 r0) 2 s0 x 2 := (expI_succ 2 s0 x 2).trans (extI_old fun z => p1 z.1.1)
       refine ⟨leb rfl, rfl, by decide, trivial, ⟨wp rfl (ltb rfl), wp rfl (ltb rfl), wp rfl (ltb rfl), wp rfl trivial, wp rfl trivial, wp rfl trivial, ⟨_, rfl, Weak.refl _ _, ⟨trivial, trivial, trivial⟩⟩, wp rfl trivial, trivial⟩, ?_, trivial⟩
       show Blks _ 13 (awT1 (kC st a b e h0 h1 r0 r1) (fun i => (B (i + 1)).2) (B 1).2 i x .ready (expI (okI st a b e h0 h1 r0) 2 s0 x (2 + (0 + 1))))
       rw [ek]
       exact ⟨bk rfl rfl, bk rfl rfl, bk rfl rfl, bk rfl rfl, bk rfl rfl, bk rfl rfl, bk rfl rfl, bk rfl rfl, bk rfl rfl, bk rfl rfl, bk rfl rfl, bk rfl rfl, bk rfl rfl, trivial⟩
     ·refine If.mk (fun _ => ?_) (fun h => absurd (by decide) h)
      refine ifY ?_
      refine Ex.mk _ rfl ?_
      refine CallG.pure _ (c_turnJ3 hx4.2) ?_
      refine CallG.bool (c_jpose st a b (nxtI 3 x).1 (nxtI 3 x).2) (fun p1 => ?_) (fun p1 => ?_)
      ·have y4 := near p1
       refine CallG.bool (c_jfine hf hs p1) (fun p2 => ?_) (fun p2 => ?_)
       ·refine RoundG.fresh (n0 := 14) (awT1 (kC st a b e h0 h1 r0 r1) (fun i => (B (i + 1)).2) (B 1).2 i x .ready (expI (okI st a b e h0 h1 r0) 2 s0 x 3)) rfl ?_ ?_
        ·exact ⟨bk rfl rfl, bk rfl rfl, bk rfl rfl, bk rfl rfl, bk rfl rfl, bk rfl rfl, bk rfl rfl, bk rfl rfl, bk rfl rfl, bk rfl rfl, bk rfl rfl, bk rfl rfl, bk rfl rfl, trivial⟩
        refine RoundG.introF (m := false) mixed rfl rfl hpar ?_
        refine ⟨rfl, _, rfl, rfl, [(5, .ptr 2 0), (7, .ptr 6 0), (8, .ptr 7 0), (12, eInts (prL (nxtI 3 x)))], awT1 (kC st a b e h0 h1 r0 r1) (fun i => (B (i + 1)).2) (B 1).2 i x .busy (expI (okI st a b e h0 h1 r0) 2 s0 x 3), 14, rfl, ?_, ?_, ?_⟩
        ·exact ⟨⟨_, rfl, Weak.refl _ _⟩, ⟨_, rfl, Weak.refl _ _⟩, ⟨_, rfl, Weak.refl _ _⟩, ⟨_, rfl, Weak.refl _ _⟩, trivial⟩
        ·exact ⟨bk rfl rfl, bk rfl rfl, bk rfl rfl, bk rfl rfl, bk rfl rfl, bk rfl rfl, bk rfl rfl, bk rfl rfl, bk rfl rfl, bk rfl rfl, bk rfl rfl, bk rfl rfl, bk rfl rfl, trivial⟩
        refine CallG.pure _ (c_keyOf (nxtI 3 x).1 (nxtI 3 x).2) ?_
        refine (Classical.em (∀ z ∈ (expI (okI st a b e h0 h1 r0) 2 s0 x 3).1, z.1 ≠ nxtI 3 x)).elim (fun hm => ?_) (fun hm => ?_)
        ·refine Ex.mk _ (aw_none2 (y := nxtI 3 x) (E := (expI (okI st a b e h0 h1 r0) 2 s0 x 3).1) (id := 1) rfl rfl rfl rfl (shOk_key (by omega) (by omega)) (lookD_none.2 hm)) ?_
         refine ifY ?_
         refine CallG.pure _ (c_keyOf (nxtI 3 x).1 (nxtI 3 x).2) ?_
         refine Ex.mk _ (aw_set (y := nxtI 3 x) (E := (expI (okI st a b e h0 h1 r0) 2 s0 x 3).1) (many := 2) (id := 1) (.inl rfl) rfl rfl rfl rfl (shOk_key (by omega) (by omega)) hm) ?_
         refine ex_app _ _ (app_line (by rw [List.length_map, List.length_map]) (by have := hA 3; omega) rfl) ?_
         refine ⟨_, _, rfl, rfl, ?_⟩
         refine ifN ?_
         refine Side.mk (by unfold fitsK; kernel_rfl) ?_
         have ek : expI (okI st a b e h0 h1 r0) 2 s0 x (2 + (1 + 1)) = ((expI (okI st a b e h0 h1 r0) 2 s0 x 3).1 ++ [(nxtI 3 x, 2)], (expI (okI st a b e h0 h1 r0) 2 s0 x 3).2 ++ [nxtI 3 x]) := (expI_succ 2 s0 x 3).trans (extI_new ⟨p1, p2⟩ hm)
         refine ⟨leb rfl, rfl, by decide, trivial, ⟨wp rfl (ltb rfl), wp rfl (ltb rfl), wp rfl (ltb rfl), wp rfl trivial, wp rfl trivial, wp rfl trivial, ⟨_, rfl, Weak.refl _ _, ⟨trivial, trivial, trivial⟩⟩, wp rfl trivial, trivial⟩, ?_, ⟨⟨_, rfl, under_awE _⟩, ⟨_, rfl, ltb rfl, trivial⟩, ⟨_, rfl, trivial, trivial⟩, ⟨_, rfl, under_lsP _ (ltb rfl), trivial⟩, ⟨_, rfl, trivial⟩, ⟨_, rfl, trivial, trivial⟩, ⟨_, rfl, ⟨unders_append (unders_map (under_eInts _) _) ⟨under_eInts _ _, trivial⟩, ltb rfl⟩, trivial⟩, ⟨_, rfl, trivial⟩, ⟨_, rfl, under_kC _ _ _ _ _ _ _ _ _⟩, ⟨_, rfl, under_eInts _ _, trivial⟩, ⟨_, rfl, trivial⟩, ⟨_, rfl, under_awB1 _ _ _⟩, trivial⟩⟩
         show Blks _ 13 (awT1 (kC st a b e h0 h1 r0 r1) (fun i => (B (i + 1)).2) (B 1).2 i x .ready (expI (okI st a b e h0 h1 r0) 2 s0 x (2 + (1 + 1))))
         rw [ek]
         exact ⟨bk rfl rfl, bk rfl rfl, bk rfl rfl, bk rfl rfl, bk rfl rfl, bk rfl rfl, bk rfl rfl, ⟨congrArg (fun z => some (Blk.box [z] 38)) (lsP_snoc _ _ _), ltb rfl⟩, ⟨by rw [List.length_append]; rfl, ltb rfl⟩, bk rfl rfl, bk rfl rfl, bk rfl rfl, bk rfl rfl, trivial⟩
        ·refine Ex.mk _ (aw_look2 (y := nxtI 3 x) (E := (expI (okI st a b e h0 h1 r0) 2 s0 x 3).1) (id := 1) rfl rfl rfl rfl (shOk_key (by omega) (by omega)) (hE hm).choose_spec) ?_
         refine ifN ?_
         refine ⟨_, _, rfl, rfl, ?_⟩
         refine ifN ?_
         refine Side.mk (by unfold fitsK; kernel_rfl) ?_
         have ek : expI (okI st a b e h0 h1 r0) 2 s0 x (2 + (1 + 1)) = expI (okI st a b e h0 h1 r0) 2 s0 x 3 := (expI_succ 2 s0 x 3).trans (extI_old fun z => hm z.2)
         refine ⟨leb rfl, rfl, by decide, trivial, ⟨wp rfl (ltb rfl), wp rfl (ltb rfl), wp rfl (ltb rfl), wp rfl trivial, wp rfl trivial, wp rfl trivial, ⟨_, rfl, Weak.refl _ _, ⟨trivial, trivial, trivial⟩⟩, wp rfl trivial, trivial⟩, ?_, ⟨⟨_, rfl, under_awB1 _ _ _⟩, trivial⟩⟩
         show Blks _ 13 (awT1 (kC st a b e h0 h1 r0 r1) (fun i => (B (i + 1)).2) (B 1).2 i x .ready (expI (okI st a b e h0 h1 r0) 2 s0 x (2 + (1 + 1))))
         rw [ek]
         exact ⟨bk rfl rfl, bk rfl rfl, bk rfl rfl, bk rfl rfl, bk rfl rfl, bk rfl rfl, bk rfl rfl, bk rfl rfl, bk rfl rfl, bk rfl rfl, bk rfl rfl, bk rfl rfl, bk rfl rfl, trivial⟩
       ·refine ifN ?_
        refine Side.mk (by unfold fitsK; kernel_rfl) ?_
        refine ⟨leb rfl, rfl, by decide, trivial, ⟨wp rfl (ltb rfl), wp rfl (ltb rfl), wp rfl (ltb rfl), wp rfl trivial, wp rfl trivial, wp rfl trivial, ⟨_, rfl, Weak.refl _ _, ⟨trivial, trivial, trivial⟩⟩, wp rfl trivial, trivial⟩, ?_, trivial⟩
        have ek : expI (okI st a b e h0 h1 r0) 2 s0 x (2 + (1 + 1)) = expI (okI st a b e h0 h1 r0) 2 s0 x 3 := (expI_succ 2 s0 x 3).trans (extI_old fun z => p2 z.1.2)
        show Blks _ 13 (awT1 (kC st a b e h0 h1 r0 r1) (fun i => (B (i + 1)).2) (B 1).2 i x .ready (expI (okI st a b e h0 h1 r0) 2 s0 x (2 + (1 + 1))))
        rw [ek]
        exact ⟨bk rfl rfl, bk rfl rfl, bk rfl rfl, bk rfl rfl, bk rfl rfl, bk rfl rfl, bk rfl rfl, bk rfl rfl, bk rfl rfl, bk rfl rfl, bk rfl rfl, bk rfl rfl, bk rfl rfl, trivial⟩
      ·refine ifN ?_
       refine Side.mk (by unfold fitsK; kernel_rfl) ?_
       have ek : expI (okI st a b e h0 h1 r0) 2 s0 x (2 + (1 + 1)) = expI (okI st a b e h0 h1 r0) 2 s0 x 3 := (expI_succ 2 s0 x 3).trans (extI_old fun z => p1 z.1.1)
       refine ⟨leb rfl, rfl, by decide, trivial, ⟨wp rfl (ltb rfl), wp rfl (ltb rfl), wp rfl (ltb rfl), wp rfl trivial, wp rfl trivial, wp rfl trivial, ⟨_, rfl, Weak.refl _ _, ⟨trivial, trivial, trivial⟩⟩, wp rfl trivial, trivial⟩, ?_, trivial⟩
       show Blks _ 13 (awT1 (kC st a b e h0 h1 r0 r1) (fun i => (B (i + 1)).2) (B 1).2 i x .ready (expI (okI st a b e h0 h1 r0) 2 s0 x (2 + (1 + 1))))
       rw [ek]
       exact ⟨bk rfl rfl, bk rfl rfl, bk rfl rfl, bk rfl rfl, bk rfl rfl, bk rfl rfl, bk rfl rfl, bk rfl rfl, bk rfl rfl, bk rfl rfl, bk rfl rfl, bk rfl rfl, bk rfl rfl, trivial⟩
     ·refine If.mk (fun h => absurd h (by decide)) (fun _ => ?_)
      refine ifN ?_
      refine ⟨leb rfl, ?_⟩
      refine Side.mk (by unfold fitsK; kernel_rfl) ?_
      exact ⟨leb rfl, rfl, by decide, trivial, ⟨wp rfl (ltb rfl), wp rfl (ltb rfl), wp rfl (ltb rfl), wp rfl trivial, wp rfl trivial, trivial⟩, ⟨bk rfl rfl, bk rfl rfl, bk rfl rfl, bk rfl rfl, bk rfl rfl, bk rfl rfl, bk rfl rfl, bk rfl rfl, bk rfl rfl, bk rfl rfl, bk rfl rfl, bk rfl rfl, bk rfl rfl, trivial⟩, ⟨⟨_, rfl, under_awE _⟩, ⟨_, rfl, ltb rfl, trivial⟩, ⟨_, rfl, trivial, trivial⟩, ⟨_, rfl, under_lsP _ (ltb rfl), trivial⟩, ⟨_, rfl, trivial⟩, ⟨_, rfl, trivial, trivial⟩, ⟨_, rfl, under_lsP _ (ltb rfl), trivial⟩, ⟨_, rfl, trivial⟩, ⟨_, rfl, under_kC _ _ _ _ _ _ _ _ _⟩, ⟨_, rfl, under_eInts _ _, trivial⟩, ⟨_, rfl, trivial⟩, ⟨_, rfl, under_awB1 _ _ _⟩, trivial⟩⟩
   ·refine If.mk (fun h => absurd h (by decide)) (fun _ => ?_)
    refine ifN ?_
    refine ⟨leb rfl, .inl ⟨.inr rfl, _, rfl, rfl, ?_⟩⟩
    refine ⟨_, _, rfl, (fun e => by cases e), rfl, ?_⟩
    refine Side.mk (fits64 (by omega)) ?_
    have en : rowI (okI st a b e h0 h1 r0) 2 ((B 1).1, []) ((B 1).2.take (i + 1)) = expI (okI st a b e h0 h1 r0) 2 s0 x 4 := by rw [etk, rowI_snoc, ← hs0]
    refine ⟨leb rfl, rfl, hi', trivial, ⟨wp rfl (ltb rfl), wp rfl (ltb rfl), wp rfl (ltb rfl), wp rfl (ltb rfl), ⟨_, rfl, Weak.refl _ _, under_eLists _ _⟩, wp rfl trivial, ⟨_, rfl, Weak.of_eq (congrArg n' (by omega)), trivial⟩, trivial⟩, ?_, ⟨⟨_, rfl, under_awE _⟩, ⟨_, rfl, ltb rfl, trivial⟩, ⟨_, rfl, trivial, trivial⟩, ⟨_, rfl, under_lsP _ (ltb rfl), trivial⟩, ⟨_, rfl, trivial⟩, ⟨_, rfl, trivial, trivial⟩, ⟨_, rfl, under_lsP _ (ltb rfl), trivial⟩, ⟨_, rfl, trivial⟩, trivial⟩⟩
    refine ⟨bk rfl rfl, ⟨?_, ltb rfl⟩, bk rfl rfl, bk rfl rfl, bk rfl rfl, bk rfl rfl, bk rfl rfl, ⟨?_, ltb rfl⟩, ⟨?_, ltb rfl⟩, trivial⟩
    ·rw [en]; rfl
    ·rw [en]; rfl
    ·rw [en]; rfl
 refine ifN ?_
 obtain rfl : i = (B 1).2.length := by
  have : ¬ (i : Int) < ((B 1).2.length : Nat) := g2
  omega
 refine ⟨leb rfl, ?_⟩
 refine Side.mk (by unfold fitsK; kernel_rfl) ?_
 have eB2 : B 2 = rowI (okI st a b e h0 h1 r0) 2 ((B 1).1, []) ((B 1).2.take (B 1).2.length) := by rw [List.take_length]; exact hBs 1
 refine LoopG.fresh (n0 := 10) [(2, .ptr 0 0), (5, .ptr 2 0), (6, ePoses (B 2).2), (7, .ptr 9 0)] [(0, kBox st a b e h0 h1 r0 r1), (1, .map (.arr 5) (kE (awE (B 2).1))), (2, .box [.mp 1] 111), (3, .box [n' 1] 3), (4, .box [lsP 5 (B 1).2] 38), (5, .row (B 1).2.length), (6, .box [n' 2] 3), (7, .box [lsP 8 (B 2).2] 38), (8, .row (B 2).2.length), (9, .box [n' 3] 3)] rfl ?_ ?_ ?_
 ·exact ⟨⟨_, rfl, Weak.refl _ _⟩, ⟨_, rfl, Weak.refl _ _⟩, ⟨_, rfl, by rw [eB2]; exact wk_lsP 8 _⟩, ⟨_, rfl, Weak.refl _ _⟩, trivial⟩
 ·exact ⟨bk rfl rfl, ⟨by rw [eB2]; rfl, ltb rfl⟩, bk rfl rfl, bk rfl rfl, bk rfl rfl, bk rfl rfl, bk rfl rfl, ⟨by rw [eB2]; rfl, ltb rfl⟩, ⟨by rw [eB2]; rfl, ltb rfl⟩, bk rfl rfl, trivial⟩
 refine LoopG.round mixed (m := false) ?_
 refine If.mk (fun g => ?_) (fun g => ?_)
 rotate_left
 ·refine ifN ?_
  exact ⟨.inl rfl, rfl, 1, _, rfl, rfl, lits _, congrArg (fun s : AwS => kE (awE s.1)) (hBe (nul g) 2).symm⟩
 refine ifY ?_
 refine LoopG.ghost (LoopG.at (n0 := 12) rfl (LoopG.box 10 [.sl 0 [] (.own 11 0 1)] 1 (leb rfl) (leb rfl) rfl (.cons (Weak.own (r := 11) (g := 0) 1 rfl) (.nil _)) ?_))
 refine loop_up mixed (m := false) (fun i => [(2, .ptr 0 0), (5, .ptr 2 0), (7, .ptr 9 0), (8, .ptr 10 0), (26, ePoses (B 2).2), (27, n' (B 2).2.length), (28, n' (i : Nat))])
  (fun i => [(0, kBox st a b e h0 h1 r0 r1), (1, .map (.arr 5) (kE (awE (rowI (okI st a b e h0 h1 r0) 3 ((B 2).1, []) ((B 2).2.take i)).1))), (2, .box [.mp 1] 111), (3, .box [n' 1] 3), (4, .box [lsP 5 (B 1).2] 38), (5, .row (B 1).2.length), (6, .box [n' 2] 3), (7, .box [lsP 8 (B 2).2] 38), (8, .row (B 2).2.length), (9, .box [n' 3] 3), (10, .box [lsP 11 (rowI (okI st a b e h0 h1 r0) 3 ((B 2).1, []) ((B 2).2.take i)).2] 38), (11, .row (rowI (okI st a b e h0 h1 r0) 3 ((B 2).1, []) ((B 2).2.take i)).2.length)]) (fun _ => True) (B 2).2.length 1 (leb rfl) trivial ?_ ?_ ?_
 ·exact ⟨wp rfl (ltb rfl), wp rfl (ltb rfl), wp rfl (ltb rfl), wp rfl (ltb rfl), ⟨_, rfl, Weak.refl _ _, under_eLists _ _⟩, ⟨_, rfl, Weak.of_eq (congrArg n' (by rw [poses_len])), trivial⟩, wp rfl trivial, trivial⟩
 ·exact ⟨bk rfl rfl, bk rfl rfl, bk rfl rfl, bk rfl rfl, bk rfl rfl, bk rfl rfl, bk rfl rfl, bk rfl rfl, bk rfl rfl, bk rfl rfl, bk rfl rfl, bk rfl rfl, trivial⟩
 intro i hi _
 refine If.mk (fun g2 => ?_) (fun g2 => ?_)
 ·refine ifY ?_
  have hi' : i < (B 2).2.length := by
   have : (i : Int) < ((B 2).2.length : Nat) := g2
   omega
  obtain ⟨x, hx, etk, hxm⟩ := at_some (l := (B 2).2) (r := i) hi'
  have hx4 := near (hBok 2 x hxm).1
  refine Ex.mk _ (jx_lists (r := i) rfl (poses_at hx)) ?_
  refine Ex.mk _ rfl ?_
  refine CallG.inlineP (m := false) (fn := Tryz.f50) (c := (Tryz.f50.body).getD .skip) mixed (by kernel_rfl) (by kernel_rfl) (of_decide_eq_true (by kernel_rfl)) ?_
  refine .inl ⟨.inl rfl, _, rfl, rfl, ?_⟩
  obtain ⟨s0, hs0⟩ : ∃ s0, s0 = rowI (okI st a b e h0 h1 r0) 3 ((B 2).1, []) ((B 2).2.take i) := ⟨_, rfl⟩
  have hA : ∀ r, (expI (okI st a b e h0 h1 r0) 3 s0 x r).2.length ≤ 4 * i + r := fun r => by
   have q1 := exp_len (ok := okI st a b e h0 h1 r0) 3 s0 x r
   have q2 := row_len (ok := okI st a b e h0 h1 r0) 3 ((B 2).2.take i) ((B 2).1, [])
   rw [← hs0, List.length_take] at q2
   have q3 : (((B 2).1, ([] : List PoseD)) : AwS).2.length = 0 := rfl
   omega
  have hi4 : i ≤ 256 := Nat.le_trans hi (Nat.le_trans (hBl 2) (by decide))
  refine RangeG.fresh (n0 := 14) (awS2 (B 2).2 i) ((awT2 (kC st a b e h0 h1 r0 r1) (fun i => (B (i + 1)).2) (B 2).2 i x .ready s0).take 14) rfl ?_ ?_ ?_
  ·exact ⟨⟨_, rfl, Weak.refl _ _⟩, ⟨_, rfl, Weak.refl _ _⟩, ⟨_, rfl, Weak.refl _ _⟩, ⟨_, rfl, Weak.refl _ _⟩, ⟨_, rfl, Weak.refl _ _⟩, ⟨_, rfl, Weak.refl _ _⟩, ⟨_, rfl, Weak.refl _ _⟩, ⟨_, rfl, Weak.refl _ _⟩, trivial⟩
  ·rw [hs0]; exact ⟨bk rfl rfl, bk rfl rfl, bk rfl rfl, bk rfl rfl, bk rfl rfl, bk rfl rfl, bk rfl rfl, bk rfl rfl, bk rfl rfl, bk rfl rfl, bk rfl rfl, bk rfl rfl, bk rfl rfl, bk rfl rfl, trivial⟩
  refine RangeG.outer (f := 101) (first := []) (captured := [.ptr 12 0, .ptr 13 0]) rfl rfl rfl ?_
  refine CallG.inlineP (m := false) (fn := Tryz.f101) (c := (Tryz.f101.body).getD .skip) mixed (by kernel_rfl) (by kernel_rfl) (of_decide_eq_true (by kernel_rfl)) ?_
  refine LoopG.at (n0 := 16) rfl (loop_up mixed (m := false) (fun l => [(0, .yld 15), (1, .ptr 12 0), (2, .ptr 13 0), (12, n' 2), (13, n' (l : Nat))])
   (fun l => awT2 (kC st a b e h0 h1 r0 r1) (fun i => (B (i + 1)).2) (B 2).2 i x .ready (expI (okI st a b e h0 h1 r0) 3 s0 x (2 * l))) (fun _ => True) 2 1 (leb rfl) trivial ?_ ?_ ?_)
  ·exact ⟨wp rfl (ltb rfl), wp rfl (ltb rfl), wp rfl (ltb rfl), wp rfl trivial, wp rfl trivial, trivial⟩
  ·exact ⟨bk rfl rfl, bk rfl rfl, bk rfl rfl, bk rfl rfl, bk rfl rfl, bk rfl rfl, bk rfl rfl, bk rfl rfl, bk rfl rfl, bk rfl rfl, bk rfl rfl, bk rfl rfl, bk rfl rfl, bk rfl rfl, bk rfl rfl, bk rfl rfl, trivial⟩
  ·intro l hl _
   have hl3 : l = 0 ∨ l = 1 ∨ l = 2 := by omega
   rcases hl3 with rfl | rfl | rfl
   ·refine If.mk (fun _ => ?_) (fun h => absurd (by decide) h)
    refine ifY ?_
    refine LoopG.at (n0 := 16) rfl (loop_up mixed (m := false) (fun r => [(0, .yld 15), (1, .ptr 12 0), (2, .ptr 13 0), (4, n' (0 : Nat)), (12, n' 2), (13, n' (0 : Nat)), (16, .agg [n' (-1), n' 1]), (17, n' (r : Nat))])
     (fun r => awT2 (kC st a b e h0 h1 r0 r1) (fun i => (B (i + 1)).2) (B 2).2 i x .ready (expI (okI st a b e h0 h1 r0) 3 s0 x (0 + r))) (fun _ => True) 2 1 (leb rfl) trivial ?_ ?_ ?_)
    ·exact ⟨wp rfl (ltb rfl), wp rfl (ltb rfl), wp rfl (ltb rfl), wp rfl trivial, wp rfl trivial, wp rfl trivial, ⟨_, rfl, Weak.refl _ _, ⟨trivial, trivial, trivial⟩⟩, wp rfl trivial, trivial⟩
    ·exact ⟨bk rfl rfl, bk rfl rfl, bk rfl rfl, bk rfl rfl, bk rfl rfl, bk rfl rfl, bk rfl rfl, bk rfl rfl, bk rfl rfl, bk rfl rfl, bk rfl rfl, bk rfl rfl, bk rfl rfl, bk rfl rfl, bk rfl rfl, bk rfl rfl, trivial⟩
    ·intro r hr _
     have hr3 : r = 0 ∨ r = 1 ∨ r = 2 := by omega
     rcases hr3 with rfl | rfl | rfl
     ·refine If.mk (fun _ => ?_) (fun h => absurd (by decide) h)
      refine ifY ?_
      refine Ex.mk _ rfl ?_
      refine CallG.pure _ (c_turnJ0 hx4.1) ?_
      refine CallG.bool (c_jpose st a b (nxtI 0 x).1 (nxtI 0 x).2) (fun p1 => ?_) (fun p1 => ?_)
      ·have y4 := near p1
       refine CallG.bool (c_jfine hf hs p1) (fun p2 => ?_) (fun p2 => ?_)
       ·refine RoundG.fresh (n0 := 17) (awT2 (kC st a b e h0 h1 r0 r1) (fun i => (B (i + 1)).2) (B 2).2 i x .ready (expI (okI st a b e h0 h1 r0) 3 s0 x 0)) rfl ?_ ?_
        ·exact ⟨bk rfl rfl, bk rfl rfl, bk rfl rfl, bk rfl rfl, bk rfl rfl, bk rfl rfl, bk rfl rfl, bk rfl rfl, bk rfl rfl, bk rfl rfl, bk rfl rfl, bk rfl rfl, bk rfl rfl, bk rfl rfl, bk rfl rfl, bk rfl rfl, trivial⟩
        refine RoundG.introF (m := false) mixed rfl rfl hpar ?_
        refine ⟨rfl, _, rfl, rfl, [(5, .ptr 2 0), (7, .ptr 9 0), (8, .ptr 10 0), (12, eInts (prL (nxtI 0 x)))], awT2 (kC st a b e h0 h1 r0 r1) (fun i => (B (i + 1)).2) (B 2).2 i x .busy (expI (okI st a b e h0 h1 r0) 3 s0 x 0), 17, rfl, ?_, ?_, ?_⟩
        ·exact ⟨⟨_, rfl, Weak.refl _ _⟩, ⟨_, rfl, Weak.refl _ _⟩, ⟨_, rfl, Weak.refl _ _⟩, ⟨_, rfl, Weak.refl _ _⟩, trivial⟩
        ·exact ⟨bk rfl rfl, bk rfl rfl, bk rfl rfl, bk rfl rfl, bk rfl rfl, bk rfl rfl, bk rfl rfl, bk rfl rfl, bk rfl rfl, bk rfl rfl, bk rfl rfl, bk rfl rfl, bk rfl rfl, bk rfl rfl, bk rfl rfl, bk rfl rfl, trivial⟩
        refine CallG.pure _ (c_keyOf (nxtI 0 x).1 (nxtI 0 x).2) ?_
        refine (Classical.em (∀ z ∈ (expI (okI st a b e h0 h1 r0) 3 s0 x 0).1, z.1 ≠ nxtI 0 x)).elim (fun hm => ?_) (fun hm => ?_)
        ·refine Ex.mk _ (aw_none2 (y := nxtI 0 x) (E := (expI (okI st a b e h0 h1 r0) 3 s0 x 0).1) (id := 1) rfl rfl rfl rfl (shOk_key (by omega) (by omega)) (lookD_none.2 hm)) ?_
         refine ifY ?_
         refine CallG.pure _ (c_keyOf (nxtI 0 x).1 (nxtI 0 x).2) ?_
         refine Ex.mk _ (aw_set (y := nxtI 0 x) (E := (expI (okI st a b e h0 h1 r0) 3 s0 x 0).1) (many := 3) (id := 1) (.inl rfl) rfl rfl rfl rfl (shOk_key (by omega) (by omega)) hm) ?_
         refine ex_app _ _ (app_line (by rw [List.length_map, List.length_map]) (by have := hA 0; omega) rfl) ?_
         refine ⟨_, _, rfl, rfl, ?_⟩
         refine ifN ?_
         refine Side.mk (by unfold fitsK; kernel_rfl) ?_
         have ek : expI (okI st a b e h0 h1 r0) 3 s0 x (0 + (0 + 1)) = ((expI (okI st a b e h0 h1 r0) 3 s0 x 0).1 ++ [(nxtI 0 x, 3)], (expI (okI st a b e h0 h1 r0) 3 s0 x 0).2 ++ [nxtI 0 x]) := (expI_succ 3 s0 x 0).trans (extI_new ⟨p1, p2⟩ hm)
         refine ⟨leb rfl, rfl, by decide, trivial, ⟨wp rfl (ltb rfl), wp rfl (ltb rfl), wp rfl (ltb rfl), wp rfl trivial, wp rfl trivial, wp rfl trivial, ⟨_, rfl, Weak.refl _ _, ⟨trivial, trivial, trivial⟩⟩, wp rfl trivial, trivial⟩, ?_, ⟨⟨_, rfl, under_awE _⟩, ⟨_, rfl, ltb rfl, trivial⟩, ⟨_, rfl, trivial, trivial⟩, ⟨_, rfl, under_lsP _ (ltb rfl), trivial⟩, ⟨_, rfl, trivial⟩, ⟨_, rfl, trivial, trivial⟩, ⟨_, rfl, under_lsP _ (ltb rfl), trivial⟩, ⟨_, rfl, trivial⟩, ⟨_, rfl, trivial, trivial⟩, ⟨_, rfl, ⟨unders_append (unders_map (under_eInts _) _) ⟨under_eInts _ _, trivial⟩, ltb rfl⟩, trivial⟩, ⟨_, rfl, trivial⟩, ⟨_, rfl, under_kC _ _ _ _ _ _ _ _ _⟩, ⟨_, rfl, under_eInts _ _, trivial⟩, ⟨_, rfl, trivial⟩, ⟨_, rfl, under_awB2 _ _ _⟩, trivial⟩⟩
         show Blks _ 16 (awT2 (kC st a b e h0 h1 r0 r1) (fun i => (B (i + 1)).2) (B 2).2 i x .ready (expI (okI st a b e h0 h1 r0) 3 s0 x (0 + (0 + 1))))
         rw [ek]
         exact ⟨bk rfl rfl, bk rfl rfl, bk rfl rfl, bk rfl rfl, bk rfl rfl, bk rfl rfl, bk rfl rfl, bk rfl rfl, bk rfl rfl, bk rfl rfl, ⟨congrArg (fun z => some (Blk.box [z] 38)) (lsP_snoc _ _ _), ltb rfl⟩, ⟨by rw [List.length_append]; rfl, ltb rfl⟩, bk rfl rfl, bk rfl rfl, bk rfl rfl, bk rfl rfl, trivial⟩
        ·refine Ex.mk _ (aw_look2 (y := nxtI 0 x) (E := (expI (okI st a b e h0 h1 r0) 3 s0 x 0).1) (id := 1) rfl rfl rfl rfl (shOk_key (by omega) (by omega)) (hE hm).choose_spec) ?_
         refine ifN ?_
         refine ⟨_, _, rfl, rfl, ?_⟩
         refine ifN ?_
         refine Side.mk (by unfold fitsK; kernel_rfl) ?_
         have ek : expI (okI st a b e h0 h1 r0) 3 s0 x (0 + (0 + 1)) = expI (okI st a b e h0 h1 r0) 3 s0 x 0 := (expI_succ 3 s0 x 0).trans (extI_old fun z => hm z.2)
         refine ⟨leb rfl, rfl, by decide, trivial, ⟨wp rfl (ltb rfl), wp rfl (ltb rfl), wp rfl (ltb rfl), wp rfl trivial, wp rfl trivial, wp rfl trivial, ⟨_, rfl, Weak.refl _ _, ⟨trivial, trivial, trivial⟩⟩, wp rfl trivial, trivial⟩, ?_, ⟨⟨_, rfl, under_awB2 _ _ _⟩, trivial⟩⟩
         show Blks _ 16 (awT2 (kC st a b e h0 h1 r0 r1) (fun i => (B (i + 1)).2) (B 2).2 i x .ready (expI (okI st a b e h0 h1 r0) 3 s0 x (0 + (0 + 1))))
         rw [ek]
         exact ⟨bk rfl rfl, bk rfl rfl, bk rfl rfl, bk rfl rfl, bk rfl rfl, bk rfl rfl, bk rfl rfl, bk rfl rfl, bk rfl rfl, bk rfl rfl, bk rfl rfl, bk rfl rfl, bk rfl rfl, bk rfl rfl, bk rfl rfl, bk rfl rfl, trivial⟩
       ·refine ifN ?_
        refine Side.mk (by unfold fitsK; kernel_rfl) ?_
        refine ⟨leb rfl, rfl, by decide, trivial, ⟨wp rfl (ltb rfl), wp rfl (ltb rfl), wp rfl (ltb rfl), wp rfl trivial, wp rfl trivial, wp rfl trivial, ⟨_, rfl, Weak.refl _ _, ⟨trivial, trivial, trivial⟩⟩, wp rfl trivial, trivial⟩, ?_, trivial⟩
        have ek : expI (okI st a b e h0 h1 r0) 3 s0 x (0 + (0 + 1)) = expI (okI st a b e h0 h1 r0) 3 s0 x 0 := (expI_succ 3 s0 x 0).trans (extI_old fun z => p2 z.1.2)
        show Blks _ 16 (awT2 (kC st a b e h0 h1 r0 r1) (fun i => (B (i + 1)).2) (B 2).2 i x .ready (expI (okI st a b e h0 h1 r0) 3 s0 x (0 + (0 + 1))))
        rw [ek]
        exact ⟨bk rfl rfl, bk rfl rfl, bk rfl rfl, bk rfl rfl, bk rfl rfl, bk rfl rfl, bk rfl rfl, bk rfl rfl, bk rfl rfl, bk rfl rfl, bk rfl rfl, bk rfl rfl, bk rfl rfl, bk rfl rfl, bk rfl rfl, bk rfl rfl, trivial⟩
      ·refine ifN ?_
       refine Side.mk (by unfold fitsK; kernel_rfl) ?_
       have ek : expI (okI st a b e h0 h1 r0) 3 s0 x (0 + (0 + 1)) = expI (okI st a b e h0 h1 r0) 3 s0 x 0 := (expI_succ 3 s0 x 0).trans (extI_old fun z => p1 z.1.1)
       refine ⟨leb rfl, rfl, by decide, trivial, ⟨wp rfl (ltb rfl), wp rfl (ltb rfl), wp rfl (ltb rfl), wp rfl trivial, wp rfl trivial, wp rfl trivial, ⟨_, rfl, Weak.refl _ _, ⟨trivial, trivial, trivial⟩⟩, wp rfl trivial, trivial⟩, ?_, trivial⟩
       show Blks _ 16 (awT2 (kC st a b e h0 h1 r0 r1) (fun i => (B (i + 1)).2) (B 2).2 i x .ready (expI (okI st a b e h0 h1 r0) 3 s0 x (0 + (0 + 1))))
       rw [ek]
       exact ⟨bk rfl rfl, bk rfl rfl, bk rfl rfl, bk rfl rfl, bk rfl rfl, bk rfl rfl, bk rfl rfl, bk rfl rfl, bk rfl rfl, bk rfl rfl, bk rfl rfl, bk rfl rfl, bk rfl rfl, bk rfl rfl, bk rfl rfl, bk rfl rfl, trivial⟩
     ·refine If.mk (fun _ => ?_) (fun h => absurd (by decide) h)
      refine ifY ?_
      refine Ex.mk _ rfl ?_
      refine CallG.pure _ (c_turnJ1 hx4.1) ?_
      refine CallG.bool (c_jpose st a b (nxtI 1 x).1 (nxtI 1 x).2) (fun p1 => ?_) (fun p1 => ?_)
      ·have y4 := near p1
       refine CallG.bool (c_jfine hf hs p1) (fun p2 => ?_) (fun p2 => ?_)
       ·refine RoundG.fresh (n0 := 17) (awT2 (kC st a b e h0 h1 r0 r1) (fun i => (B (i + 1)).2) (B 2).2 i x .ready (expI (okI st a b e h0 h1 r0) 3 s0 x 1)) rfl ?_ ?_
        ·exact ⟨bk rfl rfl, bk rfl rfl, bk rfl rfl, bk rfl rfl, bk rfl rfl, bk rfl rfl, bk rfl rfl, bk rfl rfl, bk rfl rfl, bk rfl rfl, bk rfl rfl, bk rfl rfl, bk rfl rfl, bk rfl rfl, bk rfl rfl, bk rfl rfl, trivial⟩
        refine RoundG.introF (m := false) mixed rfl rfl hpar ?_
        refine ⟨rfl, _, rfl, rfl, [(5, .ptr 2 0), (7, .ptr 9 0), (8, .ptr 10 0), (12, eInts (prL (nxtI 1 x)))], awT2 (kC st a b e h0 h1 r0 r1) (fun i => (B (i + 1)).2) (B 2).2 i x .busy (expI (okI st a b e h0 h1 r0) 3 s0 x 1), 17, rfl, ?_, ?_, ?_⟩
        ·exact ⟨⟨_, rfl, Weak.refl _ _⟩, ⟨_, rfl, Weak.refl _ _⟩, ⟨_, rfl, Weak.refl _ _⟩, ⟨_, rfl, Weak.refl _ _⟩, trivial⟩
        ·exact ⟨bk rfl rfl, bk rfl rfl, bk rfl rfl, bk rfl rfl, bk rfl rfl, bk rfl rfl, bk rfl rfl, bk rfl rfl, bk rfl rfl, bk rfl rfl, bk rfl rfl, bk rfl rfl, bk rfl rfl, bk rfl rfl, bk rfl rfl, bk rfl rfl, trivial⟩
        refine CallG.pure _ (c_keyOf (nxtI 1 x).1 (nxtI 1 x).2) ?_
        refine (Classical.em (∀ z ∈ (expI (okI st a b e h0 h1 r0) 3 s0 x 1).1, z.1 ≠ nxtI 1 x)).elim (fun hm => ?_) (fun hm => ?_)
        ·refine Ex.mk _ (aw_none2 (y := nxtI 1 x) (E := (expI (okI st a b e h0 h1 r0) 3 s0 x 1).1) (id := 1) rfl rfl rfl rfl (shOk_key (by omega) (by omega)) (lookD_none.2 hm)) ?_
         refine ifY ?_
         refine CallG.pure _ (c_keyOf (nxtI 1 x).1 (nxtI 1 x).2) ?_
         refine Ex.mk _ (aw_set (y := nxtI 1 x) (E := (expI (okI st a b e h0 h1 r0) 3 s0 x 1).1) (many := 3) (id := 1) (.inl rfl) rfl rfl rfl rfl (shOk_key (by omega) (by omega)) hm) ?_
         refine ex_app _ _ (app_line (by rw [List.length_map, List.length_map]) (by have := hA 1; omega) rfl) ?_
         refine ⟨_, _, rfl, rfl, ?_⟩
         refine ifN ?_
         refine Side.mk (by unfold fitsK; kernel_rfl) ?_
         have ek : expI (okI st a b e h0 h1 r0) 3 s0 x (0 + (1 + 1)) = ((expI (okI st a b e h0 h1 r0) 3 s0 x 1).1 ++ [(nxtI 1 x, 3)], (expI (okI st a b e h0 h1 r0) 3 s0 x 1).2 ++ [nxtI 1 x]) := (expI_succ 3 s0 x 1).trans (extI_new ⟨p1, p2⟩ hm)
         refine ⟨leb rfl, rfl, by decide, trivial, ⟨wp rfl (ltb rfl), wp rfl (ltb rfl), wp rfl (ltb rfl), wp rfl trivial, wp rfl trivial, wp rfl trivial, ⟨_, rfl, Weak.refl _ _, ⟨trivial, trivial, trivial⟩⟩, wp rfl trivial, trivial⟩, ?_, ⟨⟨_, rfl, under_awE _⟩, ⟨_, rfl, ltb rfl, trivial⟩, ⟨_, rfl, trivial, trivial⟩, ⟨_, rfl, under_lsP _ (ltb rfl), trivial⟩, ⟨_, rfl, trivial⟩, ⟨_, rfl, trivial, trivial⟩, ⟨_, rfl, under_lsP _ (ltb rfl), trivial⟩, ⟨_, rfl, trivial⟩, ⟨_, rfl, trivial, trivial⟩, ⟨_, rfl, ⟨unders_append (unders_map (under_eInts _) _) ⟨under_eInts _ _, trivial⟩, ltb rfl⟩, trivial⟩, ⟨_, rfl, trivial⟩, ⟨_, rfl, under_kC _ _ _ _ _ _ _ _ _⟩, ⟨_, rfl, under_eInts _ _, trivial⟩, ⟨_, rfl, trivial⟩, ⟨_, rfl, under_awB2 _ _ _⟩, trivial⟩⟩
         show Blks _ 16 (awT2 (kC st a b e h0 h1 r0 r1) (fun i => (B (i + 1)).2) (B 2).2 i x .ready (expI (okI st a b e h0 h1 r0) 3 s0 x (0 + (1 + 1))))
         rw [ek]
         exact ⟨bk rfl rfl, bk rfl rfl, bk rfl rfl, bk rfl rfl, bk rfl rfl, bk rfl rfl, bk rfl rfl, bk rfl rfl, bk rfl rfl, bk rfl rfl, ⟨congrArg (fun z => some (Blk.box [z] 38)) (lsP_snoc _ _ _), ltb rfl⟩, ⟨by rw [List.length_append]; rfl, ltb rfl⟩, bk rfl rfl, bk rfl rfl, bk rfl rfl, bk rfl rfl, trivial⟩
        ·refine Ex.mk _ (aw_look2 (y := nxtI 1 x) (E := (expI (okI st a b e h0 h1 r0) 3 s0 x 1).1) (id := 1) rfl rfl rfl rfl (shOk_key (by omega) (by omega)) (hE hm).choose_spec) ?_
         refine ifN ?_
         refine ⟨_, _, rfl, rfl, ?_⟩
         refine ifN ?_
         refine Side.mk (by unfold fitsK; kernel_rfl) ?_
         have ek : expI (okI st a b e h0 h1 r0) 3 s0 x (0 + (1 + 1)) = expI (okI st a b e h0 h1 r0) 3 s0 x 1 := (expI_succ 3 s0 x 1).trans (extI_old fun z => hm z.2)
         refine ⟨leb rfl, rfl, by decide, trivial, ⟨wp rfl (ltb rfl), wp rfl (ltb rfl), wp rfl (ltb rfl), wp rfl trivial, wp rfl trivial, wp rfl trivial, ⟨_, rfl, Weak.refl _ _, ⟨trivial, trivial, trivial⟩⟩, wp rfl trivial, trivial⟩, ?_, ⟨⟨_, rfl, under_awB2 _ _ _⟩, trivial⟩⟩
         show Blks _ 16 (awT2 (kC st a b e h0 h1 r0 r1) (fun i => (B (i + 1)).2) (B 2).2 i x .ready (expI (okI st a b e h0 h1 r0) 3 s0 x (0 + (1 + 1))))
         rw [ek]
         exact ⟨bk rfl rfl, bk rfl rfl, bk rfl rfl, bk rfl rfl, bk rfl rfl, bk rfl rfl, bk rfl rfl, bk rfl rfl, bk rfl rfl, bk rfl rfl, bk rfl rfl, bk rfl rfl, bk rfl rfl, bk rfl rfl, bk rfl rfl, bk rfl rfl, trivial⟩
       ·refine ifN ?_
        refine Side.mk (by unfold fitsK; kernel_rfl) ?_
        refine ⟨leb rfl, rfl, by decide, trivial, ⟨wp rfl (ltb rfl), wp rfl (ltb rfl), wp rfl (ltb rfl), wp rfl trivial, wp rfl trivial, wp rfl trivial, ⟨_, rfl, Weak.refl _ _, ⟨trivial, trivial, trivial⟩⟩, wp rfl trivial, trivial⟩, ?_, trivial⟩
        have ek : expI (okI st a b e h0 h1 r0) 3 s0 x (0 + (1 + 1)) = expI (okI st a b e h0 h1 r0) 3 s0 x 1 := (expI_succ 3 s0 x 1).trans (extI_old fun z => p2 z.1.2)
        show Blks _ 16 (awT2 (kC st a b e h0 h1 r0 r1) (fun i => (B (i + 1)).2) (B 2).2 i x .ready (expI (okI st a b e h0 h1 r0) 3 s0 x (0 + (1 + 1))))
        rw [ek]
        exact ⟨bk rfl rfl, bk rfl rfl, bk rfl rfl, bk rfl rfl, bk rfl rfl, bk rfl rfl, bk rfl rfl, bk rfl rfl, bk rfl rfl, bk rfl rfl, bk rfl rfl, bk rfl rfl, bk rfl rfl, bk rfl rfl, bk rfl rfl, bk rfl rfl, trivial⟩
      ·refine ifN ?_
       refine Side.mk (by unfold fitsK; kernel_rfl) ?_
       have ek : expI (okI st a b e h0 h1 r0) 3 s0 x (0 + (1 + 1)) = expI (okI st a b e h0 h1 r0) 3 s0 x 1 := (expI_succ 3 s0 x 1).trans (extI_old fun z => p1 z.1.1)
       refine ⟨leb rfl, rfl, by decide, trivial, ⟨wp rfl (ltb rfl), wp rfl (ltb rfl), wp rfl (ltb rfl), wp rfl trivial, wp rfl trivial, wp rfl trivial, ⟨_, rfl, Weak.refl _ _, ⟨trivial, trivial, trivial⟩⟩, wp rfl trivial, trivial⟩, ?_, trivial⟩
       show Blks _ 16 (awT2 (kC st a b e h0 h1 r0 r1) (fun i => (B (i + 1)).2) (B 2).2 i x .ready (expI (okI st a b e h0 h1 r0) 3 s0 x (0 + (1 + 1))))
       rw [ek]
       exact ⟨bk rfl rfl, bk rfl rfl, bk rfl rfl, bk rfl rfl, bk rfl rfl, bk rfl rfl, bk rfl rfl, bk rfl rfl, bk rfl rfl, bk rfl rfl, bk rfl rfl, bk rfl rfl, bk rfl rfl, bk rfl rfl, bk rfl rfl, bk rfl rfl, trivial⟩
     ·refine If.mk (fun h => absurd h (by decide)) (fun _ => ?_)
      refine ifN ?_
      refine ⟨leb rfl, ?_⟩
      refine Side.mk (by unfold fitsK; kernel_rfl) ?_
      exact ⟨leb rfl, rfl, by decide, trivial, ⟨wp rfl (ltb rfl), wp rfl (ltb rfl), wp rfl (ltb rfl), wp rfl trivial, wp rfl trivial, trivial⟩, ⟨bk rfl rfl, bk rfl rfl, bk rfl rfl, bk rfl rfl, bk rfl rfl, bk rfl rfl, bk rfl rfl, bk rfl rfl, bk rfl rfl, bk rfl rfl, bk rfl rfl, bk rfl rfl, bk rfl rfl, bk rfl rfl, bk rfl rfl, bk rfl rfl, trivial⟩, ⟨⟨_, rfl, under_awE _⟩, ⟨_, rfl, ltb rfl, trivial⟩, ⟨_, rfl, trivial, trivial⟩, ⟨_, rfl, under_lsP _ (ltb rfl), trivial⟩, ⟨_, rfl, trivial⟩, ⟨_, rfl, trivial, trivial⟩, ⟨_, rfl, under_lsP _ (ltb rfl), trivial⟩, ⟨_, rfl, trivial⟩, ⟨_, rfl, trivial, trivial⟩, ⟨_, rfl, under_lsP _ (ltb rfl), trivial⟩, ⟨_, rfl, trivial⟩, ⟨_, rfl, under_kC _ _ _ _ _ _ _ _ _⟩, ⟨_, rfl, under_eInts _ _, trivial⟩, ⟨_, rfl, trivial⟩, ⟨_, rfl, under_awB2 _ _ _⟩, trivial⟩⟩
   ·refine If.mk (fun _ => ?_) (fun h => absurd (by decide) h)
    refine ifY ?_
    refine LoopG.at (n0 := 16) rfl (loop_up mixed (m := false) (fun r => [(0, .yld 15), (1, .ptr 12 0), (2, .ptr 13 0), (4, n' (1 : Nat)), (12, n' 2), (13, n' (1 : Nat)), (16, .agg [n' (-1), n' 1]), (17, n' (r : Nat))])
     (fun r => awT2 (kC st a b e h0 h1 r0 r1) (fun i => (B (i + 1)).2) (B 2).2 i x .ready (expI (okI st a b e h0 h1 r0) 3 s0 x (2 + r))) (fun _ => True) 2 1 (leb rfl) trivial ?_ ?_ ?_)
    ·exact ⟨wp rfl (ltb rfl), wp rfl (ltb rfl), wp rfl (ltb rfl), wp rfl trivial, wp rfl trivial, wp rfl trivial, ⟨_, rfl, Weak.refl _ _, ⟨trivial, trivial, trivial⟩⟩, wp rfl trivial, trivial⟩
    ·exact ⟨bk rfl rfl, bk rfl rfl, bk rfl rfl, bk rfl rfl, bk rfl rfl, bk rfl rfl, bk rfl rfl, bk rfl rfl, bk rfl rfl, bk rfl rfl, bk rfl rfl, bk rfl rfl, bk rfl rfl, bk rfl rfl, bk rfl rfl, bk rfl rfl, trivial⟩
    ·intro r hr _
     have hr3 : r = 0 ∨ r = 1 ∨ r = 2 := by omega
     rcases hr3 with rfl | rfl | rfl
     ·refine If.mk (fun _ => ?_) (fun h => absurd (by decide) h)
      refine ifY ?_
      refine Ex.mk _ rfl ?_
      refine CallG.pure _ (c_turnJ2 hx4.2) ?_
      refine CallG.bool (c_jpose st a b (nxtI 2 x).1 (nxtI 2 x).2) (fun p1 => ?_) (fun p1 => ?_)
      ·have y4 := near p1
       refine CallG.bool (c_jfine hf hs p1) (fun p2 => ?_) (fun p2 => ?_)
       ·refine RoundG.fresh (n0 := 17) (awT2 (kC st a b e h0 h1 r0 r1) (fun i => (B (i + 1)).2) (B 2).2 i x .ready (expI (okI st a b e h0 h1 r0) 3 s0 x 2)) rfl ?_ ?_
        ·exact ⟨bk rfl rfl, bk rfl rfl, bk rfl rfl, bk rfl rfl, bk rfl rfl, bk rfl rfl, bk rfl rfl, bk rfl rfl, bk rfl rfl, bk rfl rfl, bk rfl rfl, bk rfl rfl, bk rfl rfl, bk rfl rfl, bk rfl rfl, bk rfl rfl, trivial⟩
        refine RoundG.introF (m := false) mixed rfl rfl hpar ?_
        refine ⟨rfl, _, rfl, rfl, [(5, .ptr 2 0), (7, .ptr 9 0), (8, .ptr 10 0), (12, eInts (prL (nxtI 2 x)))], awT2 (kC st a b e h0 h1 r0 r1) (fun i => (B (i + 1)).2) (B 2).2 i x .busy (expI (okI st a b e h0 h1 r0) 3 s0 x 2), 17, rfl, ?_, ?_, ?_⟩
        ·exact ⟨⟨_, rfl, Weak.refl _ _⟩, ⟨_, rfl, Weak.refl _ _⟩, ⟨_, rfl, Weak.refl _ _⟩, ⟨_, rfl, Weak.refl _ _⟩, trivial⟩
        ·exact ⟨bk rfl rfl, bk rfl rfl, bk rfl rfl, bk rfl rfl, bk rfl rfl, bk rfl rfl, bk rfl rfl, bk rfl rfl, bk rfl rfl, bk rfl rfl, bk rfl rfl, bk rfl rfl, bk rfl rfl, bk rfl rfl, bk rfl rfl, bk rfl rfl, trivial⟩
        refine CallG.pure _ (c_keyOf (nxtI 2 x).1 (nxtI 2 x).2) ?_
        refine (Classical.em (∀ z ∈ (expI (okI st a b e h0 h1 r0) 3 s0 x 2).1, z.1 ≠ nxtI 2 x)).elim (fun hm => ?_) (fun hm => ?_)
        ·refine Ex.mk _ (aw_none2 (y := nxtI 2 x) (E := (expI (okI st a b e h0 h1 r0) 3 s0 x 2).1) (id := 1) rfl rfl rfl rfl (shOk_key (by omega) (by omega)) (lookD_none.2 hm)) ?_
         refine ifY ?_
         refine CallG.pure _ (c_keyOf (nxtI 2 x).1 (nxtI 2 x).2) ?_
         refine Ex.mk _ (aw_set (y := nxtI 2 x) (E := (expI (okI st a b e h0 h1 r0) 3 s0 x 2).1) (many := 3) (id := 1) (.inl rfl) rfl rfl rfl rfl (shOk_key (by omega) (by omega)) hm) ?_
         refine ex_app _ _ (app_line (by rw [List.length_map, List.length_map]) (by have := hA 2; omega) rfl) ?_
         refine ⟨_, _, rfl, rfl, ?_⟩
         refine ifN ?_
         refine Side.mk (by unfold fitsK; kernel_rfl) ?_
         have ek : expI (okI st a b e h0 h1 r0) 3 s0 x (2 + (0 + 1)) = ((expI (okI st a b e h0 h1 r0) 3 s0 x 2).1 ++ [(nxtI 2 x, 3)], (expI (okI st a b e h0 h1 r0) 3 s0 x 2).2 ++ [nxtI 2 x]) := (expI_succ 3 s0 x 2).trans (extI_new ⟨p1, p2⟩ hm)
         refine ⟨leb rfl, rfl, by decide, trivial, ⟨wp rfl (ltb rfl), wp rfl (ltb rfl), wp rfl (ltb rfl), wp rfl trivial, wp rfl trivial, wp rfl trivial, ⟨_, rfl, Weak.refl _ _, ⟨trivial, trivial, trivial⟩⟩, wp rfl trivial, trivial⟩, ?_, ⟨⟨_, rfl, under_awE _⟩, ⟨_, rfl, ltb rfl, trivial⟩, ⟨_, rfl, trivial, trivial⟩, ⟨_, rfl, under_lsP _ (ltb rfl), trivial⟩, ⟨_, rfl, trivial⟩, ⟨_, rfl, trivial, trivial⟩, ⟨_, rfl, under_lsP _ (ltb rfl), trivial⟩, ⟨_, rfl, trivial⟩, ⟨_, rfl, trivial, trivial⟩, ⟨_, rfl, ⟨unders_append (unders_map (under_eInts _) _) ⟨under_eInts _ _, trivial⟩, ltb rfl⟩, trivial⟩, ⟨_, rfl, trivial⟩, ⟨_, rfl, under_kC _ _ _ _ _ _ _ _ _⟩, ⟨_, rfl, under_eInts _ _, trivial⟩, ⟨_, rfl, trivial⟩, ⟨_, rfl, under_awB2 _ _ _⟩, trivial⟩⟩
         show Blks _ 16 (awT2 (kC st a b e h0 h1 r0 r1) (fun i => (B (i + 1)).2) (B 2).2 i x .ready (expI (okI st a b e h0 h1 r0) 3 s0 x (2 + (0 + 1))))
         rw [ek]
         exact ⟨bk rfl rfl, bk rfl rfl, bk rfl rfl, bk rfl rfl, bk rfl rfl, bk rfl rfl, bk rfl rfl, bk rfl rfl, bk rfl rfl, bk rfl rfl, ⟨congrArg (fun z => some (Blk.box [z] 38)) (lsP_snoc _ _ _), ltb rfl⟩, ⟨by rw [List.length_append]; rfl, ltb rfl⟩, bk rfl rfl, bk rfl rfl, bk rfl rfl, bk rfl rfl, trivial⟩
        ·refine Ex.mk _ (aw_look2 (y := nxtI 2 x) (E := (expI (okI st a b e h0 h1 r0) 3 s0 x 2).1) (id := 1) rfl rfl rfl rfl (shOk_key (by omega) (by omega)) (hE hm).choose_spec) ?_
         refine ifN ?_
         refine ⟨_, _, rfl, rfl, ?_⟩
         refine ifN ?_
         refine Side.mk (by unfold fitsK; kernel_rfl) ?_
         have ek : expI (okI st a b e h0 h1 r0) 3 s0 x (2 + (0 + 1)) = expI (okI st a b e h0 h1 r0) 3 s0 x 2 := (expI_succ 3 s0 x 2).trans (extI_old fun z => hm z.2)
         refine ⟨leb rfl, rfl, by decide, trivial, ⟨wp rfl (ltb rfl), wp rfl (ltb rfl), wp rfl (ltb rfl), wp rfl trivial, wp rfl trivial, wp rfl trivial, ⟨_, rfl, Weak.refl _ _, ⟨trivial, trivial, trivial⟩⟩, wp rfl trivial, trivial⟩, ?_, ⟨⟨_, rfl, under_awB2 _ _ _⟩, trivial⟩⟩
         show Blks _ 16 (awT2 (kC st a b e h0 h1 r0 r1) (fun i => (B (i + 1)).2) (B 2).2 i x .ready (expI (okI st a b e h0 h1 r0) 3 s0 x (2 + (0 + 1))))
         rw [ek]
         exact ⟨bk rfl rfl, bk rfl rfl, bk rfl rfl, bk rfl rfl, bk rfl rfl, bk rfl rfl, bk rfl rfl, bk rfl rfl, bk rfl rfl, bk rfl rfl, bk rfl rfl, bk rfl rfl, bk rfl rfl, bk rfl rfl, bk rfl rfl, bk rfl rfl, trivial⟩
       ·refine ifN ?_
        refine Side.mk (by unfold fitsK; kernel_rfl) ?_
        refine ⟨leb rfl, rfl, by decide, trivial, ⟨wp rfl (ltb rfl), wp rfl (ltb rfl), wp rfl (ltb rfl), wp rfl trivial, wp rfl trivial, wp rfl trivial, ⟨_, rfl, Weak.refl _ _, ⟨trivial, trivial, trivial⟩⟩, wp rfl trivial, trivial⟩, ?_, trivial⟩
        have ek : expI (okI st a b e h0 h1 r0) 3 s0 x (2 + (0 + 1)) = expI (okI st a b e h0 h1 r0) 3 s0 x 2 := (expI_succ 3 s0 x 2).trans (extI_old fun z => p2 z.1.2)
        show Blks _ 16 (awT2 (kC st a b e h0 h1 r0 r1) (fun i => (B (i + 1)).2) (B 2).2 i x .ready (expI (okI st a b e h0 h1 r0) 3 s0 x (2 + (0 + 1))))
        rw [ek]
        exact ⟨bk rfl rfl, bk rfl rfl, bk rfl rfl, bk rfl rfl, bk rfl rfl, bk rfl rfl, bk rfl rfl, bk rfl rfl, bk rfl rfl, bk rfl rfl, bk rfl rfl, bk rfl rfl, bk rfl rfl, bk rfl rfl, bk rfl rfl, bk rfl rfl, trivial⟩
      ·refine ifN ?_
       refine Side.mk (by unfold fitsK; kernel_rfl) ?_
       have ek : expI (okI st a b e h0 h1 r0) 3 s0 x (2 + (0 + 1)) = expI (okI st a b e h0 h1 r0) 3 s0 x 2 := (expI_succ 3 s0 x 2).trans (extI_old fun z => p1 z.1.1)
       refine ⟨leb rfl, rfl, by decide, trivial, ⟨wp rfl (ltb rfl), wp rfl (ltb rfl), wp rfl (ltb rfl), wp rfl trivial, wp rfl trivial, wp rfl trivial, ⟨_, rfl, Weak.refl _ _, ⟨trivial, trivial, trivial⟩⟩, wp rfl trivial, trivial⟩, ?_, trivial⟩
       show Blks _ 16 (awT2 (kC st a b e h0 h1 r0 r1) (fun i => (B (i + 1)).2) (B 2).2 i x .ready (expI (okI st a b e h0 h1 r0) 3 s0 x (2 + (0 + 1))))
       rw [ek]
       exact ⟨bk rfl rfl, bk rfl rfl, bk rfl rfl, bk rfl rfl, bk rfl rfl, bk rfl rfl, bk rfl rfl, bk rfl rfl, bk rfl rfl, bk rfl rfl, bk rfl rfl, bk rfl rfl, bk rfl rfl, bk rfl rfl, bk rfl rfl, bk rfl rfl, trivial⟩
     ·refine If.mk (fun _ => ?_) (fun h => absurd (by decide) h)
      refine ifY ?_
      refine Ex.mk _ rfl ?_
      refine CallG.pure _ (c_turnJ3 hx4.2) ?_
      refine CallG.bool (c_jpose st a b (nxtI 3 x).1 (nxtI 3 x).2) (fun p1 => ?_) (fun p1 => ?_)
      ·have y4 := near p1
       refine CallG.bool (c_jfine hf hs p1) (fun p2 => ?_) (fun p2 => ?_)
       ·refine RoundG.fresh (n0 := 17) (awT2 (kC st a b e h0 h1 r0 r1) (fun i => (B (i + 1)).2) (B 2).2 i x .ready (expI (okI st a b e h0 h1 r0) 3 s0 x 3)) rfl ?_ ?_
        ·exact ⟨bk rfl rfl, bk rfl rfl, bk rfl rfl, bk rfl rfl, bk rfl rfl, bk rfl rfl, bk rfl rfl, bk rfl rfl, bk rfl rfl, bk rfl rfl, bk rfl rfl, bk rfl rfl, bk rfl rfl, bk rfl rfl, bk rfl rfl, bk rfl rfl, trivial⟩
        refine RoundG.introF (m := false) mixed rfl rfl hpar ?_
        refine ⟨rfl, _, rfl, rfl, [(5, .ptr 2 0), (7, .ptr 9 0), (8, .ptr 10 0), (12, eInts (prL (nxtI 3 x)))], awT2 (kC st a b e h0 h1 r0 r1) (fun i => (B (i + 1)).2) (B 2).2 i x .busy (expI (okI st a b e h0 h1 r0) 3 s0 x 3), 17, rfl, ?_, ?_, ?_⟩
        ·exact ⟨⟨_, rfl, Weak.refl _ _⟩, ⟨_, rfl, Weak.refl _ _⟩, ⟨_, rfl, Weak.refl _ _⟩, ⟨_, rfl, Weak.refl _ _⟩, trivial⟩
        ·exact ⟨bk rfl rfl, bk rfl rfl, bk rfl rfl, bk rfl rfl, bk rfl rfl, bk rfl rfl, bk rfl rfl, bk rfl rfl, bk rfl rfl, bk rfl rfl, bk rfl rfl, bk rfl rfl, bk rfl rfl, bk rfl rfl, bk rfl rfl, bk rfl rfl, trivial⟩
        refine CallG.pure _ (c_keyOf (nxtI 3 x).1 (nxtI 3 x).2) ?_
        refine (Classical.em (∀ z ∈ (expI (okI st a b e h0 h1 r0) 3 s0 x 3).1, z.1 ≠ nxtI 3 x)).elim (fun hm => ?_) (fun hm => ?_)
        ·refine Ex.mk _ (aw_none2 (y := nxtI 3 x) (E := (expI (okI st a b e h0 h1 r0) 3 s0 x 3).1) (id := 1) rfl rfl rfl rfl (shOk_key (by omega) (by omega)) (lookD_none.2 hm)) ?_
         refine ifY ?_
         refine CallG.pure _ (c_keyOf (nxtI 3 x).1 (nxtI 3 x).2) ?_
         refine Ex.mk _ (aw_set (y := nxtI 3 x) (E := (expI (okI st a b e h0 h1 r0) 3 s0 x 3).1) (many := 3) (id := 1) (.inl rfl) rfl rfl rfl rfl (shOk_key (by omega) (by omega)) hm) ?_
         refine ex_app _ _ (app_line (by rw [List.length_map, List.length_map]) (by have := hA 3; omega) rfl) ?_
         refine ⟨_, _, rfl, rfl, ?_⟩
         refine ifN ?_
         refine Side.mk (by unfold fitsK; kernel_rfl) ?_
         have ek : expI (okI st a b e h0 h1 r0) 3 s0 x (2 + (1 + 1)) = ((expI (okI st a b e h0 h1 r0) 3 s0 x 3).1 ++ [(nxtI 3 x, 3)], (expI (okI st a b e h0 h1 r0) 3 s0 x 3).2 ++ [nxtI 3 x]) := (expI_succ 3 s0 x 3).trans (extI_new ⟨p1, p2⟩ hm)
         refine ⟨leb rfl, rfl, by decide, trivial, ⟨wp rfl (ltb rfl), wp rfl (ltb rfl), wp rfl (ltb rfl), wp rfl trivial, wp rfl trivial, wp rfl trivial, ⟨_, rfl, Weak.refl _ _, ⟨trivial, trivial, trivial⟩⟩, wp rfl trivial, trivial⟩, ?_, ⟨⟨_, rfl, under_awE _⟩, ⟨_, rfl, ltb rfl, trivial⟩, ⟨_, rfl, trivial, trivial⟩, ⟨_, rfl, under_lsP _ (ltb rfl), trivial⟩, ⟨_, rfl, trivial⟩, ⟨_, rfl, trivial, trivial⟩, ⟨_, rfl, under_lsP _ (ltb rfl), trivial⟩, ⟨_, rfl, trivial⟩, ⟨_, rfl, trivial, trivial⟩, ⟨_, rfl, ⟨unders_append (unders_map (under_eInts _) _) ⟨under_eInts _ _, trivial⟩, ltb rfl⟩, trivial⟩, ⟨_, rfl, trivial⟩, ⟨_, rfl, under_kC _ _ _ _ _ _ _ _ _⟩, ⟨_, rfl, under_eInts _ _, trivial⟩, ⟨_, rfl, trivial⟩, ⟨_, rfl, under_awB2 _ _ _⟩, trivial⟩⟩
         show Blks _ 16 (awT2 (kC st a b e h0 h1 r0 r1) (fun i => (B (i + 1)).2) (B 2).2 i x .ready (expI (okI st a b e h0 h1 r0) 3 s0 x (2 + (1 + 1))))
         rw [ek]
         exact ⟨bk rfl rfl, bk rfl rfl, bk rfl rfl, bk rfl rfl, bk rfl rfl, bk rfl rfl, bk rfl rfl, bk rfl rfl, bk rfl rfl, bk rfl rfl, ⟨congrArg (fun z => some (Blk.box [z] 38)) (lsP_snoc _ _ _), ltb rfl⟩, ⟨by rw [List.length_append]; rfl, ltb rfl⟩, bk rfl rfl, bk rfl rfl, bk rfl rfl, bk rfl rfl, trivial⟩
        ·refine Ex.mk _ (aw_look2 (y := nxtI 3 x) (E := (expI (okI st a b e h0 h1 r0) 3 s0 x 3).1) (id := 1) rfl rfl rfl rfl (shOk_key (by omega) (by omega)) (hE hm).choose_spec) ?_
         refine ifN ?_
         refine ⟨_, _, rfl, rfl, ?_⟩
         refine ifN ?_
         refine Side.mk (by unfold fitsK; kernel_rfl) ?_
         have ek : expI (okI st a b e h0 h1 r0) 3 s0 x (2 + (1 + 1)) = expI (okI st a b e h0 h1 r0) 3 s0 x 3 := (expI_succ 3 s0 x 3).trans (extI_old fun z => hm z.2)
         refine ⟨leb rfl, rfl, by decide, trivial, ⟨wp rfl (ltb rfl), wp rfl (ltb rfl), wp rfl (ltb rfl), wp rfl trivial, wp rfl trivial, wp rfl trivial, ⟨_, rfl, Weak.refl _ _, ⟨trivial, trivial, trivial⟩⟩, wp rfl trivial, trivial⟩, ?_, ⟨⟨_, rfl, under_awB2 _ _ _⟩, trivial⟩⟩
         show Blks _ 16 (awT2 (kC st a b e h0 h1 r0 r1) (fun i => (B (i + 1)).2) (B 2).2 i x .ready (expI (okI st a b e h0 h1 r0) 3 s0 x (2 + (1 + 1))))
         rw [ek]
         exact ⟨bk rfl rfl, bk rfl rfl, bk rfl rfl, bk rfl rfl, bk rfl rfl, bk rfl rfl, bk rfl rfl, bk rfl rfl, bk rfl rfl, bk rfl rfl, bk rfl rfl, bk rfl rfl, bk rfl rfl, bk rfl rfl, bk rfl rfl, bk rfl rfl, trivial⟩
       ·refine ifN ?_
        refine Side.mk (by unfold fitsK; kernel_rfl) ?_
        refine ⟨leb rfl, rfl, by decide, trivial, ⟨wp rfl (ltb rfl), wp rfl (ltb rfl), wp rfl (ltb rfl), wp rfl trivial, wp rfl trivial, wp rfl trivial, ⟨_, rfl, Weak.refl _ _, ⟨trivial, trivial, trivial⟩⟩, wp rfl trivial, trivial⟩, ?_, trivial⟩
        have ek : expI (okI st a b e h0 h1 r0) 3 s0 x (2 + (1 + 1)) = expI (okI st a b e h0 h1 r0) 3 s0 x 3 := (expI_succ 3 s0 x 3).trans (extI_old fun z => p2 z.1.2)
        show Blks _ 16 (awT2 (kC st a b e h0 h1 r0 r1) (fun i => (B (i + 1)).2) (B 2).2 i x .ready (expI (okI st a b e h0 h1 r0) 3 s0 x (2 + (1 + 1))))
        rw [ek]
        exact ⟨bk rfl rfl, bk rfl rfl, bk rfl rfl, bk rfl rfl, bk rfl rfl, bk rfl rfl, bk rfl rfl, bk rfl rfl, bk rfl rfl, bk rfl rfl, bk rfl rfl, bk rfl rfl, bk rfl rfl, bk rfl rfl, bk rfl rfl, bk rfl rfl, trivial⟩
      ·refine ifN ?_
       refine Side.mk (by unfold fitsK; kernel_rfl) ?_
       have ek : expI (okI st a b e h0 h1 r0) 3 s0 x (2 + (1 + 1)) = expI (okI st a b e h0 h1 r0) 3 s0 x 3 := (expI_succ 3 s0 x 3).trans (extI_old fun z => p1 z.1.1)
       refine ⟨leb rfl, rfl, by decide, trivial, ⟨wp rfl (ltb rfl), wp rfl (ltb rfl), wp rfl (ltb rfl), wp rfl trivial, wp rfl trivial, wp rfl trivial, ⟨_, rfl, Weak.refl _ _, ⟨trivial, trivial, trivial⟩⟩, wp rfl trivial, trivial⟩, ?_, trivial⟩
       show Blks _ 16 (awT2 (kC st a b e h0 h1 r0 r1) (fun i => (B (i + 1)).2) (B 2).2 i x .ready (expI (okI st a b e h0 h1 r0) 3 s0 x (2 + (1 + 1))))
       rw [ek]
       exact ⟨bk rfl rfl, bk rfl rfl, bk rfl rfl, bk rfl rfl, bk rfl rfl, bk rfl rfl, bk rfl rfl, bk rfl rfl, bk rfl rfl, bk rfl rfl, bk rfl rfl, bk rfl rfl, bk rfl rfl, bk rfl rfl, bk rfl rfl, bk rfl rfl, trivial⟩
     ·refine If.mk (fun h => absurd h (by decide)) (fun _ => ?_)
      refine ifN ?_
      refine ⟨leb rfl, ?_⟩
      refine Side.mk (by unfold fitsK; kernel_rfl) ?_
      exact ⟨leb rfl, rfl, by decide, trivial, ⟨wp rfl (ltb rfl), wp rfl (ltb rfl), wp rfl (ltb rfl), wp rfl trivial, wp rfl trivial, trivial⟩, ⟨bk rfl rfl, bk rfl rfl, bk rfl rfl, bk rfl rfl, bk rfl rfl, bk rfl rfl, bk rfl rfl, bk rfl rfl, bk rfl rfl, bk rfl rfl, bk rfl rfl, bk rfl rfl, bk rfl rfl, bk rfl rfl, bk rfl rfl, bk rfl rfl, trivial⟩, ⟨⟨_, rfl, under_awE _⟩, ⟨_, rfl, ltb rfl, trivial⟩, ⟨_, rfl, trivial, trivial⟩, ⟨_, rfl, under_lsP _ (ltb rfl), trivial⟩, ⟨_, rfl, trivial⟩, ⟨_, rfl, trivial, trivial⟩, ⟨_, rfl, under_lsP _ (ltb rfl), trivial⟩, ⟨_, rfl, trivial⟩, ⟨_, rfl, trivial, trivial⟩, ⟨_, rfl, under_lsP _ (ltb rfl), trivial⟩, ⟨_, rfl, trivial⟩, ⟨_, rfl, under_kC _ _ _ _ _ _ _ _ _⟩, ⟨_, rfl, under_eInts _ _, trivial⟩, ⟨_, rfl, trivial⟩, ⟨_, rfl, under_awB2 _ _ _⟩, trivial⟩⟩
   ·refine If.mk (fun h => absurd h (by decide)) (fun _ => ?_)
    refine ifN ?_
    refine ⟨leb rfl, .inl ⟨.inr rfl, _, rfl, rfl, ?_⟩⟩
    refine ⟨_, _, rfl, (fun e => by cases e), rfl, ?_⟩
    refine Side.mk (fits64 (by omega)) ?_
    have en : rowI (okI st a b e h0 h1 r0) 3 ((B 2).1, []) ((B 2).2.take (i + 1)) = expI (okI st a b e h0 h1 r0) 3 s0 x 4 := by rw [etk, rowI_snoc, ← hs0]
    refine ⟨leb rfl, rfl, hi', trivial, ⟨wp rfl (ltb rfl), wp rfl (ltb rfl), wp rfl (ltb rfl), wp rfl (ltb rfl), ⟨_, rfl, Weak.refl _ _, under_eLists _ _⟩, wp rfl trivial, ⟨_, rfl, Weak.of_eq (congrArg n' (by omega)), trivial⟩, trivial⟩, ?_, ⟨⟨_, rfl, under_awE _⟩, ⟨_, rfl, ltb rfl, trivial⟩, ⟨_, rfl, trivial, trivial⟩, ⟨_, rfl, under_lsP _ (ltb rfl), trivial⟩, ⟨_, rfl, trivial⟩, ⟨_, rfl, trivial, trivial⟩, ⟨_, rfl, under_lsP _ (ltb rfl), trivial⟩, ⟨_, rfl, trivial⟩, ⟨_, rfl, trivial, trivial⟩, ⟨_, rfl, under_lsP _ (ltb rfl), trivial⟩, ⟨_, rfl, trivial⟩, trivial⟩⟩
    refine ⟨bk rfl rfl, ⟨?_, ltb rfl⟩, bk rfl rfl, bk rfl rfl, bk rfl rfl, bk rfl rfl, bk rfl rfl, bk rfl rfl, bk rfl rfl, bk rfl rfl, ⟨?_, ltb rfl⟩, ⟨?_, ltb rfl⟩, trivial⟩
    ·rw [en]; rfl
    ·rw [en]; rfl
    ·rw [en]; rfl
 refine ifN ?_
 obtain rfl : i = (B 2).2.length := by
  have : ¬ (i : Int) < ((B 2).2.length : Nat) := g2
  omega
 refine ⟨leb rfl, ?_⟩
 refine Side.mk (by unfold fitsK; kernel_rfl) ?_
 have eB3 : B 3 = rowI (okI st a b e h0 h1 r0) 3 ((B 2).1, []) ((B 2).2.take (B 2).2.length) := by rw [List.take_length]; exact hBs 2
 refine LoopG.fresh (n0 := 13) [(2, .ptr 0 0), (5, .ptr 2 0), (6, ePoses (B 3).2), (7, .ptr 12 0)] [(0, kBox st a b e h0 h1 r0 r1), (1, .map (.arr 5) (kE (awE (B 3).1))), (2, .box [.mp 1] 111), (3, .box [n' 1] 3), (4, .box [lsP 5 (B 1).2] 38), (5, .row (B 1).2.length), (6, .box [n' 2] 3), (7, .box [lsP 8 (B 2).2] 38), (8, .row (B 2).2.length), (9, .box [n' 3] 3), (10, .box [lsP 11 (B 3).2] 38), (11, .row (B 3).2.length), (12, .box [n' 4] 3)] rfl ?_ ?_ ?_
 ·exact ⟨⟨_, rfl, Weak.refl _ _⟩, ⟨_, rfl, Weak.refl _ _⟩, ⟨_, rfl, by rw [eB3]; exact wk_lsP 11 _⟩, ⟨_, rfl, Weak.refl _ _⟩, trivial⟩
 ·exact ⟨bk rfl rfl, ⟨by rw [eB3]; rfl, ltb rfl⟩, bk rfl rfl, bk rfl rfl, bk rfl rfl, bk rfl rfl, bk rfl rfl, bk rfl rfl, bk rfl rfl, bk rfl rfl, ⟨by rw [eB3]; rfl, ltb rfl⟩, ⟨by rw [eB3]; rfl, ltb rfl⟩, bk rfl rfl, trivial⟩
 refine LoopG.round mixed (m := false) ?_
 refine If.mk (fun g => ?_) (fun g => ?_)
 rotate_left
 ·refine ifN ?_
  exact ⟨.inl rfl, rfl, 1, _, rfl, rfl, lits _, congrArg (fun s : AwS => kE (awE s.1)) (hBe (nul g) 1).symm⟩
 refine ifY ?_
 refine LoopG.ghost (LoopG.at (n0 := 15) rfl (LoopG.box 13 [.sl 0 [] (.own 14 0 1)] 1 (leb rfl) (leb rfl) rfl (.cons (Weak.own (r := 14) (g := 0) 1 rfl) (.nil _)) ?_))
 refine loop_up mixed (m := false) (fun i => [(2, .ptr 0 0), (5, .ptr 2 0), (7, .ptr 12 0), (8, .ptr 13 0), (26, ePoses (B 3).2), (27, n' (B 3).2.length), (28, n' (i : Nat))])
  (fun i => [(0, kBox st a b e h0 h1 r0 r1), (1, .map (.arr 5) (kE (awE (rowI (okI st a b e h0 h1 r0) 4 ((B 3).1, []) ((B 3).2.take i)).1))), (2, .box [.mp 1] 111), (3, .box [n' 1] 3), (4, .box [lsP 5 (B 1).2] 38), (5, .row (B 1).2.length), (6, .box [n' 2] 3), (7, .box [lsP 8 (B 2).2] 38), (8, .row (B 2).2.length), (9, .box [n' 3] 3), (10, .box [lsP 11 (B 3).2] 38), (11, .row (B 3).2.length), (12, .box [n' 4] 3), (13, .box [lsP 14 (rowI (okI st a b e h0 h1 r0) 4 ((B 3).1, []) ((B 3).2.take i)).2] 38), (14, .row (rowI (okI st a b e h0 h1 r0) 4 ((B 3).1, []) ((B 3).2.take i)).2.length)]) (fun _ => True) (B 3).2.length 1 (leb rfl) trivial ?_ ?_ ?_
 ·exact ⟨wp rfl (ltb rfl), wp rfl (ltb rfl), wp rfl (ltb rfl), wp rfl (ltb rfl), ⟨_, rfl, Weak.refl _ _, under_eLists _ _⟩, ⟨_, rfl, Weak.of_eq (congrArg n' (by rw [poses_len])), trivial⟩, wp rfl trivial, trivial⟩
 ·exact ⟨bk rfl rfl, bk rfl rfl, bk rfl rfl, bk rfl rfl, bk rfl rfl, bk rfl rfl, bk rfl rfl, bk rfl rfl, bk rfl rfl, bk rfl rfl, bk rfl rfl, bk rfl rfl, bk rfl rfl, bk rfl rfl, bk rfl rfl, trivial⟩
 intro i hi _
 refine If.mk (fun g2 => ?_) (fun g2 => ?_)
 ·refine ifY ?_
  have hi' : i < (B 3).2.length := by
   have : (i : Int) < ((B 3).2.length : Nat) := g2
   omega
  obtain ⟨x, hx, etk, hxm⟩ := at_some (l := (B 3).2) (r := i) hi'
  have hx4 := near (hBok 3 x hxm).1
  refine Ex.mk _ (jx_lists (r := i) rfl (poses_at hx)) ?_
  refine Ex.mk _ rfl ?_
  refine CallG.inlineP (m := false) (fn := Tryz.f50) (c := (Tryz.f50.body).getD .skip) mixed (by kernel_rfl) (by kernel_rfl) (of_decide_eq_true (by kernel_rfl)) ?_
  refine .inl ⟨.inl rfl, _, rfl, rfl, ?_⟩
  obtain ⟨s0, hs0⟩ : ∃ s0, s0 = rowI (okI st a b e h0 h1 r0) 4 ((B 3).1, []) ((B 3).2.take i) := ⟨_, rfl⟩
  have hA : ∀ r, (expI (okI st a b e h0 h1 r0) 4 s0 x r).2.length ≤ 4 * i + r := fun r => by
   have q1 := exp_len (ok := okI st a b e h0 h1 r0) 4 s0 x r
   have q2 := row_len (ok := okI st a b e h0 h1 r0) 4 ((B 3).2.take i) ((B 3).1, [])
   rw [← hs0, List.length_take] at q2
   have q3 : (((B 3).1, ([] : List PoseD)) : AwS).2.length = 0 := rfl
   omega
  have hi4 : i ≤ 256 := Nat.le_trans hi (Nat.le_trans (hBl 3) (by decide))
  refine RangeG.fresh (n0 := 17) (awS3 (B 3).2 i) ((awT3 (kC st a b e h0 h1 r0 r1) (fun i => (B (i + 1)).2) (B 3).2 i x .ready s0).take 17) rfl ?_ ?_ ?_
  ·exact ⟨⟨_, rfl, Weak.refl _ _⟩, ⟨_, rfl, Weak.refl _ _⟩, ⟨_, rfl, Weak.refl _ _⟩, ⟨_, rfl, Weak.refl _ _⟩, ⟨_, rfl, Weak.refl _ _⟩, ⟨_, rfl, Weak.refl _ _⟩, ⟨_, rfl, Weak.refl _ _⟩, ⟨_, rfl, Weak.refl _ _⟩, trivial⟩
  ·rw [hs0]; exact ⟨bk rfl rfl, bk rfl rfl, bk rfl rfl, bk rfl rfl, bk rfl rfl, bk rfl rfl, bk rfl rfl, bk rfl rfl, bk rfl rfl, bk rfl rfl, bk rfl rfl, bk rfl rfl, bk rfl rfl, bk rfl rfl, bk rfl rfl, bk rfl rfl, bk rfl rfl, trivial⟩
  refine RangeG.outer (f := 101) (first := []) (captured := [.ptr 15 0, .ptr 16 0]) rfl rfl rfl ?_
  refine CallG.inlineP (m := false) (fn := Tryz.f101) (c := (Tryz.f101.body).getD .skip) mixed (by kernel_rfl) (by kernel_rfl) (of_decide_eq_true (by kernel_rfl)) ?_
  refine LoopG.at (n0 := 19) rfl (loop_up mixed (m := false) (fun l => [(0, .yld 18), (1, .ptr 15 0), (2, .ptr 16 0), (12, n' 2), (13, n' (l : Nat))])
   (fun l => awT3 (kC st a b e h0 h1 r0 r1) (fun i => (B (i + 1)).2) (B 3).2 i x .ready (expI (okI st a b e h0 h1 r0) 4 s0 x (2 * l))) (fun _ => True) 2 1 (leb rfl) trivial ?_ ?_ ?_)
  ·exact ⟨wp rfl (ltb rfl), wp rfl (ltb rfl), wp rfl (ltb rfl), wp rfl trivial, wp rfl trivial, trivial⟩
  ·exact ⟨bk rfl rfl, bk rfl rfl, bk rfl rfl, bk rfl rfl, bk rfl rfl, bk rfl rfl, bk rfl rfl, bk rfl rfl, bk rfl rfl, bk rfl rfl, bk rfl rfl, bk rfl rfl, bk rfl rfl, bk rfl rfl, bk rfl rfl, bk rfl rfl, bk rfl rfl, bk rfl rfl, bk rfl rfl, trivial⟩
  ·intro l hl _
   have hl3 : l = 0 ∨ l = 1 ∨ l = 2 := by omega
   rcases hl3 with rfl | rfl | rfl
   ·refine If.mk (fun _ => ?_) (fun h => absurd (by decide) h)
    refine ifY ?_
    refine LoopG.at (n0 := 19) rfl (loop_up mixed (m := false) (fun r => [(0, .yld 18), (1, .ptr 15 0), (2, .ptr 16 0), (4, n' (0 : Nat)), (12, n' 2), (13, n' (0 : Nat)), (16, .agg [n' (-1), n' 1]), (17, n' (r : Nat))])
     (fun r => awT3 (kC st a b e h0 h1 r0 r1) (fun i => (B (i + 1)).2) (B 3).2 i x .ready (expI (okI st a b e h0 h1 r0) 4 s0 x (0 + r))) (fun _ => True) 2 1 (leb rfl) trivial ?_ ?_ ?_)
    ·exact ⟨wp rfl (ltb rfl), wp rfl (ltb rfl), wp rfl (ltb rfl), wp rfl trivial, wp rfl trivial, wp rfl trivial, ⟨_, rfl, Weak.refl _ _, ⟨trivial, trivial, trivial⟩⟩, wp rfl trivial, trivial⟩
    ·exact ⟨bk rfl rfl, bk rfl rfl, bk rfl rfl, bk rfl rfl, bk rfl rfl, bk rfl rfl, bk rfl rfl, bk rfl rfl, bk rfl rfl, bk rfl rfl, bk rfl rfl, bk rfl rfl, bk rfl rfl, bk rfl rfl, bk rfl rfl, bk rfl rfl, bk rfl rfl, bk rfl rfl, bk rfl rfl, trivial⟩
    ·intro r hr _
     have hr3 : r = 0 ∨ r = 1 ∨ r = 2 := by omega
     rcases hr3 with rfl | rfl | rfl
     ·refine If.mk (fun _ => ?_) (fun h => absurd (by decide) h)
      refine ifY ?_
      refine Ex.mk _ rfl ?_
      refine CallG.pure _ (c_turnJ0 hx4.1) ?_
      refine CallG.bool (c_jpose st a b (nxtI 0 x).1 (nxtI 0 x).2) (fun p1 => ?_) (fun p1 => ?_)
      ·have y4 := near p1
       refine CallG.bool (c_jfine hf hs p1) (fun p2 => ?_) (fun p2 => ?_)
       ·refine RoundG.fresh (n0 := 20) (awT3 (kC st a b e h0 h1 r0 r1) (fun i => (B (i + 1)).2) (B 3).2 i x .ready (expI (okI st a b e h0 h1 r0) 4 s0 x 0)) rfl ?_ ?_
        ·exact ⟨bk rfl rfl, bk rfl rfl, bk rfl rfl, bk rfl rfl, bk rfl rfl, bk rfl rfl, bk rfl rfl, bk rfl rfl, bk rfl rfl, bk rfl rfl, bk rfl rfl, bk rfl rfl, bk rfl rfl, bk rfl rfl, bk rfl rfl, bk rfl rfl, bk rfl rfl, bk rfl rfl, bk rfl rfl, trivial⟩
        refine RoundG.introF (m := false) mixed rfl rfl hpar ?_
        refine ⟨rfl, _, rfl, rfl, [(5, .ptr 2 0), (7, .ptr 12 0), (8, .ptr 13 0), (12, eInts (prL (nxtI 0 x)))], awT3 (kC st a b e h0 h1 r0 r1) (fun i => (B (i + 1)).2) (B 3).2 i x .busy (expI (okI st a b e h0 h1 r0) 4 s0 x 0), 20, rfl, ?_, ?_, ?_⟩
        ·exact ⟨⟨_, rfl, Weak.refl _ _⟩, ⟨_, rfl, Weak.refl _ _⟩, ⟨_, rfl, Weak.refl _ _⟩, ⟨_, rfl, Weak.refl _ _⟩, trivial⟩
        ·exact ⟨bk rfl rfl, bk rfl rfl, bk rfl rfl, bk rfl rfl, bk rfl rfl, bk rfl rfl, bk rfl rfl, bk rfl rfl, bk rfl rfl, bk rfl rfl, bk rfl rfl, bk rfl rfl, bk rfl rfl, bk rfl rfl, bk rfl rfl, bk rfl rfl, bk rfl rfl, bk rfl rfl, bk rfl rfl, trivial⟩
        refine CallG.pure _ (c_keyOf (nxtI 0 x).1 (nxtI 0 x).2) ?_
        refine (Classical.em (∀ z ∈ (expI (okI st a b e h0 h1 r0) 4 s0 x 0).1, z.1 ≠ nxtI 0 x)).elim (fun hm => ?_) (fun hm => ?_)
        ·refine Ex.mk _ (aw_none2 (y := nxtI 0 x) (E := (expI (okI st a b e h0 h1 r0) 4 s0 x 0).1) (id := 1) rfl rfl rfl rfl (shOk_key (by omega) (by omega)) (lookD_none.2 hm)) ?_
         refine ifY ?_
         refine CallG.pure _ (c_keyOf (nxtI 0 x).1 (nxtI 0 x).2) ?_
         refine Ex.mk _ (aw_set (y := nxtI 0 x) (E := (expI (okI st a b e h0 h1 r0) 4 s0 x 0).1) (many := 4) (id := 1) (.inl rfl) rfl rfl rfl rfl (shOk_key (by omega) (by omega)) hm) ?_
         refine ex_app _ _ (app_line (by rw [List.length_map, List.length_map]) (by have := hA 0; omega) rfl) ?_
         refine ⟨_, _, rfl, rfl, ?_⟩
         refine ifN ?_
         refine Side.mk (by unfold fitsK; kernel_rfl) ?_
         have ek : expI (okI st a b e h0 h1 r0) 4 s0 x (0 + (0 + 1)) = ((expI (okI st a b e h0 h1 r0) 4 s0 x 0).1 ++ [(nxtI 0 x, 4)], (expI (okI st a b e h0 h1 r0) 4 s0 x 0).2 ++ [nxtI 0 x]) := (expI_succ 4 s0 x 0).trans (extI_new ⟨p1, p2⟩ hm)
         refine ⟨leb rfl, rfl, by decide, trivial, ⟨wp rfl (ltb rfl), wp rfl (ltb rfl), wp rfl (ltb rfl), wp rfl trivial, wp rfl trivial, wp rfl trivial, ⟨_, rfl, Weak.refl _ _, ⟨trivial, trivial, trivial⟩⟩, wp rfl trivial, trivial⟩, ?_, ⟨⟨_, rfl, under_awE _⟩, ⟨_, rfl, ltb rfl, trivial⟩, ⟨_, rfl, trivial, trivial⟩, ⟨_, rfl, under_lsP _ (ltb rfl), trivial⟩, ⟨_, rfl, trivial⟩, ⟨_, rfl, trivial, trivial⟩, ⟨_, rfl, under_lsP _ (ltb rfl), trivial⟩, ⟨_, rfl, trivial⟩, ⟨_, rfl, trivial, trivial⟩, ⟨_, rfl, under_lsP _ (ltb rfl), trivial⟩, ⟨_, rfl, trivial⟩, ⟨_, rfl, trivial, trivial⟩, ⟨_, rfl, ⟨unders_append (unders_map (under_eInts _) _) ⟨under_eInts _ _, trivial⟩, ltb rfl⟩, trivial⟩, ⟨_, rfl, trivial⟩, ⟨_, rfl, under_kC _ _ _ _ _ _ _ _ _⟩, ⟨_, rfl, under_eInts _ _, trivial⟩, ⟨_, rfl, trivial⟩, ⟨_, rfl, under_awB3 _ _ _⟩, trivial⟩⟩
         show Blks _ 19 (awT3 (kC st a b e h0 h1 r0 r1) (fun i => (B (i + 1)).2) (B 3).2 i x .ready (expI (okI st a b e h0 h1 r0) 4 s0 x (0 + (0 + 1))))
         rw [ek]
         exact ⟨bk rfl rfl, bk rfl rfl, bk rfl rfl, bk rfl rfl, bk rfl rfl, bk rfl rfl, bk rfl rfl, bk rfl rfl, bk rfl rfl, bk rfl rfl, bk rfl rfl, bk rfl rfl, bk rfl rfl, ⟨congrArg (fun z => some (Blk.box [z] 38)) (lsP_snoc _ _ _), ltb rfl⟩, ⟨by rw [List.length_append]; rfl, ltb rfl⟩, bk rfl rfl, bk rfl rfl, bk rfl rfl, bk rfl rfl, trivial⟩
        ·refine Ex.mk _ (aw_look2 (y := nxtI 0 x) (E := (expI (okI st a b e h0 h1 r0) 4 s0 x 0).1) (id := 1) rfl rfl rfl rfl (shOk_key (by omega) (by omega)) (hE hm).choose_spec) ?_
         refine ifN ?_
         refine ⟨_, _, rfl, rfl, ?_⟩
         refine ifN ?_
         refine Side.mk (by unfold fitsK; kernel_rfl) ?_
         have ek : expI (okI st a b e h0 h1 r0) 4 s0 x (0 + (0 + 1)) = expI (okI st a b e h0 h1 r0) 4 s0 x 0 := (expI_succ 4 s0 x 0).trans (extI_old fun z => hm z.2)
         refine ⟨leb rfl, rfl, by decide, trivial, ⟨wp rfl (ltb rfl), wp rfl (ltb rfl), wp rfl (ltb rfl), wp rfl trivial, wp rfl trivial, wp rfl trivial, ⟨_, rfl, Weak.refl _ _, ⟨trivial, trivial, trivial⟩⟩, wp rfl trivial, trivial⟩, ?_, ⟨⟨_, rfl, under_awB3 _ _ _⟩, trivial⟩⟩
         show Blks _ 19 (awT3 (kC st a b e h0 h1 r0 r1) (fun i => (B (i + 1)).2) (B 3).2 i x .ready (expI (okI st a b e h0 h1 r0) 4 s0 x (0 + (0 + 1))))
         rw [ek]
         exact ⟨bk rfl rfl, bk rfl rfl, bk rfl rfl, bk rfl rfl, bk rfl rfl, bk rfl rfl, bk rfl rfl, bk rfl rfl, bk rfl rfl, bk rfl rfl, bk rfl rfl, bk rfl rfl, bk rfl rfl, bk rfl rfl, bk rfl rfl, bk rfl rfl, bk rfl rfl, bk rfl rfl, bk rfl rfl, trivial⟩
       ·refine ifN ?_
        refine Side.mk (by unfold fitsK; kernel_rfl) ?_
        refine ⟨leb rfl, rfl, by decide, trivial, ⟨wp rfl (ltb rfl), wp rfl (ltb rfl), wp rfl (ltb rfl), wp rfl trivial, wp rfl trivial, wp rfl trivial, ⟨_, rfl, Weak.refl _ _, ⟨trivial, trivial, trivial⟩⟩, wp rfl trivial, trivial⟩, ?_, trivial⟩
        have ek : expI (okI st a b e h0 h1 r0) 4 s0 x (0 + (0 + 1)) = expI (okI st a b e h0 h1 r0) 4 s0 x 0 := (expI_succ 4 s0 x 0).trans (extI_old fun z => p2 z.1.2)
        show Blks _ 19 (awT3 (kC st a b e h0 h1 r0 r1) (fun i => (B (i + 1)).2) (B 3).2 i x .ready (expI (okI st a b e h0 h1 r0) 4 s0 x (0 + (0 + 1))))
        rw [ek]
        exact ⟨bk rfl rfl, bk rfl rfl, bk rfl rfl, bk rfl rfl, bk rfl rfl, bk rfl rfl, bk rfl rfl, bk rfl rfl, bk rfl rfl, bk rfl rfl, bk rfl rfl, bk rfl rfl, bk rfl rfl, bk rfl rfl, bk rfl rfl, bk rfl rfl, bk rfl rfl, bk rfl rfl, bk rfl rfl, trivial⟩
      ·refine ifN ?_
       refine Side.mk (by unfold fitsK; kernel_rfl) ?_
       have ek : expI (okI st a b e h0 h1 r0) 4 s0 x (0 + (0 + 1)) = expI (okI st a b e h0 h1 r0) 4 s0 x 0 := (expI_succ 4 s0 x 0).trans (extI_old fun z => p1 z.1.1)
       refine ⟨leb rfl, rfl, by decide, trivial, ⟨wp rfl (ltb rfl), wp rfl (ltb rfl), wp rfl (ltb rfl), wp rfl trivial, wp rfl trivial, wp rfl trivial, ⟨_, rfl, Weak.refl _ _, ⟨trivial, trivial, trivial⟩⟩, wp rfl trivial, trivial⟩, ?_, trivial⟩
       show Blks _ 19 (awT3 (kC st a b e h0 h1 r0 r1) (fun i => (B (i + 1)).2) (B 3).2 i x .ready (expI (okI st a b e h0 h1 r0) 4 s0 x (0 + (0 + 1))))
       rw [ek]
       exact ⟨bk rfl rfl, bk rfl rfl, bk rfl rfl, bk rfl rfl, bk rfl rfl, bk rfl rfl, bk rfl rfl, bk rfl rfl, bk rfl rfl, bk rfl rfl, bk rfl rfl, bk rfl rfl, bk rfl rfl, bk rfl rfl, bk rfl rfl, bk rfl rfl, bk rfl rfl, bk rfl rfl, bk rfl rfl, trivial⟩
     ·refine If.mk (fun _ => ?_) (fun h => absurd (by decide) h)
      refine ifY ?_
      refine Ex.mk _ rfl ?_
      refine CallG.pure _ (c_turnJ1 hx4.1) ?_
      refine CallG.bool (c_jpose st a b (nxtI 1 x).1 (nxtI 1 x).2) (fun p1 => ?_) (fun p1 => ?_)
      ·have y4 := near p1
       refine CallG.bool (c_jfine hf hs p1) (fun p2 => ?_) (fun p2 => ?_)
       ·refine RoundG.fresh (n0 := 20) (awT3 (kC st a b e h0 h1 r0 r1) (fun i => (B (i + 1)).2) (B 3).2 i x .ready (expI (okI st a b e h0 h1 r0) 4 s0 x 1)) rfl ?_ ?_
        ·exact ⟨bk rfl rfl, bk rfl rfl, bk rfl rfl, bk rfl rfl, bk rfl rfl, bk rfl rfl, bk rfl rfl, bk rfl rfl, bk rfl rfl, bk rfl rfl, bk rfl rfl, bk rfl rfl, bk rfl rfl, bk rfl rfl, bk rfl rfl, bk rfl rfl, bk rfl rfl, bk rfl rfl, bk rfl rfl, trivial⟩
        refine RoundG.introF (m := false) mixed rfl rfl hpar ?_
        refine ⟨rfl, _, rfl, rfl, [(5, .ptr 2 0), (7, .ptr 12 0), (8, .ptr 13 0), (12, eInts (prL (nxtI 1 x)))], awT3 (kC st a b e h0 h1 r0 r1) (fun i => (B (i + 1)).2) (B 3).2 i x .busy (expI (okI st a b e h0 h1 r0) 4 s0 x 1), 20, rfl, ?_, ?_, ?_⟩
        ·exact ⟨⟨_, rfl, Weak.refl _ _⟩, ⟨_, rfl, Weak.refl _ _⟩, ⟨_, rfl, Weak.refl _ _⟩, ⟨_, rfl, Weak.refl _ _⟩, trivial⟩
        ·exact ⟨bk rfl rfl, bk rfl rfl, bk rfl rfl, bk rfl rfl, bk rfl rfl, bk rfl rfl, bk rfl rfl, bk rfl rfl, bk rfl rfl, bk rfl rfl, bk rfl rfl, bk rfl rfl, bk rfl rfl, bk rfl rfl, bk rfl rfl, bk rfl rfl, bk rfl rfl, bk rfl rfl, bk rfl rfl, trivial⟩
        refine CallG.pure _ (c_keyOf (nxtI 1 x).1 (nxtI 1 x).2) ?_
        refine (Classical.em (∀ z ∈ (expI (okI st a b e h0 h1 r0) 4 s0 x 1).1, z.1 ≠ nxtI 1 x)).elim (fun hm => ?_) (fun hm => ?_)
        ·refine Ex.mk _ (aw_none2 (y := nxtI 1 x) (E := (expI (okI st a b e h0 h1 r0) 4 s0 x 1).1) (id := 1) rfl rfl rfl rfl (shOk_key (by omega) (by omega)) (lookD_none.2 hm)) ?_
         refine ifY ?_
         refine CallG.pure _ (c_keyOf (nxtI 1 x).1 (nxtI 1 x).2) ?_
         refine Ex.mk _ (aw_set (y := nxtI 1 x) (E := (expI (okI st a b e h0 h1 r0) 4 s0 x 1).1) (many := 4) (id := 1) (.inl rfl) rfl rfl rfl rfl (shOk_key (by omega) (by omega)) hm) ?_
         refine ex_app _ _ (app_line (by rw [List.length_map, List.length_map]) (by have := hA 1; omega) rfl) ?_
         refine ⟨_, _, rfl, rfl, ?_⟩
         refine ifN ?_
         refine Side.mk (by unfold fitsK; kernel_rfl) ?_
         have ek : expI (okI st a b e h0 h1 r0) 4 s0 x (0 + (1 + 1)) = ((expI (okI st a b e h0 h1 r0) 4 s0 x 1).1 ++ [(nxtI 1 x, 4)], (expI (okI st a b e h0 h1 r0) 4 s0 x 1).2 ++ [nxtI 1 x]) := (expI_succ 4 s0 x 1).trans (extI_new ⟨p1, p2⟩ hm)
         refine ⟨leb rfl, rfl, by decide, trivial, ⟨wp rfl (ltb rfl), wp rfl (ltb rfl), wp rfl (ltb rfl), wp rfl trivial, wp rfl trivial, wp rfl trivial, ⟨_, rfl, Weak.refl _ _, ⟨trivial, trivial, trivial⟩⟩, wp rfl trivial, trivial⟩, ?_, ⟨⟨_, rfl, under_awE _⟩, ⟨_, rfl, ltb rfl, trivial⟩, ⟨_, rfl, trivial, trivial⟩, ⟨_, rfl, under_lsP _ (ltb rfl), trivial⟩, ⟨_, rfl, trivial⟩, ⟨_, rfl, trivial, trivial⟩, ⟨_, rfl, under_lsP _ (ltb rfl), trivial⟩, ⟨_, rfl, trivial⟩, ⟨_, rfl, trivial, trivial⟩, ⟨_, rfl, under_lsP _ (ltb rfl), trivial⟩, ⟨_, rfl, trivial⟩, ⟨_, rfl, trivial, trivial⟩, ⟨_, rfl, ⟨unders_append (unders_map (under_eInts _) _) ⟨under_eInts _ _, trivial⟩, ltb rfl⟩, trivial⟩, ⟨_, rfl, trivial⟩, ⟨_, rfl, under_kC _ _ _ _ _ _ _ _ _⟩, ⟨_, rfl, under_eInts _ _, trivial⟩, ⟨_, rfl, trivial⟩, ⟨_, rfl, under_awB3 _ _ _⟩, trivial⟩⟩
         show Blks _ 19 (awT3 (kC st a b e h0 h1 r0 r1) (fun i => (B (i + 1)).2) (B 3).2 i x .ready (expI (okI st a b e h0 h1 r0) 4 s0 x (0 + (1 + 1))))
         rw [ek]
         exact ⟨bk rfl rfl, bk rfl rfl, bk rfl rfl, bk rfl rfl, bk rfl rfl, bk rfl rfl, bk rfl rfl, bk rfl rfl, bk rfl rfl, bk rfl rfl, bk rfl rfl, bk rfl rfl, bk rfl rfl, ⟨congrArg (fun z => some (Blk.box [z] 38)) (lsP_snoc _ _ _), ltb rfl⟩, ⟨by rw [List.length_append]; rfl, ltb rfl⟩, bk rfl rfl, bk rfl rfl, bk rfl rfl, bk rfl rfl, trivial⟩
        ·refine Ex.mk _ (aw_look2 (y := nxtI 1 x) (E := (expI (okI st a b e h0 h1 r0) 4 s0 x 1).1) (id := 1) rfl rfl rfl rfl (shOk_key (by omega) (by omega)) (hE hm).choose_spec) ?_
         refine ifN ?_
         refine ⟨_, _, rfl, rfl, ?_⟩
         refine ifN ?_
         refine Side.mk (by unfold fitsK; kernel_rfl) ?_
         have ek : expI (okI st a b e h0 h1 r0) 4 s0 x (0 + (1 + 1)) = expI (okI st a b e h0 h1 r0) 4 s0 x 1 := (expI_succ 4 s0 x 1).trans (extI_old fun z => hm z.2)
         refine ⟨leb rfl, rfl, by decide, trivial, ⟨wp rfl (ltb rfl), wp rfl (ltb rfl), wp rfl (ltb rfl), wp rfl trivial, wp rfl trivial, wp rfl trivial, ⟨_, rfl, Weak.refl _ _, ⟨trivial, trivial, trivial⟩⟩, wp rfl trivial, trivial⟩, ?_, ⟨⟨_, rfl, under_awB3 _ _ _⟩, trivial⟩⟩
         show Blks _ 19 (awT3 (kC st a b e h0 h1 r0 r1) (fun i => (B (i + 1)).2) (B 3).2 i x .ready (expI (okI st a b e h0 h1 r0) 4 s0 x (0 + (1 + 1))))
         rw [ek]
         exact ⟨bk rfl rfl, bk rfl rfl, bk rfl rfl, bk rfl rfl, bk rfl rfl, bk rfl rfl, bk rfl rfl, bk rfl rfl, bk rfl rfl, bk rfl rfl, bk rfl rfl, bk rfl rfl, bk rfl rfl, bk rfl rfl, bk rfl rfl, bk rfl rfl, bk rfl rfl, bk rfl rfl, bk rfl rfl, trivial⟩
       ·refine ifN ?_
        refine Side.mk (by unfold fitsK; kernel_rfl) ?_
        refine ⟨leb rfl, rfl, by decide, trivial, ⟨wp rfl (ltb rfl), wp rfl (ltb rfl), wp rfl (ltb rfl), wp rfl trivial, wp rfl trivial, wp rfl trivial, ⟨_, rfl, Weak.refl _ _, ⟨trivial, trivial, trivial⟩⟩, wp rfl trivial, trivial⟩, ?_, trivial⟩
        have ek : expI (okI st a b e h0 h1 r0) 4 s0 x (0 + (1 + 1)) = expI (okI st a b e h0 h1 r0) 4 s0 x 1 := (expI_succ 4 s0 x 1).trans (extI_old fun z => p2 z.1.2)
        show Blks _ 19 (awT3 (kC st a b e h0 h1 r0 r1) (fun i => (B (i + 1)).2) (B 3).2 i x .ready (expI (okI st a b e h0 h1 r0) 4 s0 x (0 + (1 + 1))))
        rw [ek]
        exact ⟨bk rfl rfl, bk rfl rfl, bk rfl rfl, bk rfl rfl, bk rfl rfl, bk rfl rfl, bk rfl rfl, bk rfl rfl, bk rfl rfl, bk rfl rfl, bk rfl rfl, bk rfl rfl, bk rfl rfl, bk rfl rfl, bk rfl rfl, bk rfl rfl, bk rfl rfl, bk rfl rfl, bk rfl rfl, trivial⟩
      ·refine ifN ?_
       refine Side.mk (by unfold fitsK; kernel_rfl) ?_
       have ek : expI (okI st a b e h0 h1 r0) 4 s0 x (0 + (1 + 1)) = expI (okI st a b e h0 h1 r0) 4 s0 x 1 := (expI_succ 4 s0 x 1).trans (extI_old fun z => p1 z.1.1)
       refine ⟨leb rfl, rfl, by decide, trivial, ⟨wp rfl (ltb rfl), wp rfl (ltb rfl), wp rfl (ltb rfl), wp rfl trivial, wp rfl trivial, wp rfl trivial, ⟨_, rfl, Weak.refl _ _, ⟨trivial, trivial, trivial⟩⟩, wp rfl trivial, trivial⟩, ?_, trivial⟩
       show Blks _ 19 (awT3 (kC st a b e h0 h1 r0 r1) (fun i => (B (i + 1)).2) (B 3).2 i x .ready (expI (okI st a b e h0 h1 r0) 4 s0 x (0 + (1 + 1))))
       rw [ek]
       exact ⟨bk rfl rfl, bk rfl rfl, bk rfl rfl, bk rfl rfl, bk rfl rfl, bk rfl rfl, bk rfl rfl, bk rfl rfl, bk rfl rfl, bk rfl rfl, bk rfl rfl, bk rfl rfl, bk rfl rfl, bk rfl rfl, bk rfl rfl, bk rfl rfl, bk rfl rfl, bk rfl rfl, bk rfl rfl, trivial⟩
     ·refine If.mk (fun h => absurd h (by decide)) (fun _ => ?_)
      refine ifN ?_
      refine ⟨leb rfl, ?_⟩
      refine Side.mk (by unfold fitsK; kernel_rfl) ?_
      exact ⟨leb rfl, rfl, by decide, trivial, ⟨wp rfl (ltb rfl), wp rfl (ltb rfl), wp rfl (ltb rfl), wp rfl trivial, wp rfl trivial, trivial⟩, ⟨bk rfl rfl, bk rfl rfl, bk rfl rfl, bk rfl rfl, bk rfl rfl, bk rfl rfl, bk rfl rfl, bk rfl rfl, bk rfl rfl, bk rfl rfl, bk rfl rfl, bk rfl rfl, bk rfl rfl, bk rfl rfl, bk rfl rfl, bk rfl rfl, bk rfl rfl, bk rfl rfl, bk rfl rfl, trivial⟩, ⟨⟨_, rfl, under_awE _⟩, ⟨_, rfl, ltb rfl, trivial⟩, ⟨_, rfl, trivial, trivial⟩, ⟨_, rfl, under_lsP _ (ltb rfl), trivial⟩, ⟨_, rfl, trivial⟩, ⟨_, rfl, trivial, trivial⟩, ⟨_, rfl, under_lsP _ (ltb rfl), trivial⟩, ⟨_, rfl, trivial⟩, ⟨_, rfl, trivial, trivial⟩, ⟨_, rfl, under_lsP _ (ltb rfl), trivial⟩, ⟨_, rfl, trivial⟩, ⟨_, rfl, trivial, trivial⟩, ⟨_, rfl, under_lsP _ (ltb rfl), trivial⟩, ⟨_, rfl, trivial⟩, ⟨_, rfl, under_kC _ _ _ _ _ _ _ _ _⟩, ⟨_, rfl, under_eInts _ _, trivial⟩, ⟨_, rfl, trivial⟩, ⟨_, rfl, under_awB3 _ _ _⟩, trivial⟩⟩
   ·refine If.mk (fun _ => ?_) (fun h => absurd (by decide) h)
    refine ifY ?_
    refine LoopG.at (n0 := 19) rfl (loop_up mixed (m := false) (fun r => [(0, .yld 18), (1, .ptr 15 0), (2, .ptr 16 0), (4, n' (1 : Nat)), (12, n' 2), (13, n' (1 : Nat)), (16, .agg [n' (-1), n' 1]), (17, n' (r : Nat))])
     (fun r => awT3 (kC st a b e h0 h1 r0 r1) (fun i => (B (i + 1)).2) (B 3).2 i x .ready (expI (okI st a b e h0 h1 r0) 4 s0 x (2 + r))) (fun _ => True) 2 1 (leb rfl) trivial ?_ ?_ ?_)
    ·exact ⟨wp rfl (ltb rfl), wp rfl (ltb rfl), wp rfl (ltb rfl), wp rfl trivial, wp rfl trivial, wp rfl trivial, ⟨_, rfl, Weak.refl _ _, ⟨trivial, trivial, trivial⟩⟩, wp rfl trivial, trivial⟩
    ·exact ⟨bk rfl rfl, bk rfl rfl, bk rfl rfl, bk rfl rfl, bk rfl rfl, bk rfl rfl, bk rfl rfl, bk rfl rfl, bk rfl rfl, bk rfl rfl, bk rfl rfl, bk rfl rfl, bk rfl rfl, bk rfl rfl, bk rfl rfl, bk rfl rfl, bk rfl rfl, bk rfl rfl, bk rfl rfl, trivial⟩
    ·intro r hr _
     have hr3 : r = 0 ∨ r = 1 ∨ r = 2 := by omega
     rcases hr3 with rfl | rfl | rfl
     ·refine If.mk (fun _ => ?_) (fun h => absurd (by decide) h)
      refine ifY ?_
      refine Ex.mk _ rfl ?_
      refine CallG.pure _ (c_turnJ2 hx4.2) ?_
      refine CallG.bool (c_jpose st a b (nxtI 2 x).1 (nxtI 2 x).2) (fun p1 => ?_) (fun p1 => ?_)
      ·have y4 := near p1
       refine CallG.bool (c_jfine hf hs p1) (fun p2 => ?_) (fun p2 => ?_)
       ·refine RoundG.fresh (n0 := 20) (awT3 (kC st a b e h0 h1 r0 r1) (fun i => (B (i + 1)).2) (B 3).2 i x .ready (expI (okI st a b e h0 h1 r0) 4 s0 x 2)) rfl ?_ ?_
        ·exact ⟨bk rfl rfl, bk rfl rfl, bk rfl rfl, bk rfl rfl, bk rfl rfl, bk rfl rfl, bk rfl rfl, bk rfl rfl, bk rfl rfl, bk rfl rfl, bk rfl rfl, bk rfl rfl, bk rfl rfl, bk rfl rfl, bk rfl rfl, bk rfl rfl, bk rfl rfl, bk rfl rfl, bk rfl rfl, trivial⟩
        refine RoundG.introF (m := false) mixed rfl rfl hpar ?_
        refine ⟨rfl, _, rfl, rfl, [(5, .ptr 2 0), (7, .ptr 12 0), (8, .ptr 13 0), (12, eInts (prL (nxtI 2 x)))], awT3 (kC st a b e h0 h1 r0 r1) (fun i => (B (i + 1)).2) (B 3).2 i x .busy (expI (okI st a b e h0 h1 r0) 4 s0 x 2), 20, rfl, ?_, ?_, ?_⟩
        ·exact ⟨⟨_, rfl, Weak.refl _ _⟩, ⟨_, rfl, Weak.refl _ _⟩, ⟨_, rfl, Weak.refl _ _⟩, ⟨_, rfl, Weak.refl _ _⟩, trivial⟩
        ·exact ⟨bk rfl rfl, bk rfl rfl, bk rfl rfl, bk rfl rfl, bk rfl rfl, bk rfl rfl, bk rfl rfl, bk rfl rfl, bk rfl rfl, bk rfl rfl, bk rfl rfl, bk rfl rfl, bk rfl rfl, bk rfl rfl, bk rfl rfl, bk rfl rfl, bk rfl rfl, bk rfl rfl, bk rfl rfl, trivial⟩
        refine CallG.pure _ (c_keyOf (nxtI 2 x).1 (nxtI 2 x).2) ?_
        refine (Classical.em (∀ z ∈ (expI (okI st a b e h0 h1 r0) 4 s0 x 2).1, z.1 ≠ nxtI 2 x)).elim (fun hm => ?_) (fun hm => ?_)
        ·refine Ex.mk _ (aw_none2 (y := nxtI 2 x) (E := (expI (okI st a b e h0 h1 r0) 4 s0 x 2).1) (id := 1) rfl rfl rfl rfl (shOk_key (by omega) (by omega)) (lookD_none.2 hm)) ?_
         refine ifY ?_
         refine CallG.pure _ (c_keyOf (nxtI 2 x).1 (nxtI 2 x).2) ?_
         refine Ex.mk _ (aw_set (y := nxtI 2 x) (E := (expI (okI st a b e h0 h1 r0) 4 s0 x 2).1) (many := 4) (id := 1) (.inl rfl) rfl rfl rfl rfl (shOk_key (by omega) (by omega)) hm) ?_
         refine ex_app _ _ (app_line (by rw [List.length_map, List.length_map]) (by have := hA 2; omega) rfl) ?_
         refine ⟨_, _, rfl, rfl, ?_⟩
         refine ifN ?_
         refine Side.mk (by unfold fitsK; kernel_rfl) ?_
         have ek : expI (okI st a b e h0 h1 r0) 4 s0 x (2 + (0 + 1)) = ((expI (okI st a b e h0 h1 r0) 4 s0 x 2).1 ++ [(nxtI 2 x, 4)], (expI (okI st a b e h0 h1 r0) 4 s0 x 2).2 ++ [nxtI 2 x]) := (expI_succ 4 s0 x 2).trans (extI_new ⟨p1, p2⟩ hm)
         refine ⟨leb rfl, rfl, by decide, trivial, ⟨wp rfl (ltb rfl), wp rfl (ltb rfl), wp rfl (ltb rfl), wp rfl trivial, wp rfl trivial, wp rfl trivial, ⟨_, rfl, Weak.refl _ _, ⟨trivial, trivial, trivial⟩⟩, wp rfl trivial, trivial⟩, ?_, ⟨⟨_, rfl, under_awE _⟩, ⟨_, rfl, ltb rfl, trivial⟩, ⟨_, rfl, trivial, trivial⟩, ⟨_, rfl, under_lsP _ (ltb rfl), trivial⟩, ⟨_, rfl, trivial⟩, ⟨_, rfl, trivial, trivial⟩, ⟨_, rfl, under_lsP _ (ltb rfl), trivial⟩, ⟨_, rfl, trivial⟩, ⟨_, rfl, trivial, trivial⟩, ⟨_, rfl, under_lsP _ (ltb rfl), trivial⟩, ⟨_, rfl, trivial⟩, ⟨_, rfl, trivial, trivial⟩, ⟨_, rfl, ⟨unders_append (unders_map (under_eInts _) _) ⟨under_eInts _ _, trivial⟩, ltb rfl⟩, trivial⟩, ⟨_, rfl, trivial⟩, ⟨_, rfl, under_kC _ _ _ _ _ _ _ _ _⟩, ⟨_, rfl, under_eInts _ _, trivial⟩, ⟨_, rfl, trivial⟩, ⟨_, rfl, under_awB3 _ _ _⟩, trivial⟩⟩
         show Blks _ 19 (awT3 (kC st a b e h0 h1 r0 r1) (fun i => (B (i + 1)).2) (B 3).2 i x .ready (expI (okI st a b e h0 h1 r0) 4 s0 x (2 + (0 + 1))))
         rw [ek]
         exact ⟨bk rfl rfl, bk rfl rfl, bk rfl rfl, bk rfl rfl, bk rfl rfl, bk rfl rfl, bk rfl rfl, bk rfl rfl, bk rfl rfl, bk rfl rfl, bk rfl rfl, bk rfl rfl, bk rfl rfl, ⟨congrArg (fun z => some (Blk.box [z] 38)) (lsP_snoc _ _ _), ltb rfl⟩, ⟨by rw [List.length_append]; rfl, ltb rfl⟩, bk rfl rfl, bk rfl rfl, bk rfl rfl, bk rfl rfl, trivial⟩
        ·refine Ex.mk _ (aw_look2 (y := nxtI 2 x) (E := (expI (okI st a b e h0 h1 r0) 4 s0 x 2).1) (id := 1) rfl rfl rfl rfl (shOk_key (by omega) (by omega)) (hE hm).choose_spec) ?_
         refine ifN ?_
         refine ⟨_, _, rfl, rfl, ?_⟩
         refine ifN ?_
         refine Side.mk (by unfold fitsK; kernel_rfl) ?_
         have ek : expI (okI st a b e h0 h1 r0) 4 s0 x (2 + (0 + 1)) = expI (okI st a b e h0 h1 r0) 4 s0 x 2 := (expI_succ 4 s0 x 2).trans (extI_old fun z => hm z.2)
         refine ⟨leb rfl, rfl, by decide, trivial, ⟨wp rfl (ltb rfl), wp rfl (ltb rfl), wp rfl (ltb rfl), wp rfl trivial, wp rfl trivial, wp rfl trivial, ⟨_, rfl, Weak.refl _ _, ⟨trivial, trivial, trivial⟩⟩, wp rfl trivial, trivial⟩, ?_, ⟨⟨_, rfl, under_awB3 _ _ _⟩, trivial⟩⟩
         show Blks _ 19 (awT3 (kC st a b e h0 h1 r0 r1) (fun i => (B (i + 1)).2) (B 3).2 i x .ready (expI (okI st a b e h0 h1 r0) 4 s0 x (2 + (0 + 1))))
         rw [ek]
         exact ⟨bk rfl rfl, bk rfl rfl, bk rfl rfl, bk rfl rfl, bk rfl rfl, bk rfl rfl, bk rfl rfl, bk rfl rfl, bk rfl rfl, bk rfl rfl, bk rfl rfl, bk rfl rfl, bk rfl rfl, bk rfl rfl, bk rfl rfl, bk rfl rfl, bk rfl rfl, bk rfl rfl, bk rfl rfl, trivial⟩
       ·refine ifN ?_
        refine Side.mk (by unfold fitsK; kernel_rfl) ?_
        refine ⟨leb rfl, rfl, by decide, trivial, ⟨wp rfl (ltb rfl), wp rfl (ltb rfl), wp rfl (ltb rfl), wp rfl trivial, wp rfl trivial, wp rfl trivial, ⟨_, rfl, Weak.refl _ _, ⟨trivial, trivial, trivial⟩⟩, wp rfl trivial, trivial⟩, ?_, trivial⟩
        have ek : expI (okI st a b e h0 h1 r0) 4 s0 x (2 + (0 + 1)) = expI (okI st a b e h0 h1 r0) 4 s0 x 2 := (expI_succ 4 s0 x 2).trans (extI_old fun z => p2 z.1.2)
        show Blks _ 19 (awT3 (kC st a b e h0 h1 r0 r1) (fun i => (B (i + 1)).2) (B 3).2 i x .ready (expI (okI st a b e h0 h1 r0) 4 s0 x (2 + (0 + 1))))
        rw [ek]
        exact ⟨bk rfl rfl, bk rfl rfl, bk rfl rfl, bk rfl rfl, bk rfl rfl, bk rfl rfl, bk rfl rfl, bk rfl rfl, bk rfl rfl, bk rfl rfl, bk rfl rfl, bk rfl rfl, bk rfl rfl, bk rfl rfl, bk rfl rfl, bk rfl rfl, bk rfl rfl, bk rfl rfl, bk rfl rfl, trivial⟩
      ·refine ifN ?_
       refine Side.mk (by unfold fitsK; kernel_rfl) ?_
       have ek : expI (okI st a b e h0 h1 r0) 4 s0 x (2 + (0 + 1)) = expI (okI st a b e h0 h1 r0) 4 s0 x 2 := (expI_succ 4 s0 x 2).trans (extI_old fun z => p1 z.1.1)
       refine ⟨leb rfl, rfl, by decide, trivial, ⟨wp rfl (ltb rfl), wp rfl (ltb rfl), wp rfl (ltb rfl), wp rfl trivial, wp rfl trivial, wp rfl trivial, ⟨_, rfl, Weak.refl _ _, ⟨trivial, trivial, trivial⟩⟩, wp rfl trivial, trivial⟩, ?_, trivial⟩
       show Blks _ 19 (awT3 (kC st a b e h0 h1 r0 r1) (fun i => (B (i + 1)).2) (B 3).2 i x .ready (expI (okI st a b e h0 h1 r0) 4 s0 x (2 + (0 + 1))))
       rw [ek]
       exact ⟨bk rfl rfl, bk rfl rfl, bk rfl rfl, bk rfl rfl, bk rfl rfl, bk rfl rfl, bk rfl rfl, bk rfl rfl, bk rfl rfl, bk rfl rfl, bk rfl rfl, bk rfl rfl, bk rfl rfl, bk rfl rfl, bk rfl rfl, bk rfl rfl, bk rfl rfl, bk rfl rfl, bk rfl rfl, trivial⟩
     ·refine If.mk (fun _ => ?_) (fun h => absurd (by decide) h)
      refine ifY ?_
      refine Ex.mk _ rfl ?_
      refine CallG.pure _ (c_turnJ3 hx4.2) ?_
      refine CallG.bool (c_jpose st a b (nxtI 3 x).1 (nxtI 3 x).2) (fun p1 => ?_) (fun p1 => ?_)
      ·have y4 := near p1
       refine CallG.bool (c_jfine hf hs p1) (fun p2 => ?_) (fun p2 => ?_)
       ·refine RoundG.fresh (n0 := 20) (awT3 (kC st a b e h0 h1 r0 r1) (fun i => (B (i + 1)).2) (B 3).2 i x .ready (expI (okI st a b e h0 h1 r0) 4 s0 x 3)) rfl ?_ ?_
        ·exact ⟨bk rfl rfl, bk rfl rfl, bk rfl rfl, bk rfl rfl, bk rfl rfl, bk rfl rfl, bk rfl rfl, bk rfl rfl, bk rfl rfl, bk rfl rfl, bk rfl rfl, bk rfl rfl, bk rfl rfl, bk rfl rfl, bk rfl rfl, bk rfl rfl, bk rfl rfl, bk rfl rfl, bk rfl rfl, trivial⟩
        refine RoundG.introF (m := false) mixed rfl rfl hpar ?_
        refine ⟨rfl, _, rfl, rfl, [(5, .ptr 2 0), (7, .ptr 12 0), (8, .ptr 13 0), (12, eInts (prL (nxtI 3 x)))], awT3 (kC st a b e h0 h1 r0 r1) (fun i => (B (i + 1)).2) (B 3).2 i x .busy (expI (okI st a b e h0 h1 r0) 4 s0 x 3), 20, rfl, ?_, ?_, ?_⟩
        ·exact ⟨⟨_, rfl, Weak.refl _ _⟩, ⟨_, rfl, Weak.refl _ _⟩, ⟨_, rfl, Weak.refl _ _⟩, ⟨_, rfl, Weak.refl _ _⟩, trivial⟩
        ·exact ⟨bk rfl rfl, bk rfl rfl, bk rfl rfl, bk rfl rfl, bk rfl rfl, bk rfl rfl, bk rfl rfl, bk rfl rfl, bk rfl rfl, bk rfl rfl, bk rfl rfl, bk rfl rfl, bk rfl rfl, bk rfl rfl, bk rfl rfl, bk rfl rfl, bk rfl rfl, bk rfl rfl, bk rfl rfl, trivial⟩
        refine CallG.pure _ (c_keyOf (nxtI 3 x).1 (nxtI 3 x).2) ?_
        refine (Classical.em (∀ z ∈ (expI (okI st a b e h0 h1 r0) 4 s0 x 3).1, z.1 ≠ nxtI 3 x)).elim (fun hm => ?_) (fun hm => ?_)
        ·refine Ex.mk _ (aw_none2 (y := nxtI 3 x) (E := (expI (okI st a b e h0 h1 r0) 4 s0 x 3).1) (id := 1) rfl rfl rfl rfl (shOk_key (by omega) (by omega)) (lookD_none.2 hm)) ?_
         refine ifY ?_
         refine CallG.pure _ (c_keyOf (nxtI 3 x).1 (nxtI 3 x).2) ?_
         refine Ex.mk _ (aw_set (y := nxtI 3 x) (E := (expI (okI st a b e h0 h1 r0) 4 s0 x 3).1) (many := 4) (id := 1) (.inl rfl) rfl rfl rfl rfl (shOk_key (by omega) (by omega)) hm) ?_
         refine ex_app _ _ (app_line (by rw [List.length_map, List.length_map]) (by have := hA 3; omega) rfl) ?_
         refine ⟨_, _, rfl, rfl, ?_⟩
         refine ifN ?_
         refine Side.mk (by unfold fitsK; kernel_rfl) ?_
         have ek : expI (okI st a b e h0 h1 r0) 4 s0 x (2 + (1 + 1)) = ((expI (okI st a b e h0 h1 r0) 4 s0 x 3).1 ++ [(nxtI 3 x, 4)], (expI (okI st a b e h0 h1 r0) 4 s0 x 3).2 ++ [nxtI 3 x]) := (expI_succ 4 s0 x 3).trans (extI_new ⟨p1, p2⟩ hm)
         refine ⟨leb rfl, rfl, by decide, trivial, ⟨wp rfl (ltb rfl), wp rfl (ltb rfl), wp rfl (ltb rfl), wp rfl trivial, wp rfl trivial, wp rfl trivial, ⟨_, rfl, Weak.refl _ _, ⟨trivial, trivial, trivial⟩⟩, wp rfl trivial, trivial⟩, ?_, ⟨⟨_, rfl, under_awE _⟩, ⟨_, rfl, ltb rfl, trivial⟩, ⟨_, rfl, trivial, trivial⟩, ⟨_, rfl, under_lsP _ (ltb rfl), trivial⟩, ⟨_, rfl, trivial⟩, ⟨_, rfl, trivial, trivial⟩, ⟨_, rfl, under_lsP _ (ltb rfl), trivial⟩, ⟨_, rfl, trivial⟩, ⟨_, rfl, trivial, trivial⟩, ⟨_, rfl, under_lsP _ (ltb rfl), trivial⟩, ⟨_, rfl, trivial⟩, ⟨_, rfl, trivial, trivial⟩, ⟨_, rfl, ⟨unders_append (unders_map (under_eInts _) _) ⟨under_eInts _ _, trivial⟩, ltb rfl⟩, trivial⟩, ⟨_, rfl, trivial⟩, ⟨_, rfl, under_kC _ _ _ _ _ _ _ _ _⟩, ⟨_, rfl, under_eInts _ _, trivial⟩, ⟨_, rfl, trivial⟩, ⟨_, rfl, under_awB3 _ _ _⟩, trivial⟩⟩
         show Blks _ 19 (awT3 (kC st a b e h0 h1 r0 r1) (fun i => (B (i + 1)).2) (B 3).2 i x .ready (expI (okI st a b e h0 h1 r0) 4 s0 x (2 + (1 + 1))))
         rw [ek]
         exact ⟨bk rfl rfl, bk rfl rfl, bk rfl rfl, bk rfl rfl, bk rfl rfl, bk rfl rfl, bk rfl rfl, bk rfl rfl, bk rfl rfl, bk rfl rfl, bk rfl rfl, bk rfl rfl, bk rfl rfl, ⟨congrArg (fun z => some (Blk.box [z] 38)) (lsP_snoc _ _ _), ltb rfl⟩, ⟨by rw [List.length_append]; rfl, ltb rfl⟩, bk rfl rfl, bk rfl rfl, bk rfl rfl, bk rfl rfl, trivial⟩
        ·refine Ex.mk _ (aw_look2 (y := nxtI 3 x) (E := (expI (okI st a b e h0 h1 r0) 4 s0 x 3).1) (id := 1) rfl rfl rfl rfl (shOk_key (by omega) (by omega)) (hE hm).choose_spec) ?_
         refine ifN ?_
         refine ⟨_, _, rfl, rfl, ?_⟩
         refine ifN ?_
         refine Side.mk (by unfold fitsK; kernel_rfl) ?_
         have ek : expI (okI st a b e h0 h1 r0) 4 s0 x (2 + (1 + 1)) = expI (okI st a b e h0 h1 r0) 4 s0 x 3 := (expI_succ 4 s0 x 3).trans (extI_old fun z => hm z.2)
         refine ⟨leb rfl, rfl, by decide, trivial, ⟨wp rfl (ltb rfl), wp rfl (ltb rfl), wp rfl (ltb rfl), wp rfl trivial, wp rfl trivial, wp rfl trivial, ⟨_, rfl, Weak.refl _ _, ⟨trivial, trivial, trivial⟩⟩, wp rfl trivial, trivial⟩, ?_, ⟨⟨_, rfl, under_awB3 _ _ _⟩, trivial⟩⟩
         show Blks _ 19 (awT3 (kC st a b e h0 h1 r0 r1) (fun i => (B (i + 1)).2) (B 3).2 i x .ready (expI (okI st a b e h0 h1 r0) 4 s0 x (2 + (1 + 1))))
         rw [ek]
         exact ⟨bk rfl rfl, bk rfl rfl, bk rfl rfl, bk rfl rfl, bk rfl rfl, bk rfl rfl, bk rfl rfl, bk rfl rfl, bk rfl rfl, bk rfl rfl, bk rfl rfl, bk rfl rfl, bk rfl rfl, bk rfl rfl, bk rfl rfl, bk rfl rfl, bk rfl rfl, bk rfl rfl, bk rfl rfl, trivial⟩
       ·refine ifN ?_
        refine Side.mk (by unfold fitsK; kernel_rfl) ?_
        refine ⟨leb rfl, rfl, by decide, trivial, ⟨wp rfl (ltb rfl), wp rfl (ltb rfl), wp rfl (ltb rfl), wp rfl trivial, wp rfl trivial, wp rfl trivial, ⟨_, rfl, Weak.refl _ _, ⟨trivial, trivial, trivial⟩⟩, wp rfl trivial, trivial⟩, ?_, trivial⟩
        have ek : expI (okI st a b e h0 h1 r0) 4 s0 x (2 + (1 + 1)) = expI (okI st a b e h0 h1 r0) 4 s0 x 3 := (expI_succ 4 s0 x 3).trans (extI_old fun z => p2 z.1.2)
        show Blks _ 19 (awT3 (kC st a b e h0 h1 r0 r1) (fun i => (B (i + 1)).2) (B 3).2 i x .ready (expI (okI st a b e h0 h1 r0) 4 s0 x (2 + (1 + 1))))
        rw [ek]
        exact ⟨bk rfl rfl, bk rfl rfl, bk rfl rfl, bk rfl rfl, bk rfl rfl, bk rfl rfl, bk rfl rfl, bk rfl rfl, bk rfl rfl, bk rfl rfl, bk rfl rfl, bk rfl rfl, bk rfl rfl, bk rfl rfl, bk rfl rfl, bk rfl rfl, bk rfl rfl, bk rfl rfl, bk rfl rfl, trivial⟩
      ·refine ifN ?_
       refine Side.mk (by unfold fitsK; kernel_rfl) ?_
       have ek : expI (okI st a b e h0 h1 r0) 4 s0 x (2 + (1 + 1)) = expI (okI st a b e h0 h1 r0) 4 s0 x 3 := (expI_succ 4 s0 x 3).trans (extI_old fun z => p1 z.1.1)
       refine ⟨leb rfl, rfl, by decide, trivial, ⟨wp rfl (ltb rfl), wp rfl (ltb rfl), wp rfl (ltb rfl), wp rfl trivial, wp rfl trivial, wp rfl trivial, ⟨_, rfl, Weak.refl _ _, ⟨trivial, trivial, trivial⟩⟩, wp rfl trivial, trivial⟩, ?_, trivial⟩
       show Blks _ 19 (awT3 (kC st a b e h0 h1 r0 r1) (fun i => (B (i + 1)).2) (B 3).2 i x .ready (expI (okI st a b e h0 h1 r0) 4 s0 x (2 + (1 + 1))))
       rw [ek]
       exact ⟨bk rfl rfl, bk rfl rfl, bk rfl rfl, bk rfl rfl, bk rfl rfl, bk rfl rfl, bk rfl rfl, bk rfl rfl, bk rfl rfl, bk rfl rfl, bk rfl rfl, bk rfl rfl, bk rfl rfl, bk rfl rfl, bk rfl rfl, bk rfl rfl, bk rfl rfl, bk rfl rfl, bk rfl rfl, trivial⟩
     ·refine If.mk (fun h => absurd h (by decide)) (fun _ => ?_)
      refine ifN ?_
      refine ⟨leb rfl, ?_⟩
      refine Side.mk (by unfold fitsK; kernel_rfl) ?_
      exact ⟨leb rfl, rfl, by decide, trivial, ⟨wp rfl (ltb rfl), wp rfl (ltb rfl), wp rfl (ltb rfl), wp rfl trivial, wp rfl trivial, trivial⟩, ⟨bk rfl rfl, bk rfl rfl, bk rfl rfl, bk rfl rfl, bk rfl rfl, bk rfl rfl, bk rfl rfl, bk rfl rfl, bk rfl rfl, bk rfl rfl, bk rfl rfl, bk rfl rfl, bk rfl rfl, bk rfl rfl, bk rfl rfl, bk rfl rfl, bk rfl rfl, bk rfl rfl, bk rfl rfl, trivial⟩, ⟨⟨_, rfl, under_awE _⟩, ⟨_, rfl, ltb rfl, trivial⟩, ⟨_, rfl, trivial, trivial⟩, ⟨_, rfl, under_lsP _ (ltb rfl), trivial⟩, ⟨_, rfl, trivial⟩, ⟨_, rfl, trivial, trivial⟩, ⟨_, rfl, under_lsP _ (ltb rfl), trivial⟩, ⟨_, rfl, trivial⟩, ⟨_, rfl, trivial, trivial⟩, ⟨_, rfl, under_lsP _ (ltb rfl), trivial⟩, ⟨_, rfl, trivial⟩, ⟨_, rfl, trivial, trivial⟩, ⟨_, rfl, under_lsP _ (ltb rfl), trivial⟩, ⟨_, rfl, trivial⟩, ⟨_, rfl, under_kC _ _ _ _ _ _ _ _ _⟩, ⟨_, rfl, under_eInts _ _, trivial⟩, ⟨_, rfl, trivial⟩, ⟨_, rfl, under_awB3 _ _ _⟩, trivial⟩⟩
   ·refine If.mk (fun h => absurd h (by decide)) (fun _ => ?_)
    refine ifN ?_
    refine ⟨leb rfl, .inl ⟨.inr rfl, _, rfl, rfl, ?_⟩⟩
    refine ⟨_, _, rfl, (fun e => by cases e), rfl, ?_⟩
    refine Side.mk (fits64 (by omega)) ?_
    have en : rowI (okI st a b e h0 h1 r0) 4 ((B 3).1, []) ((B 3).2.take (i + 1)) = expI (okI st a b e h0 h1 r0) 4 s0 x 4 := by rw [etk, rowI_snoc, ← hs0]
    refine ⟨leb rfl, rfl, hi', trivial, ⟨wp rfl (ltb rfl), wp rfl (ltb rfl), wp rfl (ltb rfl), wp rfl (ltb rfl), ⟨_, rfl, Weak.refl _ _, under_eLists _ _⟩, wp rfl trivial, ⟨_, rfl, Weak.of_eq (congrArg n' (by omega)), trivial⟩, trivial⟩, ?_, ⟨⟨_, rfl, under_awE _⟩, ⟨_, rfl, ltb rfl, trivial⟩, ⟨_, rfl, trivial, trivial⟩, ⟨_, rfl, under_lsP _ (ltb rfl), trivial⟩, ⟨_, rfl, trivial⟩, ⟨_, rfl, trivial, trivial⟩, ⟨_, rfl, under_lsP _ (ltb rfl), trivial⟩, ⟨_, rfl, trivial⟩, ⟨_, rfl, trivial, trivial⟩, ⟨_, rfl, under_lsP _ (ltb rfl), trivial⟩, ⟨_, rfl, trivial⟩, ⟨_, rfl, trivial, trivial⟩, ⟨_, rfl, under_lsP _ (ltb rfl), trivial⟩, ⟨_, rfl, trivial⟩, trivial⟩⟩
    refine ⟨bk rfl rfl, ⟨?_, ltb rfl⟩, bk rfl rfl, bk rfl rfl, bk rfl rfl, bk rfl rfl, bk rfl rfl, bk rfl rfl, bk rfl rfl, bk rfl rfl, bk rfl rfl, bk rfl rfl, bk rfl rfl, ⟨?_, ltb rfl⟩, ⟨?_, ltb rfl⟩, trivial⟩
    ·rw [en]; rfl
    ·rw [en]; rfl
    ·rw [en]; rfl
 refine ifN ?_
 obtain rfl : i = (B 3).2.length := by
  have : ¬ (i : Int) < ((B 3).2.length : Nat) := g2
  omega
 refine ⟨leb rfl, ?_⟩
 refine Side.mk (by unfold fitsK; kernel_rfl) ?_
 have eB4 : B 4 = rowI (okI st a b e h0 h1 r0) 4 ((B 3).1, []) ((B 3).2.take (B 3).2.length) := by rw [List.take_length]; exact hBs 3
 have n4 : (B 4).2 = [] := h4
 refine LoopG.fresh (n0 := 16) [(2, .ptr 0 0), (5, .ptr 2 0), (6, ePoses (B 4).2), (7, .ptr 15 0)] [(1, .map (.arr 5) (kE (awE (B 4).1))), (2, .box [.mp 1] 111)] rfl ?_ ?_ ?_
 ·exact ⟨⟨_, rfl, Weak.refl _ _⟩, ⟨_, rfl, Weak.refl _ _⟩, ⟨_, rfl, by rw [eB4]; exact wk_lsP 14 _⟩, ⟨_, rfl, Weak.refl _ _⟩, trivial⟩
 ·exact ⟨⟨by rw [eB4]; rfl, ltb rfl⟩, bk rfl rfl, trivial⟩
 refine LoopG.round mixed (m := false) ?_
 refine If.mk (fun g => ?_) (fun g => ?_)
 ·exact absurd g (by rw [poses_len, n4]; decide)
 refine ifN ?_
 exact ⟨.inl rfl, rfl, 1, _, rfl, rfl, lits _, rfl⟩
end Go.Vm
