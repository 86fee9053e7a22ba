/-
  Texts of the proof, part 23: the machine, contracts of functions, plain laws. (Own work.)
-/
import Derived.Test.YtkkpcbklhkfohaaGreatG20TopTurns
import Derived.Test.YtkkpcbklhkfohaaGreatG22TopTurns
import Derived.Test.YtkkpcbklhkfohaaGreatG12TopTurns
import Derived.Test.YtkkpcbklhkfohaaGreatG14TopTurns
import Derived.Test.YtkkpcbklhkfohaaGreatG16TopTurns

namespace Go.Vm
open Go.Proofs
def allQ (a b : LimbD) : List PoseD := (spanL a.low a.high).flatMap fun p => (spanL b.low b.high).map fun q => (p, q)
theorem allQ_map (a b : LimbD) : (allQ a b).map prL = pairsI (spanL a.low a.high) (spanL b.low b.high) := by
 unfold allQ pairsI
 rw [List.map_flatMap]
 congr 1
 funext p
 rw [List.map_map]; rfl
theorem mem_spanL {lo hi x : Int} : x ∈ spanL lo hi ↔ lo ≤ x ∧ x ≤ hi := by
 unfold spanL
 simp only [List.mem_map, List.mem_range]
 refine ⟨fun ⟨i, h1, h2⟩ => by omega, fun h => ⟨(x - lo).toNat, by omega, by omega⟩⟩
theorem mem_allQ {a b : LimbD} {x : PoseD} : x ∈ allQ a b ↔ poseOk a b x.1 x.2 := by
 obtain ⟨p, q⟩ := x
 unfold allQ poseOk
 simp only [List.mem_flatMap, List.mem_map, Prod.mk.injEq, mem_spanL]
 exact ⟨fun ⟨p', h1, q', h2, h3, h4⟩ => by subst h3; subst h4; exact ⟨h1, h2⟩, fun ⟨h1, h2⟩ => ⟨p, h1, q, h2, rfl, rfl⟩⟩
theorem spanL_nodup (lo hi : Int) : (spanL lo hi).Nodup := by
 unfold spanL List.Nodup
 rw [List.pairwise_map]
 exact List.nodup_range.imp fun {i j} h e => h (by omega)
theorem allQ_nodup (a b : LimbD) : (allQ a b).Nodup := by
 unfold allQ List.Nodup
 rw [List.pairwise_flatMap]
 refine ⟨fun p _ => ?_, ?_⟩
 ·rw [List.pairwise_map]
  exact (spanL_nodup _ _).imp fun {i j} h e => h (Prod.mk.inj e).2
 ·refine (spanL_nodup _ _).imp fun {i j} h x hx y hy e => ?_
  obtain ⟨_, _, rfl⟩ := List.mem_map.1 hx
  obtain ⟨_, _, rfl⟩ := List.mem_map.1 hy
  exact h (Prod.mk.inj e).1
theorem allQ_len {a b : LimbD} (ha : -4 ≤ a.low ∧ a.low ≤ a.high ∧ a.high ≤ 4) (hb : -4 ≤ b.low ∧ b.low ≤ b.high ∧ b.high ≤ 4) : (allQ a b).length ≤ 81 := by
 have h1 : (spanL a.low a.high).length ≤ 9 := by rw [spanL_length]; omega
 have h2 : (spanL b.low b.high).length ≤ 9 := by rw [spanL_length]; omega
 unfold allQ
 rw [List.length_flatMap]
 simp only [List.length_map, List.map_const', List.sum_replicate_nat]
 exact Nat.mul_le_mul h1 h2
theorem nodup_at {α : Type} : ∀ {l : List α} {i j : Nat} (_ : l.Nodup) (hi : i < l.length) (hj : j < l.length), l[i] = l[j] → i = j
 | [], _, _, _, hi, _, _ => by simp at hi
 | _ :: _, 0, 0, _, _, _, _ => rfl
 | x :: l, 0, j + 1, hn, _, hj, e => by
  rw [List.nodup_cons] at hn
  have e' : x = l[j]'(by simpa using hj) := e
  exact absurd (e' ▸ List.getElem_mem _) hn.1
 | x :: l, i + 1, 0, hn, hi, _, e => by
  rw [List.nodup_cons] at hn
  have e' : l[i]'(by simpa using hi) = x := e
  exact absurd (e' ▸ List.getElem_mem _) hn.1
 | x :: l, i + 1, j + 1, hn, hi, hj, e => by
  rw [List.nodup_cons] at hn
  rw [nodup_at hn.2 (by simpa using hi) (by simpa using hj) e]
section
variable (ok : PoseD → Prop) [DecidablePred ok] (start : PoseD)
def putI (acc : List PoseD) (x : PoseD) : List PoseD := if ok x then (if x = start then x :: acc else acc ++ [x]) else acc
def posI (l : List PoseD) : List PoseD := l.foldl (putI ok start) []
end
section
variable {ok : PoseD → Prop} [DecidablePred ok] {start : PoseD}
theorem posI_snoc (l : List PoseD) (x : PoseD) : posI ok start (l ++ [x]) = putI ok start (posI ok start l) x := by unfold posI; rw [List.foldl_append]; rfl
theorem posI_fold_mem : ∀ (l acc : List PoseD) (x : PoseD), x ∈ l.foldl (putI ok start) acc ↔ x ∈ acc ∨ (x ∈ l ∧ ok x)
 | [], acc, x => by simp
 | y :: l, acc, x => by
  rw [List.foldl_cons, posI_fold_mem l _ x]
  have e : x ∈ putI ok start acc y ↔ x ∈ acc ∨ (x = y ∧ ok x) := by
   unfold putI
   by_cases h : ok y
   ·rw [if_pos h]
    by_cases h2 : y = start
    ·rw [if_pos h2, List.mem_cons]
     exact ⟨fun h' => h'.elim (fun e => .inr ⟨e, e ▸ h⟩) .inl, fun h' => h'.elim .inr fun h'' => .inl h''.1⟩
    ·rw [if_neg h2, List.mem_append, List.mem_singleton]
     exact ⟨fun h' => h'.elim .inl (fun e => .inr ⟨e, e ▸ h⟩), fun h' => h'.elim .inl fun h'' => .inr h''.1⟩
   ·rw [if_neg h]
    exact ⟨.inl, fun h' => h'.elim id fun h'' => absurd (h''.1 ▸ h''.2) h⟩
  rw [e, List.mem_cons]
  constructor
  ·rintro ((h | ⟨h1, h2⟩) | ⟨h1, h2⟩)
   ·exact .inl h
   ·exact .inr ⟨.inl h1, h2⟩
   ·exact .inr ⟨.inr h1, h2⟩
  ·rintro (h | ⟨h1 | h1, h2⟩)
   ·exact .inl (.inl h)
   ·exact .inl (.inr ⟨h1, h2⟩)
   ·exact .inr ⟨h1, h2⟩
theorem posI_mem {l : List PoseD} {x : PoseD} : x ∈ posI ok start l ↔ x ∈ l ∧ ok x := by
 unfold posI; rw [posI_fold_mem]; simp
theorem posI_len : ∀ (l acc : List PoseD), (l.foldl (putI ok start) acc).length ≤ acc.length + l.length
 | [], acc => by simp
 | y :: l, acc => by
  rw [List.foldl_cons, List.length_cons]
  have h1 := posI_len l (putI ok start acc y)
  have h2 : (putI ok start acc y).length ≤ acc.length + 1 := by
   unfold putI
   split
   ·split
    ·rw [List.length_cons]; omega
    ·rw [List.length_append, List.length_singleton]; omega
   ·omega
  omega
theorem posI_head (hs : ok start) : ∀ (l acc : List PoseD), l.Nodup → (start ∈ l → start ∉ acc) → (acc.head? = some start ∨ start ∈ l) → (l.foldl (putI ok start) acc).head? = some start
 | [], acc, _, _, h => h.elim id fun h => by cases h
 | y :: l, acc, hn, hna, h => by
  rw [List.nodup_cons] at hn
  rw [List.foldl_cons]
  by_cases hy : y = start
  ·have e : putI ok start acc y = y :: acc := by unfold putI; rw [if_pos (hy ▸ hs), if_pos hy]
   rw [e]
   refine posI_head hs l _ hn.2 (fun hm => absurd (hy ▸ hm) hn.1) (.inl ?_)
   rw [hy]; rfl
  ·have hsub : start ∈ putI ok start acc y → start ∈ acc := fun hm => by
    unfold putI at hm
    by_cases h1 : ok y
    ·rw [if_pos h1, if_neg hy] at hm
     rcases List.mem_append.1 hm with hm | hm
     ·exact hm
     ·exact absurd (List.mem_singleton.1 hm).symm hy
    ·rw [if_neg h1] at hm; exact hm
   refine posI_head hs l _ hn.2 (fun hm hm2 => hna (List.mem_cons_of_mem _ hm) (hsub hm2)) ?_
   rcases h with h | h
   ·left
    unfold putI
    by_cases h1 : ok y
    ·rw [if_pos h1, if_neg hy]
     cases acc with
     | nil => cases h
     | cons z acc => exact h
    ·rw [if_neg h1]; exact h
   ·exact .inr ((List.mem_cons.1 h).resolve_left fun e => hy e.symm)
end
theorem jx_turns {l : List Nat} {tl : Tail} {i : Int} {r k : Nat} (hi : i = r) (h : l[r]? = some k) : indexOp Tryz.prog 44 (.sl l.length (l.flatMap turnC) tl) (.lit (.int .i64 i)) = some (.eptr (turnC k)) := by
 have h1 := (List.getElem?_eq_some_iff.1 h).1
 subst hi
 refine (indexOp_sl (elem := 59) (n := 2) (by kernel_rfl) (by kernel_rfl) ⟨by omega, by omega, by rw [toA_cells, Int.toNat_natCast]; omega, by omega⟩).trans ?_
 rw [Int.toNat_natCast, flat2_at (fun _ => rfl) h]
def turnB (B : List PoseD) (to : PoseD) : Book := ⟨4, 3, [tverI B to B.length]⟩
theorem turn_rows {B : List PoseD} {to : PoseD} {s : List Move} (h : s ∈ tverI B to B.length) : ∃ i x, B[i]? = some x ∧ s = trowI B to i x 4 := by
 unfold tverI at h
 obtain ⟨i, hi, rfl⟩ := List.mem_map.1 h
 have hlt := List.mem_range.1 hi
 refine ⟨i, B[i], List.getElem?_eq_getElem hlt, ?_⟩
 rw [List.getD_eq_getElem?_getD, List.getElem?_eq_getElem hlt]; rfl
theorem turn_bok {B : List PoseD} (to : PoseD) (h1 : 0 < B.length) (h4 : B.length ≤ 4) : BOk (turnB B to) := by
 refine ⟨⟨by show (1 : Int) ≤ 4 ∧ (4 : Int) ≤ 4; decide, by show (1 : Int) ≤ 3 ∧ (3 : Int) ≤ 6; decide, by show (1 : Int) ≤ ((1 : Nat) : Int) ∧ ((1 : Nat) : Int) ≤ 4; decide⟩, fun v hv => ?_⟩
 rw [List.mem_singleton.1 hv]
 have hlen := tverI_length B to B.length
 refine ⟨fun s hs => ?_, by rw [hlen]; show (1 : Int) ≤ _ ∧ _ ≤ (4 : Int); omega⟩
 obtain ⟨i, x, hx, rfl⟩ := turn_rows hs
 have hi := (List.getElem?_eq_some_iff.1 hx).1
 refine ⟨by rw [trowI_length]; rfl, fun m hm => ?_⟩
 unfold trowI at hm
 obtain ⟨k, _, rfl⟩ := List.mem_map.1 hm
 rw [hlen]
 unfold tmvI inI
 show (0 ≤ (if 0 ≤ placeI B (nxtI k x) then placeI B (nxtI k x) else (i : Int)) ∧ (if 0 ≤ placeI B (nxtI k x) then placeI B (nxtI k x) else (i : Int)) ≤ (B.length : Int) - 1) ∧ (0 ≤ (if nxtI k x = to then (2 : Int) else if 0 ≤ placeI B (nxtI k x) then 1 else 0) ∧ (if nxtI k x = to then (2 : Int) else if 0 ≤ placeI B (nxtI k x) then 1 else 0) ≤ 3 - 1)
 constructor
 ·by_cases h : 0 ≤ placeI B (nxtI k x)
  ·rw [if_pos h]
   have := (List.getElem?_eq_some_iff.1 (place_at (place_nonneg.1 h))).1
   omega
  ·rw [if_neg h]; omega
 ·split
  ·decide
  ·split <;> decide
theorem turn_blen {B : List PoseD} (to : PoseD) (h4 : B.length ≤ 4) : BLen (turnB B to) := by
 refine ⟨by show 1 < _; decide, fun v hv => ?_⟩
 rw [List.mem_singleton.1 hv]
 refine ⟨by rw [tverI_length]; omega, fun s hs => ?_⟩
 obtain ⟨i, x, _, rfl⟩ := turn_rows hs
 rw [trowI_length]; decide
def lsG (R g : Nat) (A : List PoseD) : AV := .sl A.length ((A.map prL).map eInts) (.own R g 1)
theorem under_lsG {n R g : Nat} (A : List PoseD) (h : R < n) : (lsG R g A).under n := ⟨unders_map (under_eInts _) _, h⟩
theorem lsG_snoc (R g : Nat) (A : List PoseD) (y : PoseD) : AV.sl (A.length + 1) ((A.map prL).map eInts ++ [eInts (prL y)]) (.own R g 1) = lsG R g (A ++ [y]) := by
 unfold lsG; rw [List.length_append, List.map_append, List.map_append]; rfl
theorem wkH_lsP (R : Nat) (A : List PoseD) (H : List Blk) : WeakH H (lsP R A) (ePoses A) := by
 unfold lsP ePoses eLists
 rw [poses_len]
 exact WeakH.tail _ _ _ H
theorem wkH_lsG (R g : Nat) (A : List PoseD) (H : List Blk) : WeakH H (lsG R g A) (ePoses A) := by
 unfold lsG ePoses eLists
 rw [poses_len]
 exact WeakH.tail _ _ _ H
theorem src_lsP (g : Nat → Option Blk) (L : List PoseD) (R : Nat) : srcT g 1 (lsP R L) = some (L.length, (L.map prL).map eInts) := by
 show (if ((L.map prL).map eInts).length = L.length * 1 then some (L.length, (L.map prL).map eInts) else none) = _
 rw [if_pos (by rw [List.length_map, List.length_map, Nat.mul_one])]
theorem app_front {g : Nat → Option Blk} {n : Nat} {x : PoseD} {L : List PoseD} {R : Nat} (h : L ≠ []) (hl : L.length ≤ 2000000) :
  appT Tryz.prog false g n 38 38 (.sl 1 [eInts (prL x)] .full) (lsP R L) = some (.sl (1 + L.length) ([eInts (prL x)] ++ (L.map prL).map eInts) (.own n 0 1), .push (.row 0)) :=
 appT_full (e := 30) (bytes := 24) (z := .slice none 0 0) (by kernel_rfl) (by kernel_rfl) (by kernel_rfl) (by kernel_rfl) (by kernel_rfl) (src_lsP g L R) (List.length_pos_iff.2 h) rfl (by omega)
theorem front_lsG (R g : Nat) (L : List PoseD) (x : PoseD) : AV.sl (1 + L.length) ([eInts (prL x)] ++ (L.map prL).map eInts) (.own R g 1) = lsG R g (x :: L) := by
 unfold lsG; rw [List.length_cons, Nat.add_comm, List.map_cons, List.map_cons]; rfl
theorem posI_take {ok : PoseD → Prop} [DecidablePred ok] {start : PoseD} {l : List PoseD} {i : Nat} {x : PoseD} (h : l[i]? = some x) : posI ok start (l.take (i + 1)) = putI ok start (posI ok start (l.take i)) x := by
 obtain ⟨h1, h2⟩ := List.getElem?_eq_some_iff.1 h
 rw [List.take_add_one, h, ← posI_snoc]; rfl
set_option maxHeartbeats 8000000 in
set_option maxRecDepth 100000 in
theorem c_topTurns (F : Int × List LimbD) (S : FieldD × List FieldD × List Int) (from' to' : List Int) (H : List Blk) : ACall Tryz.prog 3 [eFigL F.1 F.2, eStageL S.1 S.2.1 S.2.2, eInts from', eInts to'] H (.ret (.lit (.bool true))) H := by
 obtain ⟨st, limbs⟩ := F
 obtain ⟨e, hands, rods⟩ := S
 refine fn_rule (m := false) (fn := Tryz.f3) (c := (Tryz.f3.body).getD .skip) mixed (by kernel_rfl) (by kernel_rfl) (of_decide_eq_true (by kernel_rfl)) ?_ ?_ ?_ H
 ·exact ⟨under_eFigL _ _ _, under_eStageL _ _ _ _, under_eInts _ _, under_eInts _ _, trivial⟩
 ·trivial
 ·refine If.mk (fun g1 => ?_) (fun g1 => ?_)
  rotate_left
  ·refine ifY ?_
   refine CallG.pure _ (known_call) ?_
   exact ⟨.inl rfl, FinG.mk _ rfl rfl rfl⟩
  refine If.mk (fun g2 => ?_) (fun g2 => ?_)
  ·refine ifY ?_
   refine CallG.pure _ (known_call) ?_
   exact ⟨.inl rfl, FinG.mk _ rfl rfl rfl⟩
  refine If.mk (fun g3 => ?_) (fun g3 => ?_)
  ·refine ifY ?_
   refine CallG.pure _ (known_call) ?_
   exact ⟨.inl rfl, FinG.mk _ rfl rfl rfl⟩
  refine If.mk (fun g4 => ?_) (fun g4 => ?_)
  ·refine ifY ?_
   refine CallG.pure _ (known_call) ?_
   exact ⟨.inl rfl, FinG.mk _ rfl rfl rfl⟩
  refine If.mk (fun g5 => ?_) (fun g5 => ?_)
  ·refine ifY ?_
   refine CallG.pure _ (known_call) ?_
   exact ⟨.inl rfl, FinG.mk _ rfl rfl rfl⟩
  match limbs, g1 with
  | [a, b], _ => ?_
  refine CallG.bool (c_figure st a b) (fun hf => ?_) (fun _ => ?_)
  rotate_left
  ·refine ifY ?_
   refine CallG.pure _ (known_call) ?_
   exact ⟨.inl rfl, FinG.mk _ rfl rfl rfl⟩
  refine (Classical.em (hands.length = 2 ∧ rods.length = 2)).elim (fun hb => ?_) (fun hb => ?_)
  rotate_left
  ·refine CallG.pure _ (c_stageBad st a b e hands rods hb) ?_
   refine ifY ?_
   refine CallG.pure _ (known_call) ?_
   exact ⟨.inl rfl, FinG.mk _ rfl rfl rfl⟩
  match hands, rods, hb with
  | [h0, h1], [r0, r1], _ => ?_
  refine CallG.bool (c_stageR st a b e h0 h1 r0 r1) (fun hs => ?_) (fun _ => ?_)
  rotate_left
  ·refine ifY ?_
   refine CallG.pure _ (known_call) ?_
   exact ⟨.inl rfl, FinG.mk _ rfl rfl rfl⟩
  refine (Classical.em (from'.length = 2)).elim (fun hl1 => ?_) (fun hl1 => ?_)
  rotate_left
  ·refine CallG.pure _ (c_poseBad st a b from' hl1) ?_
   refine ifY ?_
   refine CallG.pure _ (known_call) ?_
   exact ⟨.inl rfl, FinG.mk _ rfl rfl rfl⟩
  match from', hl1 with
  | [p, q], _ => ?_
  refine CallG.bool (c_pose st a b p q) (fun hp1 => ?_) (fun _ => ?_)
  rotate_left
  ·refine ifY ?_
   refine CallG.pure _ (known_call) ?_
   exact ⟨.inl rfl, FinG.mk _ rfl rfl rfl⟩
  refine (Classical.em (to'.length = 2)).elim (fun hl2 => ?_) (fun hl2 => ?_)
  rotate_left
  ·refine CallG.pure _ (c_poseBad st a b to' hl2) ?_
   refine ifY ?_
   refine CallG.pure _ (known_call) ?_
   exact ⟨.inl rfl, FinG.mk _ rfl rfl rfl⟩
  match to', hl2 with
  | [p', q'], _ => ?_
  refine CallG.bool (c_pose st a b p' q') (fun hp2 => ?_) (fun _ => ?_)
  rotate_left
  ·refine ifY ?_
   refine CallG.pure _ (known_call) ?_
   exact ⟨.inl rfl, FinG.mk _ rfl rfl rfl⟩
  refine CallG.bool (c_same [p, q] [p', q'] (by show 2 < _; decide)) (fun _ => ?_) (fun hne => ?_)
  ·refine ifY ?_
   refine CallG.pure _ (known_call) ?_
   exact ⟨.inl rfl, FinG.mk _ rfl rfl rfl⟩
  refine ifN ?_
  have hm3 := hf.2.1.2.2
  have hk3 := hf.2.2.2.2
  obtain ⟨start, hsE⟩ : ∃ x : PoseD, x = (p, q) := ⟨_, rfl⟩
  obtain ⟨to, htE⟩ : ∃ x : PoseD, x = (p', q') := ⟨_, rfl⟩
  have hq : (allQ a b).length ≤ 81 := allQ_len ⟨hm3.1.1, hm3.2.1.1, hm3.2.1.2⟩ ⟨hk3.1.1, hk3.2.1.1, hk3.2.1.2⟩
  refine CallG.pure _ (c_rall hf) ?_
  have eAll : pairsI (spanL a.low a.high) (spanL b.low b.high) = (allQ a b).map prL := (allQ_map a b).symm
  obtain ⟨N, hN⟩ : ∃ N, N = (allQ a b).length := ⟨_, rfl⟩
  have hJy : ∀ {y : PoseD}, okI st a b e h0 h1 r0 y → ∀ H, ACall Tryz.prog 12 [eFig st a b, eStage e h0 h1 r0 r1, eInts (prL y)] H (.ret (.tup [.lit (.bool true), n' 0])) H := fun {y} hy H => by
   have h := c_jFine hf hs hy.1 H
   rw [decide_eq_true hy.2] at h
   exact h
  have hJn : ∀ {y : PoseD}, y ∈ allQ a b → ¬ okI st a b e h0 h1 r0 y → ∀ H, ACall Tryz.prog 12 [eFig st a b, eStage e h0 h1 r0 r1, eInts (prL y)] H (.ret (.tup [.lit (.bool false), n' 0])) H := fun {y} hm hy H => by
   have h := c_jFine hf hs (mem_allQ.1 hm) H
   rw [decide_eq_false fun z => hy ⟨mem_allQ.1 hm, z⟩] at h
   exact h
  have hlen : ∀ i, (posI (okI st a b e h0 h1 r0) start ((allQ a b).take i)).length ≤ 81 := fun i => by
   have k1 := posI_len (ok := okI st a b e h0 h1 r0) (start := start) ((allQ a b).take i) []
   rw [List.length_take] at k1
   have k2 : (posI (okI st a b e h0 h1 r0) start ((allQ a b).take i)).length ≤ 0 + min i (allQ a b).length := k1
   omega
  refine (Classical.em (okI st a b e h0 h1 r0 start)).elim (fun hst => ?_) (fun hst => ?_)
  rotate_left
  ·refine LoopG.ghost (LoopG.at (n0 := 3) rfl ?_)
   refine loop_up mixed (m := false) (fun i => [(2, eInts (prL start)), (3, eInts (prL to)), (4, .ptr 0 0), (5, .ptr 1 0), (9, ePoses (allQ a b)), (10, lsP 2 (posI (okI st a b e h0 h1 r0) start ((allQ a b).take i))), (11, n' (i : Nat))])
    (fun i => [(0, .box (figK st a b) 24), (1, .box (stageC e h0 h1 r0 r1) 32), (2, .row (posI (okI st a b e h0 h1 r0) start ((allQ a b).take i)).length)]) (fun _ => True) N 2 (leb rfl) trivial ?_ ?_ ?_
   ·exact ⟨⟨_, rfl, by rw [hsE]; exact Weak.refl _ _, under_eInts _ _⟩, ⟨_, rfl, by rw [htE]; exact Weak.refl _ _, under_eInts _ _⟩, wp rfl (ltb rfl), wp rfl (ltb rfl), ⟨_, rfl, Weak.of_eq (congrArg eLists eAll), under_eLists _ _⟩, ⟨_, rfl, Weak.own (r := 2) (g := 0) 1 rfl, under_lsP _ (ltb rfl)⟩, wp rfl trivial, trivial⟩
   ·exact ⟨bk rfl rfl, bk rfl rfl, bk rfl rfl, trivial⟩
   intro i hi _
   refine If.mk (fun gi => ?_) (fun gi => ?_)
   ·refine ifY ?_
    have hi' : i < (allQ a b).length := by
     have : (i : Int) < (((allQ a b).map prL).length : Nat) := gi
     rw [poses_len] at this; omega
    obtain ⟨x, hx, etk, hxm⟩ := at_some (l := allQ a b) (r := i) hi'
    refine Ex.mk _ (jx_lists (r := i) rfl (poses_at hx)) ?_
    refine Ex.mk _ rfl ?_
    have ep := posI_take (ok := okI st a b e h0 h1 r0) (start := start) hx
    refine (Classical.em (okI st a b e h0 h1 r0 x)).elim (fun hxo => ?_) (fun hxo => ?_)
    ·refine CallG.pure _ (hJy hxo) ?_
     refine If.mk (fun _ => ?_) (fun h => absurd (by decide) h)
     refine ifN ?_
     refine Ex.mk _ (jx_lists (r := i) rfl (poses_at hx)) ?_
     refine Ex.mk _ rfl ?_
     refine CallG.bool (c_same (prL x) (prL start) (by show 2 < _; decide)) (fun h => ?_) (fun h => ?_)
     ·exact absurd (prL_inj.1 h ▸ hxo) hst
     refine ifN ?_
     refine ifY ?_
     refine Ex.mk _ (jx_lists (r := i) rfl (poses_at hx)) ?_
     refine Ex.mk _ rfl ?_
     refine ex_app _ _ (app_line (by rw [List.length_map, List.length_map]) (by have := hlen i; omega) rfl) ?_
     refine Side.mk (fits64 (by omega)) ?_
     have en : posI (okI st a b e h0 h1 r0) start ((allQ a b).take (i + 1)) = posI (okI st a b e h0 h1 r0) start ((allQ a b).take i) ++ [x] := by
      rw [ep]; unfold putI; rw [if_pos hxo, if_neg (fun e => h (prL_inj.2 e))]
     refine ⟨leb rfl, rfl, by omega, trivial, ⟨⟨_, rfl, Weak.refl _ _, under_eInts _ _⟩, ⟨_, rfl, Weak.refl _ _, under_eInts _ _⟩, wp rfl (ltb rfl), wp rfl (ltb rfl), ⟨_, rfl, Weak.refl _ _, under_eLists _ _⟩, ⟨_, rfl, Weak.of_eq ((lsP_snoc _ _ _).trans (congrArg (lsP 2) en.symm)), under_lsP _ (ltb rfl)⟩, ⟨_, rfl, Weak.of_eq (congrArg n' (by omega)), trivial⟩, trivial⟩, ?_, ⟨⟨_, rfl, trivial⟩, trivial⟩⟩
     refine ⟨bk rfl rfl, bk rfl rfl, ⟨?_, ltb rfl⟩, trivial⟩
     rw [en, List.length_append]; rfl
    ·refine CallG.pure _ (hJn hxm hxo) ?_
     refine If.mk (fun _ => ?_) (fun h => absurd (by decide) h)
     refine ifN ?_
     refine ifN ?_
     refine ifN ?_
     refine Side.mk (fits64 (by omega)) ?_
     have en : posI (okI st a b e h0 h1 r0) start ((allQ a b).take (i + 1)) = posI (okI st a b e h0 h1 r0) start ((allQ a b).take i) := by
      rw [ep]; unfold putI; rw [if_neg hxo]
     refine ⟨leb rfl, rfl, by omega, trivial, ⟨⟨_, rfl, Weak.refl _ _, under_eInts _ _⟩, ⟨_, rfl, Weak.refl _ _, under_eInts _ _⟩, wp rfl (ltb rfl), wp rfl (ltb rfl), ⟨_, rfl, Weak.refl _ _, under_eLists _ _⟩, ⟨_, rfl, Weak.of_eq (congrArg (lsP 2) en.symm), under_lsP _ (ltb rfl)⟩, ⟨_, rfl, Weak.of_eq (congrArg n' (by omega)), trivial⟩, trivial⟩, ?_, trivial⟩
     refine ⟨bk rfl rfl, bk rfl rfl, ⟨?_, ltb rfl⟩, trivial⟩
     rw [en]; rfl
   ·refine ifN ?_
    refine ⟨leb rfl, ?_⟩
    obtain ⟨L, hLE⟩ : ∃ L, L = posI (okI st a b e h0 h1 r0) start ((allQ a b).take i) := ⟨_, rfl⟩
    rw [← hLE]
    have hL0 := hlen i
    rw [← hLE] at hL0
    have hsL : placeI L start = -1 := idx_miss fun x hx hxs => by
     rw [hLE] at hx
     exact hst (hxs ▸ (posI_mem.1 hx).2)
    refine If.mk (fun g7 => ?_) (fun g7 => ?_)
    ·refine ifY ?_
     refine CallG.pure _ (known_call) ?_
     exact ⟨.inl rfl, FinG.mk _ rfl rfl rfl⟩
    refine CallG.weak _ (.cons (wkH_lsP 2 L) (.cons (fun H => WeakH.refl _ H) .nil)) (c_place L start (by omega)) ?_
    refine If.mk (fun g8 => ?_) (fun g8 => ?_)
    ·exact absurd g8 (by rw [hsL]; decide)
    refine ifY ?_
    refine CallG.pure _ (known_call) ?_
    exact ⟨.inl rfl, FinG.mk _ rfl rfl rfl⟩
  ·have hstm : start ∈ allQ a b := mem_allQ.2 hst.1
   obtain ⟨i0, hi0, ei0⟩ := List.getElem_of_mem hstm
   have hx0 : (allQ a b)[i0]? = some start := by rw [List.getElem?_eq_getElem hi0, ei0]
   have huniq : ∀ {i : Nat}, (allQ a b)[i]? = some start → i = i0 := fun {i} h => by
    obtain ⟨k1, k2⟩ := List.getElem?_eq_some_iff.1 h
    exact nodup_at (allQ_nodup a b) k1 hi0 (by rw [k2, ei0])
   refine LoopG.ghost (LoopG.at (n0 := 3) rfl ?_)
   refine loop_hup (m := false) mixed (fun j => [(2, eInts (prL start)), (3, eInts (prL to)), (4, .ptr 0 0), (5, .ptr 1 0), (9, ePoses (allQ a b)), (10, lsP 2 (posI (okI st a b e h0 h1 r0) start ((allQ a b).take j))), (11, n' (j : Nat))])
    (fun j => [(0, .box (figK st a b) 24), (1, .box (stageC e h0 h1 r0 r1) 32), (2, .row (posI (okI st a b e h0 h1 r0) start ((allQ a b).take j)).length)]) (fun _ => True) i0 2 (leb rfl) trivial ?_ ?_ ?_
   ·exact ⟨⟨_, rfl, by rw [hsE]; exact Weak.refl _ _, under_eInts _ _⟩, ⟨_, rfl, by rw [htE]; exact Weak.refl _ _, under_eInts _ _⟩, wp rfl (ltb rfl), wp rfl (ltb rfl), ⟨_, rfl, Weak.of_eq (congrArg eLists eAll), under_eLists _ _⟩, ⟨_, rfl, Weak.own (r := 2) (g := 0) 1 rfl, under_lsP _ (ltb rfl)⟩, wp rfl trivial, trivial⟩
   ·exact ⟨bk rfl rfl, bk rfl rfl, bk rfl rfl, trivial⟩
   intro i hi _
   refine If.mk (fun gi => ?_) (fun gi => ?_)
   rotate_left
   ·have : ¬ (i : Int) < (((allQ a b).map prL).length : Nat) := gi
    rw [poses_len] at this
    omega
   refine ifY ?_
   have hi' : i < (allQ a b).length := by omega
   obtain ⟨x, hx, etk, hxm⟩ := at_some (l := allQ a b) (r := i) hi'
   refine Ex.mk _ (jx_lists (r := i) rfl (poses_at hx)) ?_
   refine Ex.mk _ rfl ?_
   have ep := posI_take (ok := okI st a b e h0 h1 r0) (start := start) hx
   refine (Classical.em (i = i0)).elim (fun hii => ?_) (fun hii => ?_)
   rotate_left
   ·have hxs : x ≠ start := fun e => hii (huniq (e ▸ hx))
    refine (Classical.em (okI st a b e h0 h1 r0 x)).elim (fun hxo => ?_) (fun hxo => ?_)
    ·refine CallG.pure _ (hJy hxo) ?_
     refine If.mk (fun _ => ?_) (fun h => absurd (by decide) h)
     refine ifN ?_
     refine Ex.mk _ (jx_lists (r := i) rfl (poses_at hx)) ?_
     refine Ex.mk _ rfl ?_
     refine CallG.bool (c_same (prL x) (prL start) (by show 2 < _; decide)) (fun h => absurd (prL_inj.1 h) hxs) (fun h => ?_)
     refine ifN ?_
     refine ifY ?_
     refine Ex.mk _ (jx_lists (r := i) rfl (poses_at hx)) ?_
     refine Ex.mk _ rfl ?_
     refine ex_app _ _ (app_line (by rw [List.length_map, List.length_map]) (by have := hlen i; omega) rfl) ?_
     refine Side.mk (fits64 (by omega)) ?_
     have en : posI (okI st a b e h0 h1 r0) start ((allQ a b).take (i + 1)) = posI (okI st a b e h0 h1 r0) start ((allQ a b).take i) ++ [x] := by
      rw [ep]; unfold putI; rw [if_pos hxo, if_neg hxs]
     refine .inl ⟨leb rfl, rfl, by omega, trivial, ⟨⟨_, rfl, Weak.refl _ _, under_eInts _ _⟩, ⟨_, rfl, Weak.refl _ _, under_eInts _ _⟩, wp rfl (ltb rfl), wp rfl (ltb rfl), ⟨_, rfl, Weak.refl _ _, under_eLists _ _⟩, ⟨_, rfl, Weak.of_eq ((lsP_snoc _ _ _).trans (congrArg (lsP 2) en.symm)), under_lsP _ (ltb rfl)⟩, ⟨_, rfl, Weak.of_eq (congrArg n' (by omega)), trivial⟩, trivial⟩, ?_, ⟨⟨_, rfl, trivial⟩, trivial⟩⟩
     refine ⟨bk rfl rfl, bk rfl rfl, ⟨?_, ltb rfl⟩, trivial⟩
     rw [en, List.length_append]; rfl
    ·refine CallG.pure _ (hJn hxm hxo) ?_
     refine If.mk (fun _ => ?_) (fun h => absurd (by decide) h)
     refine ifN ?_
     refine ifN ?_
     refine ifN ?_
     refine Side.mk (fits64 (by omega)) ?_
     have en : posI (okI st a b e h0 h1 r0) start ((allQ a b).take (i + 1)) = posI (okI st a b e h0 h1 r0) start ((allQ a b).take i) := by
      rw [ep]; unfold putI; rw [if_neg hxo]
     refine .inl ⟨leb rfl, rfl, by omega, trivial, ⟨⟨_, rfl, Weak.refl _ _, under_eInts _ _⟩, ⟨_, rfl, Weak.refl _ _, under_eInts _ _⟩, wp rfl (ltb rfl), wp rfl (ltb rfl), ⟨_, rfl, Weak.refl _ _, under_eLists _ _⟩, ⟨_, rfl, Weak.of_eq (congrArg (lsP 2) en.symm), under_lsP _ (ltb rfl)⟩, ⟨_, rfl, Weak.of_eq (congrArg n' (by omega)), trivial⟩, trivial⟩, ?_, trivial⟩
     refine ⟨bk rfl rfl, bk rfl rfl, ⟨?_, ltb rfl⟩, trivial⟩
     rw [en]; rfl
   subst hii
   obtain rfl : start = x := by rw [hx0] at hx; exact Option.some.inj hx
   refine CallG.pure _ (hJy hst) ?_
   refine If.mk (fun _ => ?_) (fun h => absurd (by decide) h)
   refine ifN ?_
   refine Ex.mk _ (jx_lists (r := i) rfl (poses_at hx)) ?_
   refine Ex.mk _ rfl ?_
   refine CallG.bool (c_same (prL start) (prL start) (by show 2 < _; decide)) (fun _ => ?_) (fun h => absurd rfl h)
   refine ifY ?_
   refine Ex.mk _ (jx_lists (r := i) rfl (poses_at hx)) ?_
   refine Ex.mk _ rfl ?_
   obtain ⟨A, hA⟩ : ∃ A, A = posI (okI st a b e h0 h1 r0) start ((allQ a b).take i) := ⟨_, rfl⟩
   have hAl := hlen i
   rw [← hA] at hAl ep ⊢
   have en : posI (okI st a b e h0 h1 r0) start ((allQ a b).take (i + 1)) = start :: A := by
    rw [ep]; unfold putI; rw [if_pos hst, if_pos rfl]
   obtain ⟨c0, hc0⟩ : ∃ c0, c0 = A.length + 1 := ⟨_, rfl⟩
   have hcA : c0 ≤ (posI (okI st a b e h0 h1 r0) start ((allQ a b).take (i + 1))).length := by rw [en, hc0, List.length_cons]; exact Nat.le_refl _
   have eg : (posI (okI st a b e h0 h1 r0) start ((allQ a b).take (i + 1))).length - c0 = 0 := by rw [en, hc0, List.length_cons, Nat.sub_self]
   refine (Classical.em (A = [])).elim (fun hA0 => ?_) (fun hA0 => ?_)
   case' refine_1 =>
    subst hA0
    refine Ex.mk _ rfl ?_
    refine Side.mk (fits64 (by omega)) ?_
    refine .inr ⟨rfl, leb rfl, ?_⟩
    refine LoopG.ghost (LoopG.fresh (n0 := 16) [(2, eInts (prL start)), (3, eInts (prL to)), (4, .ptr 0 0), (5, .ptr 1 0), (9, ePoses (allQ a b)), (10, lsG 15 ((posI (okI st a b e h0 h1 r0) start ((allQ a b).take (i + 1))).length - c0) (posI (okI st a b e h0 h1 r0) start ((allQ a b).take (i + 1)))), (11, n' ((i + 1 : Nat)))] [(0, .box (figK st a b) 24), (1, .box (stageC e h0 h1 r0 r1) 32), (15, .row ((posI (okI st a b e h0 h1 r0) start ((allQ a b).take (i + 1))).length - c0))] rfl ?_ ?_ ?_)
    case' refine_1 => exact ⟨⟨_, rfl, Weak.refl _ _⟩, ⟨_, rfl, Weak.refl _ _⟩, ⟨_, rfl, Weak.refl _ _⟩, ⟨_, rfl, Weak.refl _ _⟩, ⟨_, rfl, Weak.refl _ _⟩, ⟨_, rfl, by rw [eg, en]; exact fun n H hH => WeakH.fullOwnN (r := 15) (len := 1) (sz := 1) rfl (hH.blk _ _ rfl)⟩, ⟨_, rfl, Weak.of_eq (congrArg n' (by omega))⟩, trivial⟩
    case' refine_2 => exact ⟨bk rfl rfl, bk rfl rfl, ⟨by rw [eg]; rfl, ltb rfl⟩, trivial⟩
   case' refine_2 =>
    refine ex_app _ _ (app_front hA0 (by omega)) ?_
    refine Side.mk (fits64 (by omega)) ?_
    refine .inr ⟨rfl, leb rfl, ?_⟩
    refine LoopG.fresh (n0 := 16) [(2, eInts (prL start)), (3, eInts (prL to)), (4, .ptr 0 0), (5, .ptr 1 0), (9, ePoses (allQ a b)), (10, lsG 15 ((posI (okI st a b e h0 h1 r0) start ((allQ a b).take (i + 1))).length - c0) (posI (okI st a b e h0 h1 r0) start ((allQ a b).take (i + 1)))), (11, n' ((i + 1 : Nat)))] [(0, .box (figK st a b) 24), (1, .box (stageC e h0 h1 r0 r1) 32), (15, .row ((posI (okI st a b e h0 h1 r0) start ((allQ a b).take (i + 1))).length - c0))] rfl ?_ ?_ ?_
    case' refine_1 => exact ⟨⟨_, rfl, Weak.refl _ _⟩, ⟨_, rfl, Weak.refl _ _⟩, ⟨_, rfl, Weak.refl _ _⟩, ⟨_, rfl, Weak.refl _ _⟩, ⟨_, rfl, Weak.refl _ _⟩, ⟨_, rfl, by rw [eg, en]; exact Weak.of_eq (front_lsG 15 0 A start)⟩, ⟨_, rfl, Weak.of_eq (congrArg n' (by omega))⟩, trivial⟩
    case' refine_2 => exact ⟨bk rfl rfl, bk rfl rfl, ⟨by rw [eg]; rfl, ltb rfl⟩, trivial⟩
   all_goals
    refine loop_up mixed (m := false) (fun r => [(2, eInts (prL start)), (3, eInts (prL to)), (4, .ptr 0 0), (5, .ptr 1 0), (9, ePoses (allQ a b)), (10, lsG 15 ((posI (okI st a b e h0 h1 r0) start ((allQ a b).take (i + 1 + r))).length - c0) (posI (okI st a b e h0 h1 r0) start ((allQ a b).take (i + 1 + r)))), (11, n' ((i + 1 + r : Nat)))]) (fun r => [(0, .box (figK st a b) 24), (1, .box (stageC e h0 h1 r0 r1) 32), (15, .row ((posI (okI st a b e h0 h1 r0) start ((allQ a b).take (i + 1 + r))).length - c0))]) (fun r => c0 ≤ (posI (okI st a b e h0 h1 r0) start ((allQ a b).take (i + 1 + r))).length) ((allQ a b).length - (i + 1)) 2 (leb rfl) hcA ?_ ?_ ?_
    ·exact ⟨⟨_, rfl, Weak.refl _ _, under_eInts _ _⟩, ⟨_, rfl, Weak.refl _ _, under_eInts _ _⟩, wp rfl (ltb rfl), wp rfl (ltb rfl), ⟨_, rfl, Weak.refl _ _, under_eLists _ _⟩, ⟨_, rfl, Weak.refl _ _, under_lsG _ (ltb rfl)⟩, wp rfl trivial, trivial⟩
    ·exact ⟨bk rfl rfl, bk rfl rfl, bk rfl rfl, trivial⟩
    intro r hr hI
    obtain ⟨B, hB⟩ : ∃ B, B = posI (okI st a b e h0 h1 r0) start ((allQ a b).take (i + 1 + r)) := ⟨_, rfl⟩
    have hBl := hlen (i + 1 + r)
    rw [← hB] at hBl hI ⊢
    refine If.mk (fun gr => ?_) (fun gr => ?_)
    ·refine ifY ?_
     have hr' : i + 1 + r < (allQ a b).length := by
      have : ((i + 1 + r : Nat) : Int) < (((allQ a b).map prL).length : Nat) := gr
      rw [poses_len] at this; omega
     obtain ⟨x, hx2, _, hxm2⟩ := at_some (l := allQ a b) (r := i + 1 + r) hr'
     have hxs : x ≠ start := fun e => by
      have := huniq (e ▸ hx2)
      omega
     have ep2 := posI_take (ok := (okI st a b e h0 h1 r0)) (start := start) hx2
     rw [← hB] at ep2
     refine Ex.mk _ (jx_lists (r := i + 1 + r) rfl (poses_at hx2)) ?_
     refine Ex.mk _ rfl ?_
     refine (Classical.em ((okI st a b e h0 h1 r0) x)).elim (fun hxo => ?_) (fun hxo => ?_)
     ·refine CallG.pure _ (hJy hxo) ?_
      refine If.mk (fun _ => ?_) (fun h => absurd (by decide) h)
      refine ifN ?_
      refine Ex.mk _ (jx_lists (r := i + 1 + r) rfl (poses_at hx2)) ?_
      refine Ex.mk _ rfl ?_
      refine CallG.bool (c_same (prL x) (prL start) (by show 2 < _; decide)) (fun h => absurd (prL_inj.1 h) hxs) (fun h => ?_)
      refine ifN ?_
      refine ifY ?_
      refine Ex.mk _ (jx_lists (r := i + 1 + r) rfl (poses_at hx2)) ?_
      refine Ex.mk _ rfl ?_
      refine ex_app _ _ (app_line (by rw [List.length_map, List.length_map]) (by omega) rfl) ?_
      refine Side.mk (fits64 (by omega)) ?_
      have en2 : posI (okI st a b e h0 h1 r0) start ((allQ a b).take (i + 1 + (r + 1))) = B ++ [x] := by
       show posI (okI st a b e h0 h1 r0) start ((allQ a b).take (i + 1 + r + 1)) = _
       rw [ep2]; unfold putI; rw [if_pos hxo, if_neg hxs]
      have eg2 : (B ++ [x]).length - c0 = B.length - c0 + 1 := by rw [List.length_append]; show B.length + 1 - c0 = _; omega
      refine ⟨leb rfl, rfl, by omega, (by show c0 ≤ (posI (okI st a b e h0 h1 r0) start ((allQ a b).take (i + 1 + (r + 1)))).length; rw [en2, List.length_append]; omega), ⟨⟨_, rfl, Weak.refl _ _, under_eInts _ _⟩, ⟨_, rfl, Weak.refl _ _, under_eInts _ _⟩, wp rfl (ltb rfl), wp rfl (ltb rfl), ⟨_, rfl, Weak.refl _ _, under_eLists _ _⟩, ⟨_, rfl, ?_, under_lsG _ (ltb rfl)⟩, ⟨_, rfl, Weak.of_eq (congrArg n' (by omega)), trivial⟩, trivial⟩, ?_, ⟨⟨_, rfl, trivial⟩, trivial⟩⟩
      ·rw [en2, eg2]
       exact Weak.of_eq (lsG_snoc _ _ _ _)
      ·refine ⟨bk rfl rfl, bk rfl rfl, ⟨?_, ltb rfl⟩, trivial⟩
       rw [en2, eg2]; rfl
     ·refine CallG.pure _ (hJn hxm2 hxo) ?_
      refine If.mk (fun _ => ?_) (fun h => absurd (by decide) h)
      refine ifN ?_
      refine ifN ?_
      refine ifN ?_
      refine Side.mk (fits64 (by omega)) ?_
      have en2 : posI (okI st a b e h0 h1 r0) start ((allQ a b).take (i + 1 + (r + 1))) = B := by
       show posI (okI st a b e h0 h1 r0) start ((allQ a b).take (i + 1 + r + 1)) = _
       rw [ep2]; unfold putI; rw [if_neg hxo]
      refine ⟨leb rfl, rfl, by omega, (by show c0 ≤ (posI (okI st a b e h0 h1 r0) start ((allQ a b).take (i + 1 + (r + 1)))).length; rw [en2]; exact hI), ⟨⟨_, rfl, Weak.refl _ _, under_eInts _ _⟩, ⟨_, rfl, Weak.refl _ _, under_eInts _ _⟩, wp rfl (ltb rfl), wp rfl (ltb rfl), ⟨_, rfl, Weak.refl _ _, under_eLists _ _⟩, ⟨_, rfl, ?_, under_lsG _ (ltb rfl)⟩, ⟨_, rfl, Weak.of_eq (congrArg n' (by omega)), trivial⟩, trivial⟩, ?_, trivial⟩
      ·rw [en2]
       exact Weak.refl _ _
      ·refine ⟨bk rfl rfl, bk rfl rfl, ⟨?_, ltb rfl⟩, trivial⟩
       rw [en2]; rfl
    refine ifN ?_
    refine ⟨leb rfl, ?_⟩
    have hBm : ∀ x, x ∈ B ↔ (okI st a b e h0 h1 r0) x := fun x => by
     have hr2 : ¬ ((i + 1 + r : Nat) : Int) < (((allQ a b).map prL).length : Nat) := gr
     rw [poses_len] at hr2
     rw [hB, List.take_of_length_le (by omega), posI_mem]
     exact ⟨fun h => h.2, fun h => ⟨mem_allQ.2 h.1, h⟩⟩
    have hBh : B[0]? = some start := by
     have hr2 : ¬ ((i + 1 + r : Nat) : Int) < (((allQ a b).map prL).length : Nat) := gr
     rw [poses_len] at hr2
     rw [← List.head?_eq_getElem?, hB, List.take_of_length_le (by omega)]
     exact posI_head hst _ [] (allQ_nodup a b) (fun _ h => by cases h) (.inr hstm)
    refine If.mk (fun g7 => ?_) (fun g7 => ?_)
    ·refine ifY ?_
     refine CallG.pure _ (known_call) ?_
     exact ⟨.inl rfl, FinG.mk _ rfl rfl rfl⟩
    have hB4 : B.length ≤ 4 := by
     have : ¬ (4 : Int) < (B.length : Nat) := g7
     omega
    have hps : placeI B start = 0 := by
     match B, hBh with
     | _ :: _, h => exact if_pos (Option.some.inj h)
    refine CallG.weak _ (.cons (wkH_lsG 15 _ B) (.cons (fun H => WeakH.refl _ H) .nil)) (c_place B start (by omega)) ?_
    refine If.mk (fun g8 => ?_) (fun g8 => ?_)
    rotate_left
    ·exact absurd hps g8
    refine CallG.weak _ (.cons (wkH_lsG 15 _ B) (.cons (fun H => WeakH.refl _ H) .nil)) (c_place B to (by omega)) ?_
    refine If.mk (fun g9 => ?_) (fun g9 => ?_)
    ·refine ifY ?_
     refine CallG.pure _ (known_call) ?_
     exact ⟨.inl rfl, FinG.mk _ rfl rfl rfl⟩
    refine ifN ?_
    have htB : to ∈ B := place_nonneg.1 (by have : ¬ placeI B to < 0 := g9; omega)
    have hto : (okI st a b e h0 h1 r0) to := (hBm to).1 htB
    have near : ∀ {y : PoseD}, poseOk a b y.1 y.2 → (-4 ≤ y.1 ∧ y.1 ≤ 4) ∧ (-4 ≤ y.2 ∧ y.2 ≤ 4) := fun {y} h => by
     obtain ⟨k1, k2⟩ := h
     omega
    refine CallG.pure _ (c_turns st a b) ?_
    refine CallG.weak _ (.cons (fun H => WeakH.refl _ H) (.cons (wkH_lsG 15 _ B) (.cons (fun H => WeakH.refl _ H) .nil))) (c_turning st a b B to hB4 (fun x hx => near ((hBm x).1 hx).1)) ?_
    have hend := bfs_end hto (fun x hx => (hBm x).2 hx) hB4
    have hbf := bfs_inv hto 4
    have hdB : ∀ x, dI (bfS (okI st a b e h0 h1 r0) to 4).1 x ≤ 4 := fun x => by
     unfold dI
     cases hx : lookD (bfS (okI st a b e h0 h1 r0) to 4).1 x with
     | none => exact Nat.zero_le _
     | some m => exact hbf.le _ ((lookD_mem hbf.nd).1 hx)
    have hmB : ∀ m, lookD (bfS (okI st a b e h0 h1 r0) to 4).1 start = some m → m ≤ 4 := fun m hm => hbf.le _ ((lookD_mem hbf.nd).1 hm)
    have hB1 : 0 < B.length := (List.getElem?_eq_some_iff.1 hBh).1
    obtain ⟨o, hF, hDc⟩ := c_Danger (turn_blen (B := B) to hB4) (turn_bok (B := B) to hB1 hB4) (i := 0) (v := tverI B to B.length) (tune := 2) (by show (0 : Int) ≤ 0 ∧ (0 : Int) ≤ ((1 : Nat) : Int) - 1; decide) rfl (by show (0 : Int) ≤ 2 ∧ (2 : Int) ≤ 3 - 1; decide)
    obtain ⟨hl1, hl2⟩ := turns_law hBm hB4 hBh hto (fun e => hne (by rw [hsE, htE] at e; obtain ⟨rfl, rfl⟩ := Prod.mk.inj e; rfl)) hF
    have hPc := c_Path hf hs hst hto hend rfl hdB hmB
    cases hlk : lookD (bfS (okI st a b e h0 h1 r0) to 4).1 start with
    | none =>
     have hoE := hl1 hlk
     subst hoE
     rw [hlk] at hPc
     refine CallG.pure _ (show ∀ H, ACall Tryz.prog 16 [eFig st a b, eStage e h0 h1 r0 r1, eInts (prL start), eInts (prL to)] H (.ret (pathV none)) H from hPc) ?_
     refine CallG.weak _ (.cons (fun H => wk_agg (.cons (fun H => WeakH.refl _ H) (.cons (fun H => WeakH.refl _ H) (.cons (fun H => WeakH.tail _ _ _ H) .nil)))) (.cons (fun H => WeakH.refl _ H) (.cons (fun H => WeakH.refl _ H) .nil))) hDc ?_
     refine If.mk (fun h => absurd h (by decide)) (fun _ => ?_)
     refine ifY ?_
     refine If.mk (fun _ => ?_) (fun h => absurd (by decide) h)
     refine If.mk (fun _ => ?_) (fun h => absurd (by decide) h)
     refine CallG.pure _ (known_call) ?_
     exact ⟨.inl rfl, FinG.mk _ rfl rfl rfl⟩
    | some m =>
     obtain ⟨hm4, ho⟩ := hl2 m hlk
     rw [hlk] at hPc
     obtain ⟨w, hw⟩ : ∃ w, w = (wS (okI st a b e h0 h1 r0) (bfS (okI st a b e h0 h1 r0) to 4).1 start m).1 := ⟨_, rfl⟩
     rw [← hw] at ho
     subst ho
     have hwl : w.length ≤ 4 := by rw [hw]; exact Nat.le_trans (wS_len _ _) hm4
     have hw4 : ∀ k ∈ w, k < 4 := by rw [hw]; exact wS_lt _ _
     refine CallG.pure _ (show ∀ H, ACall Tryz.prog 16 [eFig st a b, eStage e h0 h1 r0 r1, eInts (prL start), eInts (prL to)] H (.ret (pathV (some w))) H from fun H => by rw [hw]; exact hPc H) ?_
     refine CallG.weak _ (.cons (fun H => wk_agg (.cons (fun H => WeakH.refl _ H) (.cons (fun H => WeakH.refl _ H) (.cons (fun H => WeakH.tail _ _ _ H) .nil)))) (.cons (fun H => WeakH.refl _ H) (.cons (fun H => WeakH.refl _ H) .nil))) hDc ?_
     refine If.mk (fun _ => ?_) (fun h => absurd (by decide) h)
     refine ifN ?_
     refine If.mk (fun _ => ?_) (fun h => absurd (by decide) h)
     refine If.mk (fun _ => ?_) (fun h => absurd (by rw [cuesI_length]) h)
     refine ifN ?_
     refine CallG.pure _ (c_turns st a b) ?_
     have hbok := turn_bok (B := B) to hB1 hB4
     have hcu : ∀ k : Nat, k < 4 → ∀ H, ACall Tryz.prog 18 [eBook (turnB B to), n' (k : Nat)] H (.ret (.lit (.bool true))) H := fun k hk H => by
      have h := c_cue hbok.fit (k : Int) H
      have hd : inI (k : Int) 0 ((turnB B to).cues - 1) := by show 0 ≤ (k : Int) ∧ (k : Int) ≤ 4 - 1; omega
      rw [decide_eq_true hd] at h
      exact h
     refine LoopG.at (n0 := 27) rfl (loop_up mixed (m := false) (fun r => [(14, .ptr 25 0), (15, eTurns w), (17, cuesA w), (19, turns4), (20, n' (r : Nat))]) (fun _ => [(25, .box [n' 4, n' 3, .sl 1 [eStates (tverI B to B.length)] .full] 52)]) (fun _ => True) w.length 2 (leb rfl) trivial ?_ ?_ ?_)
     ·exact ⟨wp rfl (ltb rfl), ⟨_, rfl, Weak.refl _ _, under_eTurns _ _⟩, ⟨_, rfl, Weak.refl _ _, under_cuesA _ _⟩, ⟨_, rfl, Weak.refl _ _, ⟨⟨trivial, trivial, trivial, trivial, trivial, trivial, trivial, trivial, trivial⟩, trivial⟩⟩, wp rfl trivial, trivial⟩
     ·exact ⟨bk rfl rfl, trivial⟩
     intro v hv _
     refine If.mk (fun gv => ?_) (fun gv => ?_)
     ·refine ifY ?_
      have hv' : v < w.length := by
       have : (v : Int) < ((cuesI w).length : Nat) := gv
       rw [cuesI_length] at this; omega
      obtain ⟨k, hk, _, hkm⟩ := at_some (l := w) (r := v) hv'
      have hk4 := hw4 k hkm
      have hkc : (cuesI w)[v]? = some (k : Int) := by unfold cuesI; rw [List.getElem?_map, hk]; rfl
      refine Ex.mk _ (jx_ints (r := v) rfl hkc) ?_
      refine Ex.mk _ rfl ?_
      refine CallG.weak _ (.cons (fun H => wk_agg (.cons (fun H => WeakH.refl _ H) (.cons (fun H => WeakH.refl _ H) (.cons (fun H => WeakH.tail _ _ _ H) .nil)))) (.cons (fun H => WeakH.refl _ H) .nil)) (hcu k hk4) ?_
      refine Ex.mk _ (jx_turns (r := v) rfl hk) ?_
      refine Ex.mk _ rfl ?_
      refine Ex.mk _ (jx_ints (r := v) rfl hkc) ?_
      refine Ex.mk _ rfl ?_
      have hk4' : k = 0 ∨ k = 1 ∨ k = 2 ∨ k = 3 := by omega
      rcases hk4' with rfl | rfl | rfl | rfl
      ·refine Ex.mk _ rfl ?_
       refine Ex.mk _ rfl ?_
       refine NowR.of (show binB Tryz.prog .neq 59 (.agg [n' 0, n' (-1)]) (.agg [n' 0, n' (-1)]) = some (.lit (.bool false)) by kernel_rfl) ?_
       refine ifN ?_
       refine Side.mk (fits64 (by omega)) ?_
       exact ⟨leb rfl, rfl, hv', trivial, ⟨wp rfl (ltb rfl), ⟨_, rfl, Weak.refl _ _, under_eTurns _ _⟩, ⟨_, rfl, Weak.refl _ _, under_cuesA _ _⟩, ⟨_, rfl, Weak.refl _ _, ⟨⟨trivial, trivial, trivial, trivial, trivial, trivial, trivial, trivial, trivial⟩, trivial⟩⟩, ⟨_, rfl, Weak.of_eq (congrArg n' (by omega)), trivial⟩, trivial⟩, ⟨bk rfl rfl, trivial⟩, trivial⟩
      ·refine Ex.mk _ rfl ?_
       refine Ex.mk _ rfl ?_
       refine NowR.of (show binB Tryz.prog .neq 59 (.agg [n' 0, n' (1)]) (.agg [n' 0, n' (1)]) = some (.lit (.bool false)) by kernel_rfl) ?_
       refine ifN ?_
       refine Side.mk (fits64 (by omega)) ?_
       exact ⟨leb rfl, rfl, hv', trivial, ⟨wp rfl (ltb rfl), ⟨_, rfl, Weak.refl _ _, under_eTurns _ _⟩, ⟨_, rfl, Weak.refl _ _, under_cuesA _ _⟩, ⟨_, rfl, Weak.refl _ _, ⟨⟨trivial, trivial, trivial, trivial, trivial, trivial, trivial, trivial, trivial⟩, trivial⟩⟩, ⟨_, rfl, Weak.of_eq (congrArg n' (by omega)), trivial⟩, trivial⟩, ⟨bk rfl rfl, trivial⟩, trivial⟩
      ·refine Ex.mk _ rfl ?_
       refine Ex.mk _ rfl ?_
       refine NowR.of (show binB Tryz.prog .neq 59 (.agg [n' 1, n' (-1)]) (.agg [n' 1, n' (-1)]) = some (.lit (.bool false)) by kernel_rfl) ?_
       refine ifN ?_
       refine Side.mk (fits64 (by omega)) ?_
       exact ⟨leb rfl, rfl, hv', trivial, ⟨wp rfl (ltb rfl), ⟨_, rfl, Weak.refl _ _, under_eTurns _ _⟩, ⟨_, rfl, Weak.refl _ _, under_cuesA _ _⟩, ⟨_, rfl, Weak.refl _ _, ⟨⟨trivial, trivial, trivial, trivial, trivial, trivial, trivial, trivial, trivial⟩, trivial⟩⟩, ⟨_, rfl, Weak.of_eq (congrArg n' (by omega)), trivial⟩, trivial⟩, ⟨bk rfl rfl, trivial⟩, trivial⟩
      ·refine Ex.mk _ rfl ?_
       refine Ex.mk _ rfl ?_
       refine NowR.of (show binB Tryz.prog .neq 59 (.agg [n' 1, n' (1)]) (.agg [n' 1, n' (1)]) = some (.lit (.bool false)) by kernel_rfl) ?_
       refine ifN ?_
       refine Side.mk (fits64 (by omega)) ?_
       exact ⟨leb rfl, rfl, hv', trivial, ⟨wp rfl (ltb rfl), ⟨_, rfl, Weak.refl _ _, under_eTurns _ _⟩, ⟨_, rfl, Weak.refl _ _, under_cuesA _ _⟩, ⟨_, rfl, Weak.refl _ _, ⟨⟨trivial, trivial, trivial, trivial, trivial, trivial, trivial, trivial, trivial⟩, trivial⟩⟩, ⟨_, rfl, Weak.of_eq (congrArg n' (by omega)), trivial⟩, trivial⟩, ⟨bk rfl rfl, trivial⟩, trivial⟩
     refine ifN ?_
     refine ⟨leb rfl, ?_⟩
     refine CallG.pure _ (known_call) ?_
     exact ⟨.inl rfl, FinG.mk _ rfl rfl rfl⟩
end Go.Vm
