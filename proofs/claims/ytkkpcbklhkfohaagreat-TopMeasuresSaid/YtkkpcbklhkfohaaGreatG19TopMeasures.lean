/-
  Texts of the proof, part 19: the machine, contracts of functions, plain laws. (Own work.)
-/
import Derived.Test.YtkkpcbklhkfohaaGreatG17TopMeasures
import Derived.Test.YtkkpcbklhkfohaaGreatG16TopMeasures
import Derived.Test.YtkkpcbklhkfohaaGreatG18TopMeasures
import Derived.Test.YtkkpcbklhkfohaaGreatG14TopMeasures

namespace Go.Vm
open Go.Proofs
theorem under_repl {n : Nat} (r : Nat) : AV.unders n (List.replicate r (n' 1)) := by
 rw [AV.unders_mem]
 intro a ha
 rw [List.eq_of_mem_replicate ha]
 exact trivial
def vF (r : List Int) : AV := .sl 1 [eState (r.map fun t => ((0 : Int), t))] .full
theorem under_vF (n : Nat) (r : List Int) : (vF r).under n := ⟨⟨⟨unders_flat n _, trivial⟩, trivial⟩, trivial⟩
def tmB (K : Nat) (S : List (List Int)) : Book := ⟨(K : Nat), 6, tmVs S⟩
def sameZ (S : List (List Int)) (a b : Nat) : Bool := decide (S.getD a [] = S.getD b [])
theorem tmB_ok {K : Nat} {S : List (List Int)} (h : TmOk S K) : BOk (tmB K S) := by
 refine ⟨⟨by have := h.k; unfold inI; show (1 : Int) ≤ (K : Nat) ∧ ((K : Nat) : Int) ≤ 4; omega, ⟨by show (1 : Int) ≤ 6; decide, by show (6 : Int) ≤ 6; decide⟩, ?_⟩, fun v hv => ?_⟩
 ·have := h.n
  show inI ((tmVs S).length : Int) 1 4
  unfold tmVs inI
  rw [List.length_map]
  omega
 ·obtain ⟨r, hr, rfl⟩ := List.mem_map.1 (show v ∈ S.map tmV from hv)
  obtain ⟨h1, h2⟩ := h.row r hr
  refine ⟨fun s hs => ?_, ⟨by show (1 : Int) ≤ 1; decide, by show (1 : Int) ≤ 4; decide⟩⟩
  simp only [tmV, List.mem_singleton] at hs
  subst hs
  refine ⟨by show (((r.map fun t => ((0 : Int), t)).length : Nat) : Int) = (K : Nat); rw [List.length_map, h1], fun m hm => ?_⟩
  obtain ⟨t, ht, rfl⟩ := List.mem_map.1 hm
  have := h2 t ht
  show inI 0 0 (((tmV r).length : Int) - 1) ∧ inI t 0 (6 - 1)
  unfold inI
  simp only [tmV, List.length_cons, List.length_nil]
  omega
theorem tmB_len {K : Nat} {S : List (List Int)} (h : TmOk S K) : BLen (tmB K S) := by
 obtain ⟨⟨h1, h2, h3⟩, h4⟩ := tmB_ok h
 unfold inI at h1 h3
 refine ⟨by omega, fun v hv => ?_⟩
 obtain ⟨g1, g2⟩ := h4 v hv
 unfold inI at g2
 refine ⟨by omega, fun s hs => ?_⟩
 have := (g1 s hs).1
 omega
theorem weak_slTail {t : Trie Blk} {n : Nat} {l l' : List AV} {tl : Tail} (h : Weaks l l') : Weak t (.sl n l tl) (.sl n l' .unk) := fun _ H _ O ι w c x => WeakH.tail n l' tl H O ι w c (wk_sl h O ι w c x)
theorem weaks_vF : ∀ S : List (List Int), Weaks (S.map vF) ((tmVs S).map eStates)
 | [] => .nil
 | r :: S => .cons (fun H => WeakH.tail _ _ _ H) (weaks_vF S)
theorem thenF_step {A : Option (Nat × Nat)} {ok : Nat → Nat → Bool} {q k : Nat} : thenF A (pairF ok q (k + 1)) = match thenF A (pairF ok q k) with
  | some p => some p
  | none => if q < k ∧ ok q k = true then some (q, k) else none := by
 cases A with
 | some p => rfl
 | none => rfl
theorem pairF_ok {ok : Nat → Nat → Bool} {i : Nat} : ∀ {k : Nat} {p : Nat × Nat}, pairF ok i k = some p → ok p.1 p.2 = true
 | 0, _, h => by cases h
 | k + 1, p, h => by
  unfold pairF at h
  cases hr : pairF ok i k with
  | some q =>
   rw [hr] at h
   cases h
   exact pairF_ok hr
  | none =>
   rw [hr] at h
   by_cases hk : i < k ∧ ok i k = true
   ·have h : (if i < k ∧ ok i k = true then some (i, k) else none) = some p := h
    rw [if_pos hk] at h
    cases h
    exact hk.2
   ·have h : (if i < k ∧ ok i k = true then some (i, k) else none) = some p := h
    rw [if_neg hk] at h
    cases h
theorem preF_ok {ok : Nat → Nat → Bool} {n : Nat} : ∀ {r : Nat} {p : Nat × Nat}, preF ok n r = some p → ok p.1 p.2 = true
 | 0, _, h => by cases h
 | r + 1, p, h => by
  rw [preF_succ] at h
  cases hr : preF ok n r with
  | some q =>
   rw [hr] at h
   cases h
   exact preF_ok hr
  | none =>
   rw [hr] at h
   exact pairF_ok h
theorem preF_same {S : List (List Int)} {p : Nat × Nat} (h : preF (sameZ S) S.length S.length = some p) : p.1 < S.length ∧ p.1 < p.2 ∧ p.2 < S.length ∧ S.getD p.1 [] = S.getD p.2 [] := by
 obtain ⟨h1, h2, h3⟩ := preF_at h
 exact ⟨h1, h2, h3, of_decide_eq_true (preF_ok h)⟩
theorem app_kind {g : Nat → Option Blk} {n len id gen : Nat} {cells : List AV} {a : Int} (h1 : cells.length = len) (h2 : len < 2097152) (hg : g id = some (.row gen)) :
  appT Tryz.prog false g n 61 61 (.sl len cells (.own id gen 1)) (.sl 1 [n' a] .full) = some (.sl (len + 1) (cells ++ [n' a]) (.own id (gen + 1) 1), .set id (.row (gen + 1))) :=
 appT_own (e := 64) (bytes := 8) (z := .int .i64 0) (by kernel_rfl) (by kernel_rfl) (by kernel_rfl) (by kernel_rfl) (by kernel_rfl) rfl (by omega) (by omega) (by omega) hg rfl
theorem app_hide {g : Nat → Option Blk} {n len id gen : Nat} {cells : List AV} {l : List Int} (h1 : cells.length = len) (h2 : len < 2097152) (hg : g id = some (.row gen)) :
  appT Tryz.prog false g n 38 38 (.sl len cells (.own id gen 1)) (.sl 1 [eInts l] .full) = some (.sl (len + 1) (cells ++ [eInts l]) (.own id (gen + 1) 1), .set id (.row (gen + 1))) :=
 appT_own (e := 30) (bytes := 24) (z := .slice none 0 0) (by kernel_rfl) (by kernel_rfl) (by kernel_rfl) (by kernel_rfl) (by kernel_rfl) rfl (by omega) (by omega) (by omega) hg rfl
theorem app_versF {g : Nat → Option Blk} {n len id gen : Nat} {cells : List AV} {l : List Int} (h1 : cells.length = len) (h2 : len < 2097152) (hg : g id = some (.row gen)) :
  appT Tryz.prog false g n 50 50 (.sl len cells (.own id gen 1)) (.sl 1 [vF l] .full) = some (.sl (len + 1) (cells ++ [vF l]) (.own id (gen + 1) 1), .set id (.row (gen + 1))) :=
 appT_own (e := 48) (bytes := 24) (z := .agg #[.slice none 0 0]) (by kernel_rfl) (by kernel_rfl) (by kernel_rfl) (by kernel_rfl) (by kernel_rfl) rfl (by omega) (by omega) (by omega) hg rfl
set_option maxHeartbeats 16000000 in
set_option maxRecDepth 100000 in
theorem c_topMeasures (Z : List (List Int)) (H : List Blk) : ACall Tryz.prog 4 [eLists Z] H (.ret (.lit (.bool true))) H := by
 refine fn_rule (m := false) (fn := Tryz.f4) (c := (Tryz.f4.body).getD .skip) mixed (by kernel_rfl) (by kernel_rfl) (of_decide_eq_true (by kernel_rfl)) ?_ ?_ ?_ H
 ·exact ⟨under_eLists 0 _, trivial⟩
 ·trivial
 ·refine If.mk (fun h1 => ?_) (fun h1 => ?_)
  ·refine ifY ?_
   refine CallG.pure _ (known_call) ?_
   exact ⟨.inl rfl, FinG.mk _ rfl rfl rfl⟩
  ·refine If.mk (fun h2 => ?_) (fun h2 => ?_)
   ·refine ifY ?_
    refine CallG.pure _ (known_call) ?_
    exact ⟨.inl rfl, FinG.mk _ rfl rfl rfl⟩
   ·obtain ⟨z0, hz0⟩ : ∃ z, Z[0]? = some z := ⟨_, List.getElem?_eq_getElem (by omega)⟩
    refine Ex.mk _ (jx_lists (r := 0) rfl hz0) ?_
    refine Ex.mk _ rfl ?_
    refine If.mk (fun h3 => ?_) (fun h3 => ?_)
    ·refine ifY ?_
     refine CallG.pure _ (known_call) ?_
     exact ⟨.inl rfl, FinG.mk _ rfl rfl rfl⟩
    ·refine Ex.mk _ (jx_lists (r := 0) rfl hz0) ?_
     refine Ex.mk _ rfl ?_
     refine If.mk (fun h4 => ?_) (fun h4 => ?_)
     ·refine ifY ?_
      refine CallG.pure _ (known_call) ?_
      exact ⟨.inl rfl, FinG.mk _ rfl rfl rfl⟩
     ·refine ifN ?_
      refine Ex.mk _ (jx_lists (r := 0) rfl hz0) ?_
      refine Ex.mk _ rfl ?_
      refine LoopG.ghost (LoopG.at (n0 := 11) rfl (LoopG.box 8 [.sl 0 [] (.own 10 0 1), .lit (.slice none 0 0), n' 1000, n' 1000, n' 1000, n' 1000, n' 1, n' 0] 8 (leb rfl) (leb rfl) rfl (.cons (Weak.own (r := 10) (g := 0) 1 rfl) (.cons (Weak.refl _ _) (.cons (Weak.refl _ _) (.cons (Weak.refl _ _) (.cons (Weak.refl _ _) (.cons (Weak.refl _ _) (.cons (Weak.refl _ _) (.cons (Weak.refl _ _) (.nil _))))))))) ?_))
      refine loop_up mixed (m := false) (fun r => [(0, eLists Z), (3, n' (Z.length : Nat)), (4, n' (z0.length : Nat)), (5, .ptr 8 0), (6, .ptr 9 0), (7, n' r)]) (fun r => [(8, .box [.sl r (List.replicate r (n' 1)) (.own 10 r 1), .lit (.slice none 0 0), n' 1000, n' 1000, n' 1000, n' 1000, n' 1, n' 0] 63), (9, .box [n' (z0.length : Nat), n' 6, .lit (.slice none 0 0)] 52), (10, .row r)]) (fun _ => True) z0.length 8 (leb rfl) trivial ?_ ?_ ?_
      ·exact ⟨⟨_, rfl, Weak.refl _ _, under_eLists _ _⟩, wp rfl trivial, wp rfl trivial, wp rfl (ltb rfl), wp rfl (ltb rfl), wp rfl trivial, trivial⟩
      ·exact ⟨bk rfl rfl, bk rfl rfl, bk rfl rfl, trivial⟩
      ·intro r hr _
       refine If.mk (fun g1 => ?_) (fun g1 => ?_)
       ·refine ifY ?_
        refine ex_app _ _ (app_kind List.length_replicate (by omega) rfl) ?_
        refine Side.mk (fits64 (by omega)) ?_
        refine ⟨leb rfl, rfl, by omega, trivial, ⟨⟨_, rfl, Weak.refl _ _, under_eLists _ _⟩, wp rfl trivial, wp rfl trivial, wp rfl (ltb rfl), wp rfl (ltb rfl), wp rfl trivial, trivial⟩, ⟨⟨?_, ltb rfl⟩, bk rfl rfl, bk rfl rfl, trivial⟩, ?_⟩
        ·rw [show List.replicate (r + 1) (n' 1) = List.replicate r (n' 1) ++ [n' 1] from List.replicate_succ']
         rfl
        ·exact ⟨⟨_, rfl, ⟨unders_append (under_repl _) ⟨trivial, trivial⟩, ltb rfl⟩, trivial, trivial, trivial, trivial, trivial, trivial, trivial, trivial⟩, ⟨_, rfl, trivial, trivial, trivial, trivial⟩, ⟨_, rfl, trivial⟩, trivial⟩
       ·refine ifN ?_
        refine ⟨leb rfl, ?_⟩
        obtain rfl : r = z0.length := by omega
        have ek : eInts (List.replicate z0.length 1) = .sl z0.length (List.replicate z0.length (n' 1)) .unk := by
         unfold eInts
         rw [List.length_replicate, List.map_replicate]
        refine LoopG.ghost (LoopG.ghost (LoopG.at (n0 := 13) rfl (LoopG.box 8 [eInts (List.replicate z0.length 1), .sl 0 [] (.own 11 0 1), n' 1000, n' 1000, n' 1000, n' 1000, n' 1, n' 0] 8 (leb rfl) (leb rfl) rfl (.cons (by rw [ek]; exact Weak.tail _ _ _ _) (.cons (Weak.own (r := 11) (g := 0) 1 rfl) (.cons (Weak.refl _ _) (.cons (Weak.refl _ _) (.cons (Weak.refl _ _) (.cons (Weak.refl _ _) (.cons (Weak.refl _ _) (.cons (Weak.refl _ _) (.nil _))))))))) ?_)))
        refine LoopG.box 9 [n' (z0.length : Nat), n' 6, .sl 0 [] (.own 12 0 1)] 8 (leb rfl) (leb rfl) rfl (.cons (Weak.refl _ _) (.cons (Weak.refl _ _) (.cons (Weak.own (r := 12) (g := 0) 1 rfl) (.nil _)))) ?_
        refine loop_up mixed (m := false) (fun r => [(0, eLists Z), (3, n' (Z.length : Nat)), (4, n' (z0.length : Nat)), (5, .ptr 8 0), (6, .ptr 9 0), (8, n' r)]) (fun r => [(8, .box [eInts (List.replicate z0.length 1), .sl r ((Z.take r).map fun z => eInts (hideL z)) (.own 11 r 1), n' 1000, n' 1000, n' 1000, n' 1000, n' 1, n' 0] 63), (9, .box [n' (z0.length : Nat), n' 6, .sl r ((Z.take r).map vF) (.own 12 r 1)] 52), (10, .row z0.length), (11, .row r), (12, .row r)]) (fun r => ∀ z ∈ Z.take r, z.length = z0.length ∧ ∀ x ∈ z, 0 ≤ x ∧ x ≤ 5) Z.length 8 (leb rfl) (by simp) ?_ ?_ ?_
        ·exact ⟨⟨_, rfl, Weak.refl _ _, under_eLists _ _⟩, wp rfl trivial, wp rfl trivial, wp rfl (ltb rfl), wp rfl (ltb rfl), wp rfl trivial, trivial⟩
        ·exact ⟨bk rfl rfl, bk rfl rfl, bk rfl rfl, bk rfl rfl, bk rfl rfl, trivial⟩
        ·intro r hr hI
         refine If.mk (fun g2 => ?_) (fun g2 => ?_)
         ·refine ifY ?_
          have hrZ : r < Z.length := by omega
          obtain ⟨z, hz⟩ : ∃ z, Z[r]? = some z := ⟨_, List.getElem?_eq_getElem hrZ⟩
          refine Ex.mk _ (jx_lists (r := r) rfl hz) ?_
          refine Ex.mk _ rfl ?_
          refine If.mk (fun g3 => ?_) (fun g3 => ?_)
          ·refine ifN ?_
           have hzl : z.length = z0.length := by omega
           refine LoopG.ghost (LoopG.ghost (LoopG.at (n0 := 15) rfl (LoopG.after ?_)))
           refine loop_up mixed (m := false) (fun q => [(0, eLists Z), (3, n' (Z.length : Nat)), (4, n' (z0.length : Nat)), (5, .ptr 8 0), (6, .ptr 9 0), (8, n' r), (9, .sl q ((hideL (z.take q)).map n') (.own 13 q 1)), (10, .sl q (((z.take q).map fun t => ((0 : Int), t)).flatMap eMove) (.own 14 q 2)), (11, n' q)]) (fun q => [(8, .box [eInts (List.replicate z0.length 1), .sl r ((Z.take r).map fun z => eInts (hideL z)) (.own 11 r 1), n' 1000, n' 1000, n' 1000, n' 1000, n' 1, n' 0] 63), (9, .box [n' (z0.length : Nat), n' 6, .sl r ((Z.take r).map vF) (.own 12 r 1)] 52), (10, .row z0.length), (11, .row r), (12, .row r), (13, .row q), (14, .row q)]) (fun q => ∀ x ∈ z.take q, 0 ≤ x ∧ x ≤ 5) z.length 13 (leb rfl) (by simp) ?_ ?_ ?_
           ·exact ⟨⟨_, rfl, Weak.refl _ _, under_eLists _ _⟩, wp rfl trivial, wp rfl trivial, wp rfl (ltb rfl), wp rfl (ltb rfl), wp rfl trivial, ⟨_, rfl, Weak.own (r := 13) (g := 0) 1 rfl, ⟨trivial, ltb rfl⟩⟩, ⟨_, rfl, Weak.own (r := 14) (g := 0) 2 rfl, ⟨trivial, ltb rfl⟩⟩, wp rfl trivial, trivial⟩
           ·exact ⟨bk rfl rfl, bk rfl rfl, bk rfl rfl, bk rfl rfl, bk rfl rfl, bk rfl rfl, bk rfl rfl, trivial⟩
           ·intro q hq hJ
            refine If.mk (fun g4 => ?_) (fun g4 => ?_)
            ·refine ifY ?_
             have hqz : q < z.length := by omega
             obtain ⟨x, hx, _, _⟩ := at_some (l := z) (r := q) hqz
             refine Ex.mk _ (jx_lists (r := r) rfl hz) ?_
             refine Ex.mk _ rfl ?_
             refine Ex.mk _ (jx_ints (r := q) rfl hx) ?_
             refine Ex.mk _ rfl ?_
             refine If.mk (fun g5 => ?_) (fun g5 => ?_)
             ·refine ifY ?_
              refine CallG.pure _ (known_call) ?_
              exact ⟨leb rfl, .inl ⟨leb rfl, .inl rfl, FinG.mk _ rfl rfl rfl⟩⟩
             ·refine Ex.mk _ (jx_lists (r := r) rfl hz) ?_
              refine Ex.mk _ rfl ?_
              refine Ex.mk _ (jx_ints (r := q) rfl hx) ?_
              refine Ex.mk _ rfl ?_
              refine If.mk (fun g6 => ?_) (fun g6 => ?_)
              ·refine ifY ?_
               refine CallG.pure _ (known_call) ?_
               exact ⟨leb rfl, .inl ⟨leb rfl, .inl rfl, FinG.mk _ rfl rfl rfl⟩⟩
              ·refine ifN ?_
               refine Ex.mk _ (jx_lists (r := r) rfl hz) ?_
               refine Ex.mk _ rfl ?_
               refine Ex.mk _ (jx_ints (r := q) rfl hx) ?_
               refine Ex.mk _ rfl ?_
               have hlq : (hideL (z.take q)).length = q := by unfold hideL; rw [List.length_map, List.length_take]; omega
               have hlm : (((z.take q).map fun t => ((0 : Int), t)).flatMap eMove).length = q * 2 := by rw [flat_length, List.length_map, List.length_take, Nat.min_eq_left (by omega)]
               have etk : z.take (q + 1) = z.take q ++ [x] := by rw [List.take_add_one, hx]; rfl
               refine Side.mk (fits64 (by omega)) ?_
               refine Side.mk (fits64 (by omega)) ?_
               refine ex_app _ _ (app_int (by rw [List.length_map]; exact hlq) (by omega) rfl) ?_
               refine Ex.mk _ (jx_lists (r := r) rfl hz) ?_
               refine Ex.mk _ rfl ?_
               refine Ex.mk _ (jx_ints (r := q) rfl hx) ?_
               refine Ex.mk _ rfl ?_
               refine ex_app _ _ (app_move hlm (by omega) rfl) ?_
               refine Side.mk (fits64 (by omega)) ?_
               have e9 : (hideL (z.take q)).map n' ++ [n' (10 * x + 10)] = (hideL (z.take (q + 1))).map n' := by rw [etk]; unfold hideL; simp
               have e10 : (((z.take q).map fun t => ((0 : Int), t)).flatMap eMove) ++ [n' 0, n' x] = ((z.take (q + 1)).map fun t => ((0 : Int), t)).flatMap eMove := by rw [etk]; simp [eMove]
               refine ⟨leb rfl, rfl, hqz, ?_, ⟨⟨_, rfl, Weak.refl _ _, under_eLists _ _⟩, wp rfl trivial, wp rfl trivial, wp rfl (ltb rfl), wp rfl (ltb rfl), wp rfl trivial, ⟨_, rfl, Weak.of_eq (congrArg (fun c => AV.sl (q + 1) c (.own 13 (q + 1) 1)) e9), ⟨under_ints _ _, ltb rfl⟩⟩, ⟨_, rfl, Weak.of_eq (congrArg (fun c => AV.sl (q + 1) c (.own 14 (q + 1) 2)) e10), ⟨unders_flat _ _, ltb rfl⟩⟩, wp rfl trivial, trivial⟩, ⟨bk rfl rfl, bk rfl rfl, bk rfl rfl, bk rfl rfl, bk rfl rfl, bk rfl rfl, bk rfl rfl, trivial⟩, ⟨_, rfl, trivial⟩, ⟨_, rfl, trivial⟩, trivial⟩
               intro y hy
               rw [etk] at hy
               rcases List.mem_append.1 hy with h | h
               ·exact hJ y h
               ·simp at h; omega
            ·refine ifN ?_
             obtain rfl : q = z.length := by omega
             have ef : z.take z.length = z := List.take_length
             refine ⟨leb rfl, .inr ⟨[(0, eLists Z), (3, n' (Z.length : Nat)), (4, n' (z0.length : Nat)), (5, .ptr 8 0), (6, .ptr 9 0), (8, n' r), (9, eInts (hideL z)), (10, eState (z.map fun t => ((0 : Int), t)))], ⟨⟨_, rfl, Weak.refl _ _⟩, ⟨_, rfl, Weak.refl _ _⟩, ⟨_, rfl, Weak.refl _ _⟩, ⟨_, rfl, Weak.refl _ _⟩, ⟨_, rfl, Weak.refl _ _⟩, ⟨_, rfl, Weak.refl _ _⟩, ⟨_, rfl, ?_⟩, ⟨_, rfl, ?_⟩, trivial⟩, ?_⟩⟩
             ·have e : eInts (hideL z) = .sl z.length ((hideL (z.take z.length)).map n') .unk := by
               rw [ef]; unfold eInts hideL; rw [List.length_map]
              rw [e]
              exact Weak.tail _ _ _ _
             ·have e : eState (z.map fun t => ((0 : Int), t)) = .sl z.length (((z.take z.length).map fun t => ((0 : Int), t)).flatMap eMove) .unk := by
               rw [ef]; unfold eState; rw [List.length_map]
              rw [e]
              exact Weak.tail _ _ _ _
             refine ex_app _ _ (app_hide (by rw [List.length_map, List.length_take]; omega) (by omega) rfl) ?_
             refine ex_app _ _ (app_versF (l := z) (by rw [List.length_map, List.length_take]; omega) (by omega) rfl) ?_
             refine Side.mk (fits64 (by omega)) ?_
             have etr : Z.take (r + 1) = Z.take r ++ [z] := by rw [List.take_add_one, hz]; rfl
             have e11 : ((Z.take r).map fun z => eInts (hideL z)) ++ [eInts (hideL z)] = (Z.take (r + 1)).map fun z => eInts (hideL z) := by rw [etr]; simp
             have e12 : (Z.take r).map vF ++ [vF z] = (Z.take (r + 1)).map vF := by rw [etr]; simp
             refine ⟨leb rfl, rfl, hrZ, ?_, ⟨⟨_, rfl, Weak.refl _ _, under_eLists _ _⟩, wp rfl trivial, wp rfl trivial, wp rfl (ltb rfl), wp rfl (ltb rfl), wp rfl trivial, trivial⟩, ⟨⟨?_, ltb rfl⟩, ⟨?_, ltb rfl⟩, bk rfl rfl, bk rfl rfl, bk rfl rfl, trivial⟩, ?_⟩
             ·intro y hy
              rw [etr] at hy
              rcases List.mem_append.1 hy with h | h
              ·exact hI y h
              ·simp at h
               subst h
               exact ⟨hzl, by rw [ef] at hJ; exact hJ⟩
             ·rw [← e11]
              rfl
             ·rw [← e12]
              rfl
             ·exact ⟨⟨_, rfl, under_eInts _ _, ⟨unders_append (unders_map (fun z => under_eInts _ _) _) ⟨under_eInts _ _, trivial⟩, ltb rfl⟩, trivial, trivial, trivial, trivial, trivial, trivial, trivial⟩, ⟨_, rfl, trivial, trivial, ⟨unders_append (unders_map (fun z => under_vF _ z) _) ⟨under_vF _ z, trivial⟩, ltb rfl⟩, trivial⟩, ⟨_, rfl, trivial⟩, ⟨_, rfl, trivial⟩, ⟨_, rfl, trivial⟩, trivial⟩
          ·refine ifY ?_
           refine CallG.pure _ (known_call) ?_
           exact ⟨leb rfl, .inl rfl, FinG.mk _ rfl rfl rfl⟩
         ·refine ifN ?_
          refine ⟨leb rfl, ?_⟩
          obtain rfl : r = Z.length := by omega
          rw [List.take_length] at hI
          have hS : TmOk Z z0.length := ⟨⟨by omega, by omega⟩, ⟨by omega, by omega⟩, hI⟩
          have hl : BLen (tmB z0.length Z) := tmB_len hS
          have hB : BOk (tmB z0.length Z) := tmB_ok hS
          refine LoopG.at (n0 := 13) rfl (LoopG.box 8 (regC z0.length Z) 8 (leb rfl) (leb rfl) rfl (.cons (Weak.refl _ _) (.cons ?_ (.cons (Weak.refl _ _) (.cons (Weak.refl _ _) (.cons (Weak.refl _ _) (.cons (Weak.refl _ _) (.cons (Weak.refl _ _) (.cons (Weak.refl _ _) (.nil _))))))))) ?_)
          ·have e : eLists (Z.map hideL) = .sl Z.length ((Z.take Z.length).map fun z => eInts (hideL z)) .unk := by
            rw [List.take_length]; unfold eLists; rw [List.length_map, List.map_map]; rfl
           rw [e]
           exact Weak.tail _ _ _ _
          refine LoopG.box 9 (eBook (tmB z0.length Z)).cellsOf 8 (leb rfl) (leb rfl) rfl (.cons (Weak.refl _ _) (.cons (Weak.refl _ _) (.cons ?_ (.nil _)))) ?_
          ·have e : eVersions (tmVs Z) = .sl Z.length ((tmVs Z).map eStates) .unk := by
            unfold eVersions tmVs; rw [List.length_map]
           show Weak _ _ (eVersions (tmVs Z))
           rw [e, List.take_length]
           exact weak_slTail (weaks_vF Z)
          refine loop_up mixed (m := false) (fun q => [(3, n' (Z.length : Nat)), (5, .ptr 8 0), (6, .ptr 9 0), (12, n' (oneI (preF (sameZ Z) Z.length q))), (13, n' (othI (preF (sameZ Z) Z.length q))), (14, n' q)]) (fun _ => [(8, rBox z0.length Z), (9, bBox (tmB z0.length Z))]) (fun _ => True) Z.length 8 (leb rfl) trivial ?_ ?_ ?_
          ·exact ⟨wp rfl trivial, wp rfl (ltb rfl), wp rfl (ltb rfl), wp rfl trivial, wp rfl trivial, wp rfl trivial, trivial⟩
          ·exact ⟨bk rfl rfl, bk rfl rfl, trivial⟩
          ·intro q hq _
           refine If.mk (fun k1 => ?_) (fun k1 => ?_)
           ·refine ifY ?_
            have hqZ : q < Z.length := by omega
            refine Side.mk (fits64 (by omega)) ?_
            refine LoopG.at (n0 := 13) rfl ?_
            refine loop_up mixed (m := false) (fun k => [(3, n' (Z.length : Nat)), (5, .ptr 8 0), (6, .ptr 9 0), (12, n' (oneI (thenF (preF (sameZ Z) Z.length q) (pairF (sameZ Z) q (q + 1 + k))))), (13, n' (othI (thenF (preF (sameZ Z) Z.length q) (pairF (sameZ Z) q (q + 1 + k))))), (14, n' q), (15, n' (q + 1 + k : Nat))]) (fun _ => [(8, rBox z0.length Z), (9, bBox (tmB z0.length Z))]) (fun _ => True) (Z.length - (q + 1)) 13 (leb rfl) trivial ?_ ?_ ?_
            ·have e : thenF (preF (sameZ Z) Z.length q) (pairF (sameZ Z) q (q + 1 + 0)) = preF (sameZ Z) Z.length q := by
              rw [pairF_low (by omega)]
              cases preF (sameZ Z) Z.length q <;> rfl
             exact ⟨wp rfl trivial, wp rfl (ltb rfl), wp rfl (ltb rfl), ⟨_, rfl, Weak.of_eq (congrArg (fun o => n' (oneI o)) e.symm), trivial⟩, ⟨_, rfl, Weak.of_eq (congrArg (fun o => n' (othI o)) e.symm), trivial⟩, wp rfl trivial, wp rfl trivial, trivial⟩
            ·exact ⟨bk rfl rfl, bk rfl rfl, trivial⟩
            ·intro k hk _
             have hdone : ∀ {P' : Option (Nat × Nat)}, thenF (preF (sameZ Z) Z.length q) (pairF (sameZ Z) q (q + 1 + (k + 1))) = P' → thenF (preF (sameZ Z) Z.length q) (pairF (sameZ Z) q (q + 1 + k + 1)) = P' := fun e => e
             refine If.mk (fun k2 => ?_) (fun k2 => ?_)
             ·refine ifY ?_
              have hkZ : q + 1 + k < Z.length := by omega
              have hvl : (tmB z0.length Z).vs.length = Z.length := by show (tmVs Z).length = _; unfold tmVs; rw [List.length_map]
              obtain ⟨o, hF, hc⟩ := c_tell (i := (q : Int)) (j := ((q + 1 + k : Nat) : Int)) hl hB (by rw [hvl]; unfold inI; omega) (by rw [hvl]; unfold inI; omega) (by omega)
              have hiff := hS.tells (show q < q + 1 + k by omega) hkZ hF
              have hst := thenF_step (A := preF (sameZ Z) Z.length q) (ok := sameZ Z) (q := q) (k := q + 1 + k)
              generalize hP : thenF (preF (sameZ Z) Z.length q) (pairF (sameZ Z) q (q + 1 + k)) = P at hst
              cases o with
              | none =>
               have hok : sameZ Z q (q + 1 + k) = true := decide_eq_true (hiff.1 rfl)
               refine CallG.pure _ ((show ∀ H, ACall Tryz.prog 19 [eBook (tmB z0.length Z), n' (q : Int), n' ((q + 1 + k : Nat) : Int)] H (.ret (tellV none)) H from hc)) ?_
               refine If.mk (fun h => absurd h (by decide)) (fun _ => ?_)
               refine If.mk (fun _ => ?_) (fun h => absurd (by decide) h)
               refine ifN ?_
               refine If.mk (fun _ => ?_) (fun h => absurd (by decide) h)
               cases P with
               | some p =>
                have e1 : thenF (preF (sameZ Z) Z.length q) (pairF (sameZ Z) q (q + 1 + (k + 1))) = some p := hst
                refine If.mk (fun h => absurd h (by show ¬ ((p.1 : Int) < 0); omega)) (fun _ => ?_)
                refine ifN ?_
                refine Side.mk (fits64 (by omega)) ?_
                refine ⟨leb rfl, rfl, by omega, trivial, ⟨wp rfl trivial, wp rfl (ltb rfl), wp rfl (ltb rfl), ⟨_, rfl, Weak.of_eq (congrArg (fun o => n' (oneI o)) e1.symm), trivial⟩, ⟨_, rfl, Weak.of_eq (congrArg (fun o => n' (othI o)) e1.symm), trivial⟩, wp rfl trivial, wp rfl trivial, trivial⟩, ⟨bk rfl rfl, bk rfl rfl, trivial⟩, trivial⟩
               | none =>
                have e1 : thenF (preF (sameZ Z) Z.length q) (pairF (sameZ Z) q (q + 1 + (k + 1))) = some (q, q + 1 + k) := hst.trans (if_pos ⟨by omega, hok⟩)
                refine If.mk (fun _ => ?_) (fun h => absurd (by show (-1 : Int) < 0; decide) h)
                refine ifY ?_
                refine Side.mk (fits64 (by omega)) ?_
                refine ⟨leb rfl, rfl, by omega, trivial, ⟨wp rfl trivial, wp rfl (ltb rfl), wp rfl (ltb rfl), ⟨_, rfl, Weak.of_eq (congrArg (fun o => n' (oneI o)) e1.symm), trivial⟩, ⟨_, rfl, Weak.of_eq (congrArg (fun o => n' (othI o)) e1.symm), trivial⟩, wp rfl trivial, wp rfl trivial, trivial⟩, ⟨bk rfl rfl, bk rfl rfl, trivial⟩, trivial⟩
              | some l =>
               have hok : ¬ sameZ Z q (q + 1 + k) = true := fun e => by have := hiff.2 (of_decide_eq_true e); cases this
               have e1 : thenF (preF (sameZ Z) Z.length q) (pairF (sameZ Z) q (q + 1 + (k + 1))) = P := by
                cases P with
                | some p => exact hst
                | none => exact hst.trans (if_neg fun h => hok h.2)
               refine CallG.pure _ ((show ∀ H, ACall Tryz.prog 19 [eBook (tmB z0.length Z), n' (q : Int), n' ((q + 1 + k : Nat) : Int)] H (.ret (tellV (some l))) H from hc)) ?_
               refine If.mk (fun _ => ?_) (fun h => absurd (by decide) h)
               refine ifN ?_
               refine If.mk (fun h => absurd h (by decide)) (fun _ => ?_)
               refine ifN ?_
               refine Side.mk (fits64 (by omega)) ?_
               refine ⟨leb rfl, rfl, by omega, trivial, ⟨wp rfl trivial, wp rfl (ltb rfl), wp rfl (ltb rfl), ⟨_, rfl, Weak.of_eq (congrArg (fun o => n' (oneI o)) e1.symm), trivial⟩, ⟨_, rfl, Weak.of_eq (congrArg (fun o => n' (othI o)) e1.symm), trivial⟩, wp rfl trivial, wp rfl trivial, trivial⟩, ⟨bk rfl rfl, bk rfl rfl, trivial⟩, trivial⟩
             ·refine ifN ?_
              have ek : q + 1 + k = Z.length := by omega
              have e1 : thenF (preF (sameZ Z) Z.length q) (pairF (sameZ Z) q (q + 1 + k)) = preF (sameZ Z) Z.length (q + 1) := by rw [ek, preF_succ]
              refine ⟨leb rfl, ?_⟩
              refine Side.mk (fits64 (by omega)) ?_
              refine ⟨leb rfl, rfl, hqZ, trivial, ⟨wp rfl trivial, wp rfl (ltb rfl), wp rfl (ltb rfl), ⟨_, rfl, Weak.of_eq (congrArg (fun o => n' (oneI o)) e1), trivial⟩, ⟨_, rfl, Weak.of_eq (congrArg (fun o => n' (othI o)) e1), trivial⟩, wp rfl trivial, trivial⟩, ⟨bk rfl rfl, bk rfl rfl, trivial⟩, trivial⟩
           ·refine ifN ?_
            refine ⟨leb rfl, ?_⟩
            obtain rfl : q = Z.length := by omega
            have hpre : preF (eqOn Z (List.range z0.length)) Z.length Z.length = preF (sameZ Z) Z.length Z.length := preF_congr fun a b ha hab hb => by
             rw [Bool.eq_iff_iff, hS.eqAll ha hb]
             exact (decide_eq_true_iff).symm
            have hok : okT Z = sepI Z := funext (okT_sep Z)
            have htw := c_Twins hS
            have hpl := c_Plan hS
            unfold TwinsV at htw
            rw [hpre] at htw
            rw [hok] at hpl
            have hne : remL (tmB z0.length Z).vs [] (tmB z0.length Z).vs.length ≠ [] := by
             show remL (tmVs Z) [] _ ≠ []
             rw [remL_none]
             show (List.range (tmVs Z).length).map _ ≠ []
             unfold tmVs
             rw [List.length_map]
             intro e
             have h0 := congrArg List.length e
             rw [List.length_map, List.length_range, List.length_nil] at h0
             have := hS.n
             omega
            obtain ⟨o, hF, hc⟩ := c_Settle hl hB (evs := []) ⟨fun e he => (by cases he), by decide⟩ hne
            cases o with
            | none => exact absurd rfl (hS.settled hF)
            | some l =>
             cases hP : preF (sameZ Z) Z.length Z.length with
             | some p =>
              obtain ⟨g1, g2, g3, g4⟩ := preF_same hP
              have hpn : planI (sepI Z) z0.length (z0.length + 1) = none := hS.plan_none.2 ⟨p.1, p.2, g2, g3, g4⟩
              rw [hP] at htw
              rw [hpn] at hpl
              refine CallG.pure _ (htw) ?_
              refine CallG.pure _ (hpl) ?_
              refine CallG.weak _ (.cons (fun H => WeakH.refl _ H) (.cons (fun H => WeakH.nil H) (.nil))) (hc) ?_
              refine If.mk (fun _ => ?_) (fun h => absurd (by decide) h)
              refine ifN ?_
              refine If.mk (fun _ => ?_) (fun h => absurd (by show (0 : Int) ≤ (p.1 : Int); omega) h)
              refine ifY ?_
              refine If.mk (fun _ => ?_) (fun h => absurd (by decide) h)
              refine If.mk (fun _ => ?_) (fun h => absurd rfl h)
              refine If.mk (fun _ => ?_) (fun h => absurd rfl h)
              refine If.mk (fun _ => ?_) (fun h => absurd (by decide) h)
              refine CallG.pure _ (known_call) ?_
              exact ⟨.inl rfl, FinG.mk _ rfl rfl rfl⟩
             | none =>
              rw [hP] at htw
              cases hp : planI (sepI Z) z0.length (z0.length + 1) with
              | none =>
               obtain ⟨a, b, hab, hb, e⟩ := hS.plan_none.1 hp
               exact absurd (decide_eq_true e) (preF_none.1 hP a b (by omega) hab hb)
              | some pl =>
               have hpe : pl = l := hS.plan hF (fun a b hab hb e => preF_none.1 hP a b (by omega) hab hb (decide_eq_true e)) hp
               subst hpe
               rw [hp] at hpl
               have hpll : (cuesI pl).length < 4611686018427387904 := by
                have h1 := inc_short ((planI_right (ok := sepI Z) (K := z0.length) (z0.length + 1) (Nat.le_refl _)).1 pl hp).1
                show (pl.map fun n : Nat => (n : Int)).length < _
                rw [List.length_map]
                omega
               refine CallG.pure _ (htw) ?_
               refine CallG.pure _ (hpl) ?_
               refine CallG.weak _ (.cons (fun H => WeakH.refl _ H) (.cons (fun H => WeakH.nil H) (.nil))) (hc) ?_
               refine If.mk (fun _ => ?_) (fun h => absurd (by decide) h)
               refine ifN ?_
               refine If.mk (fun h => absurd h (by show ¬ (0 : Int) ≤ -1; decide)) (fun _ => ?_)
               refine ifN ?_
               refine If.mk (fun _ => ?_) (fun h => absurd (by decide) h)
               refine If.mk (fun _ => ?_) (fun h => absurd (by decide) h)
               refine CallG.bool (c_same (cuesI pl) (cuesI pl) hpll) (fun _ => ?_) (fun h => absurd rfl h)
               refine CallG.pure _ (known_call) ?_
               exact ⟨.inl rfl, FinG.mk _ rfl rfl rfl⟩
end Go.Vm
