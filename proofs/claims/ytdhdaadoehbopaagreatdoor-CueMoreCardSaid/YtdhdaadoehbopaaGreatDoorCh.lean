/-
  Contracts of functions of packages kelirlaw04, kelirref04, kelirref02, cue and slices, for books, evenings and lists as told at each, in every heap. Conditions: at each theorem. (What surely is played; lists of lists.)
-/
import Derived.Test.YtdhdaadoehbopaaGreatDoorCb
import Derived.Test.YtdhdaadoehbopaaGreatDoorVc

namespace Go.Vm
open Go.Proofs
def plOf (b : Book) (cues : List Int) (i : Int) : List Int := plays (b.vs.getD i.toNat []) 0 cues
def mix (o t : List Int) : List Int := List.zipWith (fun a b => if a = b then a else -1) o t
def sureL (b : Book) (cues : List Int) : List Int → List Int
 | [] => []
 | i :: l => l.foldl (fun o j => mix o (plOf b cues j)) (plOf b cues i)
theorem appT_mrow {P : Program} {m : Bool} {g : Nat → Option Blk} {n sT xT e size bytes len k id gen : Nat} {z : Value} {cells new : List AV} {x : AV} (h1 : tslice P sT = some e) (h2 : tsz P e = some size) (h3 : tz P e = some z) (h4 : tbytes P e = some bytes)
  (h5 : (tsrc P xT && (decide (bytes ≤ 2097152) && decide (z.cells.size = size))) = true) (h6 : srcT g size x = some (k, new)) (h7 : 0 < k) (h8 : cells.length = len * size) (h9 : len + k ≤ 2097152) (h10 : g id = some (.mrow gen cells)) (h11 : new.all AV.one = true) :
  appT P m g n sT xT (.msl id gen len size) x = some (.msl id (gen + 1) (len + k) size, .set id (.mrow (gen + 1) (cells ++ new))) := by
 unfold appT
 simp only [h1, h2, h3, h4, h5, h6, h10, if_true]
 rw [if_neg (by omega), if_pos ⟨trivial, trivial, h8, h9, h11⟩]
theorem app_intM {m : Bool} {g : Nat → Option Blk} {n len id gen : Nat} {cells : List AV} {a : Int} (h1 : cells.length = len) (h2 : len < 2097152) (hg : g id = some (.mrow gen cells)) :
  appT Tryz.prog m g n 25 25 (.msl id gen len 1) (.sl 1 [n' a] .full) = some (.msl id (gen + 1) (len + 1) 1, .set id (.mrow (gen + 1) (cells ++ [n' a]))) :=
 appT_mrow (e := 3) (bytes := 8) (z := .int .i64 0) (by kernel_rfl) (by kernel_rfl) (by kernel_rfl) (by kernel_rfl) (by kernel_rfl) rfl (by omega) (by omega) (by omega) hg rfl
abbrev c0s (j : Nat) (cs : List Int) : List Int := (j : Int) :: cs
set_option maxRecDepth 100000 in
theorem c_played17 {v : Vers} {k : Nat} {c0 : Int} {cs : List Int} (hv : VersOk v k) (h0 : 0 < v.length) (hc : CuesOk k (c0 :: cs)) (hL : cs.length < 1000000) {t : Trie Blk} (H : List Blk) (hH : HT t 17 H) :
  ∃ H', HT (setL t [(21, .mrow cs.length ((plays v 0 (c0 :: cs)).map n')), (22, .defd), (23, .defd), (24, .defd), (25, .defd)]) 26 H' ∧ ACall Tryz.prog 96 [eVersion v, eInts (c0 :: cs)] H (.ret (.tup [.msl 21 cs.length (cs.length + 1) 1, ePlayer v (after v 0 (c0 :: cs) : Nat)])) H' ∧ Keep H H' noLo := by
 refine fn_new (m := true) (fn := Tryz.f96) (c := (Tryz.f96.body).getD .skip) mixed (by kernel_rfl) (by kernel_rfl) (of_decide_eq_true (by kernel_rfl)) ?_ H hH
 refine LoopG.round (m := true) mixed ?_
 refine If.mk (fun _ => ?_) (fun h => absurd (by simp) h)
 refine ifY ?_
 have hck := hc c0 (by simp)
 obtain ⟨j, rfl⟩ : ∃ j : Nat, c0 = j := ⟨c0.toNat, by omega⟩
 obtain ⟨x, hx1, hx2, hx3, hx4⟩ := mv_at (s := 0) (c := j) hv h0 (by omega)
 refine Ex.mk _ (jx_ints (r := 0) rfl rfl) ?_
 refine Ex.mk _ rfl ?_
 refine CallG.pure _ (c_hears hx1 hx2) ?_
 refine Ex.mk _ rfl ?_
 refine Side.mk (by unfold fitsK; kernel_rfl) ?_
 have hlen : (c0s j cs).length = cs.length + 1 := rfl
 refine loop_up mixed (m := true) (fun r => [(5, .ptr 18 0), (6, .ptr 19 0), (7, .msl 21 r (r + 1) 1), (14, eInts (c0s j cs)), (15, n' (c0s j cs).length), (16, n' (r + 1 : Nat))])
  (fun r => [(18, .box [.lit (.slice none 0 0), .lit (.int .i64 0)] 119), (19, .box [eStates v, n' (after v 0 ((c0s j cs).take (r + 1)) : Nat)] 119), (20, .box [eStates v, n' (mv v 0 j).1] 119), (21, .mrow r ((plays v 0 ((c0s j cs).take (r + 1))).map n'))]) (fun _ => True) cs.length 19 (leb rfl) trivial ?_ ?_ ?_
 ·exact ⟨wp rfl (ltb rfl), wp rfl (ltb rfl), wp rfl (ltb rfl), ⟨_, rfl, Weak.refl _ _, under_eInts _ _⟩, wp rfl trivial, wp rfl trivial, trivial⟩
 ·refine ⟨bk rfl rfl, ⟨?_, ltb rfl⟩, bk rfl rfl, bk rfl rfl, trivial⟩
  show some (Blk.box [eStates v, n' (mv v 0 j).1] 119) = some (Blk.box [eStates v, n' (((mv v 0 j).1.toNat : Nat) : Int)] 119)
  rw [hx4]
 ·intro r hr _
  refine If.mk (fun h1 => ?_) (fun h1 => ?_)
  ·refine ifY ?_
   have h1' : ((r + 1 : Nat) : Int) < ((c0s j cs).length : Nat) := h1
   obtain ⟨c, hc1, hc2, hc3⟩ := at_some (l := c0s j cs) (r := r + 1) (by omega)
   have hck' := hc c hc3
   obtain ⟨j', rfl⟩ : ∃ j : Nat, c = j := ⟨c.toNat, by omega⟩
   have hsl := after_lt (l := (c0s j cs).take (r + 1)) hv (fun c hc' => hc c (List.mem_of_mem_take hc')) h0
   obtain ⟨y, hy1, hy2, hy3, hy4⟩ := mv_at (s := after v 0 ((c0s j cs).take (r + 1))) (c := j') hv hsl (by omega)
   refine Ex.mk _ (jx_ints (r := r + 1) rfl hc1) ?_
   refine Ex.mk _ rfl ?_
   refine CallG.pure _ (c_hears hy1 hy2) ?_
   refine ex_app _ _ (app_intM (by rw [List.length_map, plays_length, List.length_take]; omega) (by omega) rfl) ?_
   refine Side.mk (fits64 (by omega)) ?_
   have ea : after v 0 ((c0s j cs).take (r + 1 + 1)) = (mv v (after v 0 ((c0s j cs).take (r + 1))) j').1.toNat := by rw [hc2, after_snoc]; rfl
   have ep : plays v 0 ((c0s j cs).take (r + 1 + 1)) = plays v 0 ((c0s j cs).take (r + 1)) ++ [(mv v (after v 0 ((c0s j cs).take (r + 1))) j').2] := by rw [hc2, plays_snoc]; rfl
   refine ⟨leb rfl, rfl, by omega, trivial, ⟨wp rfl (ltb rfl), wp rfl (ltb rfl), wp rfl (ltb rfl), ⟨_, rfl, Weak.refl _ _, under_eInts _ _⟩, wp rfl trivial, wp rfl trivial, trivial⟩, ⟨bk rfl rfl, ⟨?_, ltb rfl⟩, bk rfl rfl, ⟨?_, ltb rfl⟩, trivial⟩, ⟨_, rfl, ⟨under_states _ _, trivial, trivial⟩⟩, ⟨_, rfl, ⟨under_states _ _, trivial, trivial⟩⟩, ⟨_, rfl, unders_append (under_ints _ _) ⟨trivial, trivial⟩⟩, trivial⟩
   ·show some (Blk.box [eStates v, n' (mv v (after v 0 ((c0s j cs).take (r + 1))) j').1] 119) = some (Blk.box [eStates v, n' (after v 0 ((c0s j cs).take (r + 1 + 1)) : Nat)] 119)
    rw [ea, hy4]
   ·show some (Blk.mrow (r + 1) ((plays v 0 ((c0s j cs).take (r + 1))).map n' ++ [n' (mv v (after v 0 ((c0s j cs).take (r + 1))) j').2])) = some (Blk.mrow (r + 1) ((plays v 0 ((c0s j cs).take (r + 1 + 1))).map n'))
    rw [ep, List.map_append]; rfl
  ·refine ifN ?_
   have h1' : ¬ (((r + 1 : Nat) : Int) < ((c0s j cs).length : Nat)) := h1
   have er : r = cs.length := by omega
   subst er
   have et : (c0s j cs).take (cs.length + 1) = c0s j cs := List.take_of_length_le (by simp)
   refine ⟨leb rfl, .inl rfl, leb rfl, rfl, ⟨⟨?_, ltb rfl⟩, bk rfl rfl, bk rfl rfl, bk rfl rfl, bk rfl rfl, trivial⟩, FinF.mk _ rfl rfl ?_⟩
   ·show some (Blk.mrow cs.length ((plays v 0 ((c0s j cs).take (cs.length + 1))).map n')) = _
    rw [et]
   ·show AV.tup [.msl 21 cs.length (cs.length + 1) 1, .agg [eStates v, n' (after v 0 ((c0s j cs).take (cs.length + 1)) : Nat)]] = _
    rw [et]; rfl
theorem wk_ev0 (H : List Blk) : WeakH H (.agg [.lit (.slice none 0 0), .lit (.slice none 0 0)]) (eEvening ([], [])) := wk_agg (.cons (WeakH.nil) (.cons (WeakH.nil) .nil))
theorem remL_mem {vs : List Vers} {evs : List Evening} : ∀ {r : Nat} {j : Int}, j ∈ remL vs evs r → 0 ≤ j ∧ j < r
 | 0, _, h => by cases h
 | r + 1, j, h => by
  unfold remL at h
  split at h
  ·rcases List.mem_append.1 h with h | h
   ·have := remL_mem h; omega
   ·rw [List.mem_singleton] at h; omega
  ·have := remL_mem h; omega
theorem mix_nil (t : List Int) : mix [] t = [] := rfl
theorem foldl_mix_nil (b : Book) : ∀ (l : List Int), l.foldl (fun o j => mix o (plOf b [] j)) [] = []
 | [] => rfl
 | j :: l => by
  rw [List.foldl_cons, mix_nil]
  exact foldl_mix_nil b l
theorem sureL_nil (b : Book) : ∀ (l : List Int), sureL b [] l = []
 | [] => rfl
 | _ :: l => foldl_mix_nil b l
theorem pl_at {b : Book} (hB : BOk b) {cues : List Int} {j : Int} (hj : 0 ≤ j ∧ j < b.vs.length) : ∃ v, b.vs[j.toNat]? = some v ∧ plOf b cues j = plays v 0 cues ∧ VersOk v b.cues.toNat ∧ 0 < v.length := by
 have hlt : j.toNat < b.vs.length := by omega
 refine ⟨b.vs[j.toNat], List.getElem?_eq_getElem hlt, ?_, ?_⟩
 ·unfold plOf; rw [getD_of (List.getElem?_eq_getElem hlt)]
 ·exact (hB.2 _ (List.getElem_mem hlt)).vers
set_option maxRecDepth 100000 in
theorem c_sure0 {b : Book} (hl : BLen b) (hB : BOk b) {evs : List Evening} (hE : EvsOk b evs) {i : Int} {R : List Int} (hR : remL b.vs (evs ++ [([], [])]) b.vs.length = i :: R) (H : List Blk) :
  ACall Tryz.prog 38 [eBook b, eEvenings evs, eInts []] H (.ret (.tup [eInts [], .lit (.int .i64 0)])) H := by
 have hC : LList b [] := ⟨by simp, fun c h => by cases h⟩
 have hmem : ∀ j ∈ i :: R, 0 ≤ j ∧ j < b.vs.length := fun j hj => remL_mem (hR ▸ hj)
 have hlen := remL_length b.vs (evs ++ [([], [])]) b.vs.length
 rw [hR] at hlen
 have hvl := hB.1.2.2
 unfold inI at hvl
 refine fn_rule (m := false) (fn := Tryz.f38) (c := (Tryz.f38.body).getD .skip) mixed (by kernel_rfl) (by kernel_rfl) (of_decide_eq_true (by kernel_rfl)) ?_ ?_ ?_ H
 ·exact ⟨under_eBook 0 _, under_eEvenings 0 _, under_eInts 0 _, trivial⟩
 ·exact under_tup2 (under_eInts 0 _) trivial
 ·refine CallG.bool (c_isBook hl) (fun _ => ?_) (fun x => absurd hB x)
  refine CallG.bool (c_areCues hB.fit _ (by simp)) (fun _ => ?_) (fun x => absurd hC x)
  have h1c := hB.1.1.1
  have hN : EvOk b ([], []) := ⟨⟨hC, ⟨fun c h => (by cases h), (by simp)⟩⟩, rfl⟩
  have hL : ∀ H, ACall Tryz.prog 99 [eBook b, .lit (.bool true), eEvenings evs, eEvening ([], [])] H (.ret (.tup [eInts (i :: R), .lit (.int .i64 0)])) H := fun H => by
   have := c_left hl hB hE hN (by rw [hR]; simp) H
   rwa [hR] at this
  refine CallG.weak _ (.cons (fun H => WeakH.refl _ H) (.cons (fun H => WeakH.refl _ H) (.cons (fun H => WeakH.refl _ H) (.cons wk_ev0 .nil)))) hL ?_
  refine If.mk (fun _ => ?_) (fun h => absurd (by decide) h)
  refine ifN ?_
  refine LoopG.at (n0 := 17) rfl (loop_up mixed (m := false) (fun r => [(2, eInts []), (3, .ptr 0 0), (10, eInts []), (34, eInts (i :: R)), (35, n' (i :: R).length), (36, n' r)]) (fun _ => [(0, bBox b)]) (fun _ => True) (i :: R).length 17 (leb rfl) trivial ?_ ?_ ?_)
  ·exact ⟨⟨_, rfl, Weak.refl _ _, under_eInts _ _⟩, wp rfl (ltb rfl), ⟨_, rfl, Weak.nil _, under_eInts _ _⟩, ⟨_, rfl, Weak.refl _ _, under_eInts _ _⟩, wp rfl trivial, wp rfl trivial, trivial⟩
  ·exact ⟨bk rfl rfl, trivial⟩
  ·intro r hr _
   refine If.mk (fun h1 => ?_) (fun h1 => ?_)
   ·refine ifY ?_
    obtain ⟨j, hj1, hj2, hj3⟩ := at_some (l := i :: R) (r := r) (by omega)
    have hj := hmem j hj3
    obtain ⟨v, hv, _, hvo, h0⟩ := pl_at hB (cues := []) hj
    refine Ex.mk _ (jx_ints (r := r) rfl hj1) ?_
    refine Ex.mk _ rfl ?_
    refine Ex.mk _ (jx_versions (r := j.toNat) (by omega) hv) ?_
    refine Ex.mk _ rfl ?_
    refine CallG.pure _ (c_played (cues := []) hvo h0 (fun c h => by cases h) (by simp)) ?_
    refine If.mk (fun h2 => ?_) (fun h2 => ?_)
    ·refine ifY ?_
     refine LoopG.round (m := false) mixed ?_
     refine If.mk (fun h => absurd h ((show ¬ ((0 : Int) < 0) by omega))) (fun _ => ?_)
     refine ifN ?_
     refine Side.mk (fits64 (by omega)) ?_
     exact ⟨leb rfl, rfl, by omega, trivial, ⟨⟨_, rfl, Weak.refl _ _, under_eInts _ _⟩, wp rfl (ltb rfl), ⟨_, rfl, Weak.refl _ _, under_eInts _ _⟩, ⟨_, rfl, Weak.refl _ _, under_eInts _ _⟩, wp rfl trivial, wp rfl trivial, trivial⟩, ⟨bk rfl rfl, trivial⟩, trivial⟩
    ·refine ifN ?_
     refine LoopG.round (m := false) mixed ?_
     refine If.mk (fun h => absurd h ((show ¬ ((0 : Int) < 0) by omega))) (fun _ => ?_)
     refine ifN ?_
     refine Side.mk (fits64 (by omega)) ?_
     exact ⟨leb rfl, rfl, by omega, trivial, ⟨⟨_, rfl, Weak.refl _ _, under_eInts _ _⟩, wp rfl (ltb rfl), ⟨_, rfl, Weak.refl _ _, under_eInts _ _⟩, ⟨_, rfl, Weak.refl _ _, under_eInts _ _⟩, wp rfl trivial, wp rfl trivial, trivial⟩, ⟨bk rfl rfl, trivial⟩, trivial⟩
   ·refine ifN ?_
    refine ⟨leb rfl, .inl rfl, FinG.mk _ rfl rfl ?_⟩
    rfl
set_option maxRecDepth 100000 in
theorem load_int {l : List Int} {q : Nat} {x : Int} (h : l[q]? = some x) : loadA Tryz.prog 3 ((l.map n').drop (q * 1)) = some (n' x) := by
 have hlt := (List.getElem?_eq_some_iff.1 h).1
 rw [Nat.mul_one, List.drop_eq_getElem_cons (by simpa using hlt)]
 have : (l.map n')[q]'(by simpa using hlt) = n' x := by
  rw [List.getElem_map]
  exact congrArg n' (List.getElem?_eq_some_iff.1 h).2
 rw [this]
 rfl
set_option maxRecDepth 100000 in
theorem ix_msl {id gen : Nat} {len : Nat} {i : Int} {r : Nat} (hi : i = r) (h : r < len) : indexOp Tryz.prog 25 (.msl id gen len 1) (.lit (.int .i64 i)) = some (.mptr id gen (r * 1)) := by
 subst hi
 have := index_msl (P := Tryz.prog) (t := 25) (elem := 3) (n := 1) (id := id) (gen := gen) (len := len) (sz := 1) (k := .i64) (i := r) (by kernel_rfl) (by kernel_rfl) ⟨by omega, by omega⟩
 rwa [Int.toNat_natCast] at this
theorem plOf_length (b : Book) (cues : List Int) (j : Int) : (plOf b cues j).length = cues.length := plays_length _ _ _
theorem mix_length {o t : List Int} (h : o.length = t.length) : (mix o t).length = o.length := by
 unfold mix; rw [List.length_zipWith]; omega
def outR (b : Book) (cues : List Int) (o : List Int) (R : List Int) (r : Nat) : List Int := (R.take r).foldl (fun o j => mix o (plOf b cues j)) o
theorem outR_succ {b : Book} {cues o R : List Int} {r : Nat} {j : Int} (h : R[r]? = some j) : outR b cues o R (r + 1) = mix (outR b cues o R r) (plOf b cues j) := by
 have hlt := (List.getElem?_eq_some_iff.1 h).1
 have he : R[r] = j := (List.getElem?_eq_some_iff.1 h).2
 unfold outR
 rw [take_snoc hlt, List.foldl_append, he]
 rfl
theorem outR_length {b : Book} {cues o R : List Int} (ho : o.length = cues.length) : ∀ r, r ≤ R.length → (outR b cues o R r).length = cues.length
 | 0, _ => ho
 | r + 1, hr => by
  have ih := outR_length (b := b) (R := R) ho r (by omega)
  rw [outR_succ (List.getElem?_eq_getElem (by omega)), mix_length (by rw [ih, plOf_length]), ih]
def mid (o t : List Int) (q : Nat) : List Int := (mix o t).take q ++ o.drop q
theorem mid_length {o t : List Int} (h : o.length = t.length) {q : Nat} (hq : q ≤ o.length) : (mid o t q).length = o.length := by
 unfold mid; rw [List.length_append, List.length_take, List.length_drop, mix_length h]; omega
theorem mid_at {o t : List Int} (h : o.length = t.length) {q : Nat} {x : Int} (hx : o[q]? = some x) : (mid o t q)[q]? = some x := by
 have hlt := (List.getElem?_eq_some_iff.1 hx).1
 unfold mid
 rw [List.getElem?_append_right (by rw [List.length_take, mix_length h]; omega), List.length_take, mix_length h, List.getElem?_drop]
 have e : q + (q - min q o.length) = q := by omega
 rw [e]; exact hx
theorem mix_at {o t : List Int} {q : Nat} {x y : Int} (hx : o[q]? = some x) (hy : t[q]? = some y) : (mix o t)[q]? = some (if x = y then x else -1) := by
 unfold mix; rw [List.getElem?_zipWith, hx, hy]
theorem mid_split {o t : List Int} {q : Nat} {x y : Int} (_h : o.length = t.length) (hx : o[q]? = some x) (hy : t[q]? = some y) : mid o t (q + 1) = (mid o t q).take q ++ [if x = y then x else -1] ++ (mid o t q).drop (q + 1) := by
 have hlt := (List.getElem?_eq_some_iff.1 hx).1
 have hm := mix_at hx hy
 have hmlt := (List.getElem?_eq_some_iff.1 hm).1
 have hme := (List.getElem?_eq_some_iff.1 hm).2
 unfold mid
 rw [take_snoc hmlt, hme, List.take_append_of_le_length (by rw [List.length_take]; omega), List.take_take, Nat.min_self, List.drop_append, List.length_take, List.drop_drop]
 have e1 : (List.take q (mix o t)).drop (q + 1) = [] := List.drop_eq_nil_of_le (by rw [List.length_take]; omega)
 have e2 : q + (q + 1 - min q (mix o t).length) = q + 1 := by omega
 rw [e1, List.nil_append, e2]
theorem mid_same {o t : List Int} {q : Nat} {x : Int} (h : o.length = t.length) (hx : o[q]? = some x) (hy : t[q]? = some x) : mid o t (q + 1) = mid o t q := by
 rw [mid_split h hx hy, if_pos rfl]
 have hm := mid_at h hx
 have hlt := (List.getElem?_eq_some_iff.1 hm).1
 have he := (List.getElem?_eq_some_iff.1 hm).2
 have e : (mid o t q).take q ++ [x] = (mid o t q).take (q + 1) := by rw [take_snoc hlt, he]
 rw [e, List.take_append_drop]
theorem mid_end {o t : List Int} (h : o.length = t.length) {q : Nat} (hq : o.length ≤ q) : mid o t q = mix o t := by
 unfold mid
 rw [List.take_of_length_le (by rw [mix_length h]; exact hq), List.drop_eq_nil_of_le hq, List.append_nil]
set_option maxRecDepth 100000 in
theorem store_mptr {g : Nat → Option Blk} {id gen q : Nat} {l : List Int} {a : Int} (hg : g id = some (.mrow gen (l.map n'))) (hq : q < l.length) :
  storeT Tryz.prog g 3 (.mptr id gen (q * 1)) (.lit (.int .i64 a)) = some (.set id (.mrow gen ((l.take q ++ [a] ++ l.drop (q + 1)).map n'))) := by
 have hs : tsz Tryz.prog 3 = some 1 := by kernel_rfl
 unfold storeT
 simp only [hg, hs]
 rw [if_pos ⟨trivial, rfl, by rw [List.length_map]; omega, rfl⟩]
 show some (Dl.set id (.mrow gen ((l.map n').take (q * 1) ++ [n' a] ++ (l.map n').drop (q * 1 + 1)))) = _
 rw [Nat.mul_one, List.map_append, List.map_append, List.map_take, List.map_drop]
 rfl
theorem aop_store {P : Program} {m : Bool} {g : Nat → Option Blk} {n : Nat} {ρ : Operand → Option AV} {o : Oper} {t : TypeId} {x y : Operand} {a u : AV} {d : Dl} (ho : o.op = .store t x y) (hx : ρ x = some a) (hy : ρ y = some u) (h : storeT P g t a u = some d) :
  aopF P m g n ρ o = some (.val (.lit undef) d) := by
 rw [aopF_fun]
 obtain ⟨dst, op, ty, pos, after, guard⟩ := o
 simp only at ho
 subst ho
 simp only [aopT, hx, hy, h]
 rfl
theorem forgets_ints : ∀ l : List Int, AV.forgets (l.map n') = l.map n'
 | [] => rfl
 | a :: l => by
  show AV.forget (n' a) :: AV.forgets (l.map n') = _
  rw [forgets_ints l]; rfl
theorem freezeRow_ints {g : Nat → Option Blk} {id gen : Nat} {l : List Int} (hg : g id = some (.mrow gen (l.map n'))) : freezeRow g id gen l.length 1 = eInts l := by
 unfold freezeRow
 rw [hg]
 show (bif Nat.beq gen gen && Nat.ble (l.length * 1) (l.map n').length then AV.sl l.length (AV.forgets ((l.map n').take (l.length * 1))) .unk else _) = _
 rw [Nat.beq_refl, Nat.ble_eq_true_of_le (by rw [List.length_map, Nat.mul_one]; exact Nat.le_refl _), Nat.mul_one, List.take_of_length_le (by rw [List.length_map]; exact Nat.le_refl _), forgets_ints]
 rfl
def sureT (b : Book) (v : Vers) (n : Int) (g : Nat) (o : List Int) : List (Nat × Blk) := [(0, bBox b), (21, .mrow g (o.map n')), (22, .defd), (23, .defd), (24, .defd), (25, .defd), (26, .box [eStates v, n' n] 119)]
set_option maxRecDepth 100000 in
theorem c_sure1 {b : Book} (hl : BLen b) (hB : BOk b) {evs : List Evening} (hE : EvsOk b evs) {c0 : Int} {cs : List Int} (hC : LList b (c0 :: cs)) {i : Int} {R : List Int} (hR : remL b.vs (evs ++ [([], [])]) b.vs.length = i :: R) (H : List Blk) :
  ACall Tryz.prog 38 [eBook b, eEvenings evs, eInts (c0 :: cs)] H (.ret (.tup [eInts (sureL b (c0 :: cs) (i :: R)), .lit (.int .i64 0)])) H := by
 have hmem : ∀ j ∈ i :: R, 0 ≤ j ∧ j < b.vs.length := fun j hj => remL_mem (hR ▸ hj)
 have hlen := remL_length b.vs (evs ++ [([], [])]) b.vs.length
 rw [hR] at hlen
 have hvl := hB.1.2.2
 unfold inI at hvl
 have h1c := hB.1.1.1
 obtain ⟨hc1, hc2⟩ := hC.cues (by omega)
 have hcl := hC.1
 have hcsl : cs.length < 1000000 := by simp at hc2; omega
 refine fn_rule (m := false) (fn := Tryz.f38) (c := (Tryz.f38.body).getD .skip) mixed (by kernel_rfl) (by kernel_rfl) (of_decide_eq_true (by kernel_rfl)) ?_ ?_ ?_ H
 ·exact ⟨under_eBook 0 _, under_eEvenings 0 _, under_eInts 0 _, trivial⟩
 ·exact under_tup2 (under_eInts 0 _) trivial
 ·refine CallG.bool (c_isBook hl) (fun _ => ?_) (fun x => absurd hB x)
  refine CallG.bool (c_areCues hB.fit _ (by omega)) (fun _ => ?_) (fun x => absurd hC x)
  have hN : EvOk b ([], []) := ⟨⟨⟨(by simp), fun c h => (by cases h)⟩, ⟨fun c h => (by cases h), (by simp)⟩⟩, rfl⟩
  have hL : ∀ H, ACall Tryz.prog 99 [eBook b, .lit (.bool true), eEvenings evs, eEvening ([], [])] H (.ret (.tup [eInts (i :: R), .lit (.int .i64 0)])) H := fun H => by
   have := c_left hl hB hE hN (by rw [hR]; simp) H
   rwa [hR] at this
  refine CallG.weak _ (.cons (fun H => WeakH.refl _ H) (.cons (fun H => WeakH.refl _ H) (.cons (fun H => WeakH.refl _ H) (.cons wk_ev0 .nil)))) hL ?_
  refine If.mk (fun _ => ?_) (fun h => absurd (by decide) h)
  refine ifN ?_
  obtain ⟨v, hv, hpl, hvo, h0⟩ := pl_at hB (cues := c0 :: cs) (hmem i (by simp))
  refine LoopG.round (m := false) mixed ?_
  refine If.mk (fun _ => ?_) (fun h => absurd (by simp) h)
  refine ifY ?_
  refine Ex.mk _ (jx_ints (r := 0) rfl rfl) ?_
  refine Ex.mk _ rfl ?_
  refine Ex.mk _ (jx_versions (r := i.toNat) (by have := hmem i (by simp); omega) hv) ?_
  refine Ex.mk _ rfl ?_
  refine CallG.new _ (c_played17 hvo h0 hc1 (by simp at hc2; omega)) ?_
  refine If.mk (fun _ => ?_) (fun h => absurd (by decide) h)
  refine ifY ?_
  have hpll : (plays v 0 (c0 :: cs)).length = cs.length + 1 := by rw [plays_length]; rfl
  refine loop_up mixed (m := false) (fun q => [(2, eInts (c0 :: cs)), (3, .ptr 0 0), (10, .msl 21 cs.length (cs.length + 1) 1), (34, eInts (i :: R)), (35, n' (i :: R).length), (36, n' 0), (54, .msl 21 cs.length (cs.length + 1) 1), (55, n' (cs.length + 1 : Nat)), (56, n' q)])
   (fun _ => [(0, bBox b), (21, .mrow cs.length ((plays v 0 (c0 :: cs)).map n')), (22, .defd), (23, .defd), (24, .defd), (25, .defd), (26, .box [eStates v, n' (after v 0 (c0 :: cs) : Nat)] 119)]) (fun _ => True) (cs.length + 1) 26 (leb rfl) trivial ?_ ?_ ?_
  ·exact ⟨⟨_, rfl, Weak.refl _ _, under_eInts _ _⟩, wp rfl (ltb rfl), wp rfl (ltb rfl), ⟨_, rfl, Weak.refl _ _, under_eInts _ _⟩, wp rfl trivial, wp rfl trivial, wp rfl (ltb rfl), wp rfl trivial, wp rfl trivial, trivial⟩
  ·exact ⟨bk rfl rfl, bk rfl rfl, bk rfl rfl, bk rfl rfl, bk rfl rfl, bk rfl rfl, bk rfl rfl, trivial⟩
  ·intro q hq _
   refine If.mk (fun h1 => ?_) (fun h1 => ?_)
   ·refine ifY ?_
    have h1' : (q : Int) < (cs.length + 1 : Nat) := h1
    obtain ⟨x, hx, _, _⟩ := at_some (l := plays v 0 (c0 :: cs)) (r := q) (by omega)
    refine Ex.mk _ (ix_msl (r := q) rfl (by omega)) ?_
    refine Ex.mk _ (load_mptr rfl (load_int hx)) ?_
    refine Ex.mk _ (ix_msl (r := q) rfl (by omega)) ?_
    refine Ex.mk _ (load_mptr rfl (load_int hx)) ?_
    refine If.mk (fun _ => ?_) (fun h => absurd rfl h)
    refine ifN ?_
    refine Side.mk (fits64 (by omega)) ?_
    exact ⟨leb rfl, rfl, by omega, trivial, ⟨⟨_, rfl, Weak.refl _ _, under_eInts _ _⟩, wp rfl (ltb rfl), wp rfl (ltb rfl), ⟨_, rfl, Weak.refl _ _, under_eInts _ _⟩, wp rfl trivial, wp rfl trivial, wp rfl (ltb rfl), wp rfl trivial, wp rfl trivial, trivial⟩, ⟨bk rfl rfl, bk rfl rfl, bk rfl rfl, bk rfl rfl, bk rfl rfl, bk rfl rfl, bk rfl rfl, trivial⟩, trivial⟩
   ·refine ifN ?_
    refine ⟨leb rfl, ?_⟩
    refine Side.mk (by unfold fitsK; kernel_rfl) ?_
    refine loop_up mixed (m := false) (fun r => [(2, eInts (c0 :: cs)), (3, .ptr 0 0), (10, .msl 21 cs.length (cs.length + 1) 1), (34, eInts (i :: R)), (35, n' (i :: R).length), (36, n' (r + 1 : Nat))])
     (fun r => sureT b v (after v 0 (c0 :: cs) : Nat) cs.length (outR b (c0 :: cs) (plays v 0 (c0 :: cs)) R r)) (fun _ => True) R.length 21 (leb rfl) trivial ?_ ?_ ?_
    ·exact ⟨⟨_, rfl, Weak.refl _ _, under_eInts _ _⟩, wp rfl (ltb rfl), wp rfl (ltb rfl), ⟨_, rfl, Weak.refl _ _, under_eInts _ _⟩, wp rfl trivial, wp rfl trivial, trivial⟩
    ·exact ⟨bk rfl rfl, bk rfl rfl, bk rfl rfl, bk rfl rfl, bk rfl rfl, bk rfl rfl, bk rfl rfl, trivial⟩
    ·intro r hr _
     have hol := outR_length (b := b) (cues := c0 :: cs) (o := plays v 0 (c0 :: cs)) (R := R) hpll r hr
     refine If.mk (fun h2 => ?_) (fun h2 => ?_)
     ·refine ifY ?_
      have h2' : ((r + 1 : Nat) : Int) < (((i :: R).length : Nat) : Int) := h2
      rw [List.length_cons] at h2'
      obtain ⟨j, hj1, _, hj3⟩ := at_some (l := R) (r := r) (by omega)
      obtain ⟨v', hv', hpl', hvo', h0'⟩ := pl_at hB (cues := c0 :: cs) (hmem j (by simp [hj3]))
      refine Ex.mk _ (jx_ints (l := i :: R) (r := r + 1) rfl hj1) ?_
      refine Ex.mk _ rfl ?_
      refine Ex.mk _ (jx_versions (r := j.toNat) (by have := hmem j (by simp [hj3]); omega) hv') ?_
      refine Ex.mk _ rfl ?_
      refine CallG.pure _ (c_played hvo' h0' hc1 (by simp at hc2 ⊢; omega)) ?_
      refine If.mk (fun h => absurd h (by omega)) (fun _ => ?_)
      refine ifN ?_
      have hol2 : (outR b (c0 :: cs) (plays v 0 (c0 :: cs)) R r).length = (plays v' 0 (c0 :: cs)).length := by rw [hol, plays_length]
      have hol3 : (outR b (c0 :: cs) (plays v 0 (c0 :: cs)) R r).length = cs.length + 1 := hol
      refine loop_up mixed (m := false) (fun q => [(2, eInts (c0 :: cs)), (3, .ptr 0 0), (10, .msl 21 cs.length (cs.length + 1) 1), (34, eInts (i :: R)), (35, n' (i :: R).length), (36, n' (r + 1 : Nat)), (54, eInts (plays v' 0 (c0 :: cs))), (55, n' (plays v' 0 (c0 :: cs)).length), (56, n' q)])
       (fun q => sureT b v (after v 0 (c0 :: cs) : Nat) cs.length (mid (outR b (c0 :: cs) (plays v 0 (c0 :: cs)) R r) (plays v' 0 (c0 :: cs)) q) ++ [(27, .box [eStates v', n' (after v' 0 (c0 :: cs) : Nat)] 119)]) (fun _ => True) (plays v' 0 (c0 :: cs)).length 21 (leb rfl) trivial ?_ ?_ ?_
      ·exact ⟨⟨_, rfl, Weak.refl _ _, under_eInts _ _⟩, wp rfl (ltb rfl), wp rfl (ltb rfl), ⟨_, rfl, Weak.refl _ _, under_eInts _ _⟩, wp rfl trivial, wp rfl trivial, ⟨_, rfl, Weak.refl _ _, under_eInts _ _⟩, wp rfl trivial, wp rfl trivial, trivial⟩
      ·exact ⟨bk rfl rfl, bk rfl rfl, bk rfl rfl, bk rfl rfl, bk rfl rfl, bk rfl rfl, bk rfl rfl, bk rfl rfl, trivial⟩
      ·intro q hq _
       refine If.mk (fun h3 => ?_) (fun h3 => ?_)
       ·refine ifY ?_
        obtain ⟨y, hy, _, _⟩ := at_some (l := plays v' 0 (c0 :: cs)) (r := q) (by omega)
        obtain ⟨x, hx, _, _⟩ := at_some (l := outR b (c0 :: cs) (plays v 0 (c0 :: cs)) R r) (r := q) (by omega)
        have hm := mid_at hol2 hx
        refine Ex.mk _ (jx_ints (r := q) rfl hy) ?_
        refine Ex.mk _ rfl ?_
        refine Ex.mk _ (ix_msl (r := q) rfl (by omega)) ?_
        refine Ex.mk _ (load_mptr rfl (load_int hm)) ?_
        refine If.mk (fun h4 => ?_) (fun h4 => ?_)
        ·refine ifN ?_
         refine Side.mk (fits64 (by omega)) ?_
         subst h4
         refine ⟨leb rfl, rfl, by omega, trivial, ⟨⟨_, rfl, Weak.refl _ _, under_eInts _ _⟩, wp rfl (ltb rfl), wp rfl (ltb rfl), ⟨_, rfl, Weak.refl _ _, under_eInts _ _⟩, wp rfl trivial, wp rfl trivial, ⟨_, rfl, Weak.refl _ _, under_eInts _ _⟩, wp rfl trivial, wp rfl trivial, trivial⟩, ⟨bk rfl rfl, ⟨?_, ltb rfl⟩, bk rfl rfl, bk rfl rfl, bk rfl rfl, bk rfl rfl, bk rfl rfl, bk rfl rfl, trivial⟩, trivial⟩
         rw [mid_same hol2 hx hy]
         rfl
        ·refine ifY ?_
         refine Ex.mk _ (ix_msl (r := q) rfl (by omega)) ?_
         refine Ex.mk (DR.val (.lit undef) (.set 21 (.mrow cs.length ((mid (outR b (c0 :: cs) (plays v 0 (c0 :: cs)) R r) (plays v' 0 (c0 :: cs)) (q + 1)).map n')))) ?_ ?_
         ·refine aop_store (t := 3) rfl rfl rfl ?_
          rw [mid_split hol2 hx hy, if_neg h4]
          exact store_mptr rfl (by rw [mid_length hol2 (by omega)]; omega)
         ·refine Side.mk (fits64 (by omega)) ?_
          exact ⟨leb rfl, rfl, by omega, trivial, ⟨⟨_, rfl, Weak.refl _ _, under_eInts _ _⟩, wp rfl (ltb rfl), wp rfl (ltb rfl), ⟨_, rfl, Weak.refl _ _, under_eInts _ _⟩, wp rfl trivial, wp rfl trivial, ⟨_, rfl, Weak.refl _ _, under_eInts _ _⟩, wp rfl trivial, wp rfl trivial, trivial⟩, ⟨bk rfl rfl, bk rfl rfl, bk rfl rfl, bk rfl rfl, bk rfl rfl, bk rfl rfl, bk rfl rfl, bk rfl rfl, trivial⟩, ⟨_, rfl, under_ints _ _⟩, ⟨_, rfl, trivial⟩, ⟨_, rfl, trivial⟩, ⟨_, rfl, trivial⟩, ⟨_, rfl, trivial⟩, ⟨_, rfl, ⟨under_states _ _, trivial, trivial⟩⟩, ⟨_, rfl, ⟨under_states _ _, trivial, trivial⟩⟩, trivial⟩
       ·refine ifN ?_
        refine ⟨leb rfl, ?_⟩
        refine Side.mk (fits64 (by omega)) ?_
        have hme := mid_end hol2 (q := q) (by omega)
        have hou := outR_succ (b := b) (cues := c0 :: cs) (o := plays v 0 (c0 :: cs)) hj1
        rw [hpl'] at hou
        refine ⟨leb rfl, rfl, by omega, trivial, ⟨⟨_, rfl, Weak.refl _ _, under_eInts _ _⟩, wp rfl (ltb rfl), wp rfl (ltb rfl), ⟨_, rfl, Weak.refl _ _, under_eInts _ _⟩, wp rfl trivial, wp rfl trivial, trivial⟩, ⟨bk rfl rfl, ⟨?_, ltb rfl⟩, bk rfl rfl, bk rfl rfl, bk rfl rfl, bk rfl rfl, bk rfl rfl, trivial⟩, ⟨_, rfl, under_ints _ _⟩, ⟨_, rfl, trivial⟩, ⟨_, rfl, trivial⟩, ⟨_, rfl, trivial⟩, ⟨_, rfl, trivial⟩, ⟨_, rfl, ⟨under_states _ _, trivial, trivial⟩⟩, trivial⟩
        rw [hou, ← hme]
        rfl
     ·refine ifN ?_
      have h2' : ¬ (((r + 1 : Nat) : Int) < (((i :: R).length : Nat) : Int)) := h2
      rw [List.length_cons] at h2'
      have er : r = R.length := by omega
      subst er
      have hos : outR b (c0 :: cs) (plays v 0 (c0 :: cs)) R R.length = sureL b (c0 :: cs) (i :: R) := by
       show (R.take R.length).foldl _ _ = R.foldl _ (plOf b (c0 :: cs) i)
       rw [List.take_length, hpl]
      refine ⟨leb rfl, .inl rfl, FinG.mk _ rfl rfl ?_⟩
      show AV.tup [freezeRow (get (ofL (sureT b v (after v 0 (c0 :: cs) : Nat) cs.length (outR b (c0 :: cs) (plays v 0 (c0 :: cs)) R R.length)))) 21 cs.length (cs.length + 1) 1, n' 0] = _
      have hll : (outR b (c0 :: cs) (plays v 0 (c0 :: cs)) R R.length).length = cs.length + 1 := hol
      rw [← hll, freezeRow_ints rfl, hos]
      rfl
theorem c_sure_ok {b : Book} (hl : BLen b) (hB : BOk b) {evs : List Evening} (hE : EvsOk b evs) {cues : List Int} (hC : LList b cues) (hne : remL b.vs (evs ++ [([], [])]) b.vs.length ≠ []) (H : List Blk) :
  ACall Tryz.prog 38 [eBook b, eEvenings evs, eInts cues] H (.ret (.tup [eInts (sureL b cues (remL b.vs (evs ++ [([], [])]) b.vs.length)), .lit (.int .i64 0)])) H := by
 cases hR : remL b.vs (evs ++ [([], [])]) b.vs.length with
 | nil => exact absurd hR hne
 | cons i R =>
  cases cues with
  | nil =>
   have := c_sure0 hl hB hE hR H
   rw [sureL_nil]; exact this
  | cons c0 cs => exact c_sure1 hl hB hE hC hR H
theorem noted_nil (l : List Int) : Noted l [] := fun i h => by simp at h
theorem agrees_now {v : Vers} {evs : List Evening} : Agrees v (evs ++ [([], [])]) ↔ Agrees v evs :=
 ⟨fun h e he => h e (List.mem_append_left _ he), fun h e he => (List.mem_append.1 he).elim (h e) fun he => by rw [List.mem_singleton] at he; subst he; exact noted_nil _⟩
theorem remL_now (vs : List Vers) (evs : List Evening) : ∀ r, remL vs (evs ++ [([], [])]) r = remL vs evs r
 | 0 => rfl
 | r + 1 => by
  unfold remL
  rw [remL_now vs evs r]
  by_cases h : Agrees (vs.getD r []) evs
  ·rw [if_pos h, if_pos (agrees_now.2 h)]
  ·rw [if_neg h, if_neg (fun x => h (agrees_now.1 x))]
end Go.Vm

namespace Go.Vm
open Go.Proofs
theorem plays_in {b : Book} {v : Vers} (hv : VOk b v) (hb : 0 ≤ b.cues) : ∀ {l : List Int} {s : Nat}, CuesOk b.cues.toNat l → s < v.length → ∀ x ∈ plays v s l, 0 ≤ x ∧ x ≤ b.tunes - 1
 | [], _, _, _, x, h => by cases h
 | c :: l, s, hl, hs, x, h => by
  obtain ⟨hvo, _⟩ := hv.vers
  obtain ⟨h3, h4⟩ := hl c (by simp)
  obtain ⟨st, g1, g2, g3, _⟩ := mv_at (s := s) (c := c.toNat) hvo hs (by omega)
  rcases List.mem_cons.1 h with rfl | h
  ·have := ((hv.1 st (List.mem_of_getElem? g1)).2 _ (List.mem_of_getElem? g2)).2
   exact this
  ·exact plays_in (l := l) (s := (mv v s c.toNat).1.toNat) hv hb (fun y hy => hl y (by simp [hy])) g3 x h
theorem fold_at {b : Book} {cues : List Int} {k : Nat} (hk : k < cues.length) : ∀ (R : List Int) {o : List Int} {x : Int}, o.length = cues.length → o[k]? = some x → (R.foldl (fun o j => mix o (plOf b cues j)) o)[k]? = some (if ∀ j ∈ R, (plOf b cues j).getD k 0 = x then x else -1)
 | [], o, x, _, hx => by rw [if_pos (fun _ h => by cases h)]; exact hx
 | j :: R, o, x, ho, hx => by
  have hy : (plOf b cues j)[k]? = some ((plOf b cues j)[k]'(by rw [plOf_length]; exact hk)) := List.getElem?_eq_getElem (by rw [plOf_length]; exact hk)
  have hm := mix_at hx hy
  have ih := fold_at (b := b) hk R (o := mix o (plOf b cues j)) (by rw [mix_length (by rw [ho, plOf_length]), ho]) hm
  rw [List.foldl_cons, ih]
  have hg : (plOf b cues j).getD k 0 = (plOf b cues j)[k]'(by rw [plOf_length]; exact hk) := getD_of hy
  by_cases he : x = (plOf b cues j)[k]'(by rw [plOf_length]; exact hk)
  ·rw [if_pos he]
   by_cases hall : ∀ i ∈ R, (plOf b cues i).getD k 0 = x
   ·rw [if_pos hall, if_pos]
    intro i hi
    rcases List.mem_cons.1 hi with rfl | hi
    ·rw [hg]; exact he.symm
    ·exact hall i hi
   ·rw [if_neg hall, if_neg (fun h => hall fun i hi => h i (List.mem_cons_of_mem _ hi))]
  ·have hno : ¬ ∀ i ∈ j :: R, (plOf b cues i).getD k 0 = x := fun h => he (by rw [← hg]; exact (h j List.mem_cons_self).symm)
   rw [if_neg he, if_neg hno]
   split <;> rfl
theorem sureL_length {b : Book} {cues : List Int} {i : Int} {R : List Int} : (sureL b cues (i :: R)).length = cues.length := by
 have := outR_length (b := b) (cues := cues) (o := plOf b cues i) (R := R) (plOf_length _ _ _) R.length (Nat.le_refl _)
 unfold outR at this
 rw [List.take_length] at this
 exact this
theorem sure_law {b : Book} {cues : List Int} {L : List Int} {n : Int} (hn : n ∈ L) {k : Nat} (hk : k < cues.length) (hp : ∀ j ∈ L, ∀ x ∈ plOf b cues j, 0 ≤ x) : ∃ s p, (sureL b cues L)[k]? = some s ∧ (plOf b cues n)[k]? = some p ∧ (s ≠ -1 → s = p) ∧
  ((∀ j ∈ L, (plOf b cues j).getD k 0 = p) ↔ s ≠ -1) := by
 cases L with
 | nil => cases hn
 | cons i R =>
  have hx : (plOf b cues i)[k]? = some ((plOf b cues i)[k]'(by rw [plOf_length]; exact hk)) := List.getElem?_eq_getElem (by rw [plOf_length]; exact hk)
  have hpn : (plOf b cues n)[k]? = some ((plOf b cues n)[k]'(by rw [plOf_length]; exact hk)) := List.getElem?_eq_getElem (by rw [plOf_length]; exact hk)
  have hf := fold_at (b := b) hk R (plOf_length b cues i) hx
  refine ⟨_, _, hf, hpn, fun hne => ?_, ?_⟩
  ·split at hne
   ·rename_i hall
    rw [if_pos hall]
    rcases List.mem_cons.1 hn with rfl | hn
    ·rfl
    ·rw [← getD_of (d := 0) hpn]; exact (hall n hn).symm
   ·exact absurd rfl hne
  ·have hpos := hp i List.mem_cons_self _ (List.mem_of_getElem? hx)
   constructor
   ·intro hall
    have e0 : (plOf b cues i)[k]'(by rw [plOf_length]; exact hk) = (plOf b cues n)[k]'(by rw [plOf_length]; exact hk) := by rw [← hall i List.mem_cons_self, getD_of hx]
    rw [if_pos (fun j hj => by rw [hall j (List.mem_cons_of_mem _ hj), e0])]
    omega
   ·intro hne
    split at hne
    ·rename_i hall
     have hnx : (plOf b cues n)[k]'(by rw [plOf_length]; exact hk) = (plOf b cues i)[k]'(by rw [plOf_length]; exact hk) := by
      rcases List.mem_cons.1 hn with rfl | hn
      ·rfl
      ·rw [← getD_of (d := 0) hpn]; exact hall n hn
     intro j hj
     rw [hnx]
     rcases List.mem_cons.1 hj with rfl | hj
     ·exact getD_of hx
     ·exact hall j hj
    ·exact absurd rfl hne
end Go.Vm
