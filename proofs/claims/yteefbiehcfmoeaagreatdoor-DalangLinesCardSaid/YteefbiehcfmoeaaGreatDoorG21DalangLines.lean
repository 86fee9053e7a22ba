/-
  Texts of the proof, part 21: the machine, contracts of functions, plain laws. (Own work.)
-/
import Derived.Test.YteefbiehcfmoeaaGreatDoorG14DalangLines
import Derived.Test.YteefbiehcfmoeaaGreatDoorG20DalangLines
import Derived.Test.YteefbiehcfmoeaaGreatDoorG15DalangLines

namespace Go.Vm
open Go.Proofs Go.RowKit
theorem c_suffix (s p : ByteArray) (hs : s.size ≤ 9223372036854775807) (H : List Blk) : ACall Tryz.prog 39 [sA s, sA p] H (.ret (.lit (.bool (Lib.hasSuffix s.data.toList p.data.toList)))) H :=
 ACall.of_pure (vs := [.string s, .string p]) fun w => Tryz.strings_HasSuffix s p w hs
theorem c_trimSuffix (s p : ByteArray) (hs : s.size ≤ 9223372036854775807) (H : List Blk) : ACall Tryz.prog 42 [sA s, sA p] H (.ret (sA ⟨(Lib.trimSuffix s.data.toList p.data.toList).toArray⟩)) H :=
 ACall.of_pure (vs := [.string s, .string p]) fun w => Tryz.strings_TrimSuffix s p w hs
def scr (L : List (List UInt8)) : List UInt8 := L.flatMap fun l => l ++ [10]
theorem scr_suffix : ∀ {L : List (List UInt8)}, scr L ≠ [] → Lib.hasSuffix (scr L) [10] = true
 | [], h => absurd rfl h
 | [l], _ => by
  unfold Lib.hasSuffix scr
  rw [List.isSuffixOf_iff_suffix]
  exact ⟨l, by simp⟩
 | l :: l2 :: L, _ => by
  have ih := scr_suffix (L := l2 :: L) (fun h => by simp [scr] at h)
  unfold Lib.hasSuffix at ih ⊢
  rw [List.isSuffixOf_iff_suffix] at ih ⊢
  refine ih.trans ⟨l ++ [10], ?_⟩
  rfl
theorem scr_cons (l : List UInt8) (L : List (List UInt8)) : scr (l :: L) = l ++ [10] ++ scr L := rfl
theorem index_scr : ∀ {l : List UInt8} (X : List UInt8), 10 ∉ l → Lib.indexByte (l ++ [10] ++ X) 10 = l.length
 | [], X, _ => by simp [Lib.indexByte]
 | b :: l, X, h => by
  have ih := index_scr X (l := l) fun hm => h (List.mem_cons_of_mem _ hm)
  have hb : (b == 10) = false := by
   rw [beq_eq_false_iff_ne]
   intro e
   exact h (by rw [e]; exact List.mem_cons_self)
  show (if b == 10 then 0 else if Lib.indexByte (l ++ [10] ++ X) 10 == -1 then -1 else Lib.indexByte (l ++ [10] ++ X) 10 + 1) = _
  rw [hb, ih]
  have h2 : ((l.length : Int) == -1) = false := by rw [beq_eq_false_iff_ne]; omega
  rw [h2]
  simp
set_option maxRecDepth 100000 in
theorem c_index84 (l : List UInt8) (hl : l.length ≤ 1000000) (H : List Blk) : ACall Tryz.prog 84 [sA (bT l), .lit (.int .u8 10)] H (.ret (n' (Lib.indexByte l 10))) H := by
 refine fn_rule (m := false) (fn := Tryz.f84) (c := (Tryz.f84.body).getD .skip) mixed (by kernel_rfl) (by kernel_rfl) (of_decide_eq_true (by kernel_rfl)) ?_ ?_ ?_ H
 ·exact ⟨trivial, trivial, trivial⟩
 ·exact trivial
 ·refine CallG.pure _ (fun H => ACall.of_pure (vs := [.string (bT l), .int .u8 10]) fun w => Tryz.stringslite_IndexByte (bT l) 10 w) ?_
  exact ⟨.inl rfl, FinG.mk _ rfl rfl rfl⟩
theorem scr_drop : ∀ (L : List (List UInt8)) (r : Nat), (scr (L.drop r)).length ≤ (scr L).length
 | _, 0 => Nat.le_refl _
 | [], r + 1 => Nat.le_refl _
 | l :: L, r + 1 => by
  have ih := scr_drop L r
  rw [List.drop_succ_cons, scr_cons, List.length_append]
  omega
def outL (ans : Nat → List UInt8) (r : Nat) : List UInt8 := (List.range r).flatMap fun i => ans i ++ [10]
structure SuiteA where
 (b a1 a2 b1 b2 c1 c2 : Int)
 scs : AV
 (cu tu : Int)
 vs : AV
 lf : Int
 (hts figs scenes kinds hides : AV)
 (al ah cl ch off mends room depth : Int)
 cfigs : AV
def SuiteA.cells (s : SuiteA) : List AV := [n' s.b, n' s.a1, n' s.a2, n' s.b1, n' s.b2, n' s.c1, n' s.c2, s.scs, n' s.cu, n' s.tu, s.vs, n' s.lf, s.hts, s.figs, s.scenes, s.kinds, s.hides, n' s.al, n' s.ah, n' s.cl, n' s.ch, n' s.off, n' s.mends, n' s.room, n' s.depth, s.cfigs]
def SuiteA.av (s : SuiteA) : AV := .agg s.cells
def deskC (s : SuiteA) (e : AV) : List AV := .lit (.bool true) :: s.cells ++ [e]
set_option maxRecDepth 100000 in
theorem c_Open0 {s s' : SuiteA} (h81 : ∀ H, ACall Tryz.prog 81 [s.av] H (.ret (.lit (.bool true))) H) (h60 : ∀ H, ACall Tryz.prog 60 [s.av] H (.ret s'.av) H) {t : Trie Blk} (H : List Blk) (hH : HT t 1 H) :
  ∃ H', HT (setL t [(1, .box s.cells 52), (2, .box (deskC s' (.lit (.slice none 0 0))) 55)]) 3 H' ∧ ACall Tryz.prog 38 [s.av] H (.ret (.tup [.ptr 2 0, n' 0])) H' ∧ Keep H H' noLo := by
 refine fn_new (m := false) (fn := Tryz.f38) (c := (Tryz.f38.body).getD .skip) mixed (by kernel_rfl) (by kernel_rfl) (of_decide_eq_true (by kernel_rfl)) ?_ H hH
 refine CallG.pure _ h81 ?_
 refine ifN ?_
 refine CallG.pure _ h60 ?_
 exact ⟨.inl rfl, leb rfl, rfl, ⟨bk rfl rfl, bk rfl rfl, trivial⟩, FinF.mk _ rfl rfl rfl⟩
theorem VRels.last [Outer] {S : Sit} {x y : AV} (hw : ∀ c, VRel S x c → VRel S y c) : ∀ (l : List AV) (cs : List Value), VRels S (l ++ [x]) cs → VRels S (l ++ [y]) cs
 | [], [], h => by simp only [List.nil_append, VRels] at h
 | [], c :: cs, h => by simp only [List.nil_append, VRels] at h ⊢; exact ⟨hw c h.1, h.2⟩
 | a :: l, [], h => by simp only [List.cons_append, VRels] at h
 | a :: l, c :: cs, h => by simp only [List.cons_append, VRels] at h ⊢; exact ⟨h.1, VRels.last hw l cs h.2⟩
theorem c_Open1 {s s' : SuiteA} (h81 : ∀ H, ACall Tryz.prog 81 [s.av] H (.ret (.lit (.bool true))) H) (h60 : ∀ H, ACall Tryz.prog 60 [s.av] H (.ret s'.av) H) {t : Trie Blk} (H : List Blk) (hH : HT t 1 H) :
  ∃ H', HT (setL t [(2, .box (deskC s' (.sl 0 [] (.own 3 0 2))) 55), (3, .row 0), (1, .box s.cells 52), (2, .box (deskC s' (.lit (.slice none 0 0))) 55)]) 4 H' ∧ ACall Tryz.prog 38 [s.av] H (.ret (.tup [.ptr 2 0, n' 0])) H' ∧ Keep H H' noLo := by
 obtain ⟨H', h1, h2, h3⟩ := c_Open0 h81 h60 H hH
 have hl := h1.len
 have hl0 := hH.len
 have hid : H'[2]? = some (.box (deskC s' (.lit (.slice none 0 0))) 55) := h1.blk 2 _ (by
  show get (set (set t 2 _) 1 _) 2 = _
  rw [get_set_other _ _ _ _ (by omega), get_set_same])
 have hid2 : (H' ++ [.row 0])[2]? = some (.box (deskC s' (.lit (.slice none 0 0))) 55) := by rw [List.getElem?_append_left (by omega)]; exact hid
 have hrow : (H' ++ [.row 0])[3]? = some (.row 0) := by rw [List.getElem?_append_right (by omega), show 3 - H'.length = 0 by omega]; rfl
 have hm := h2.more (.row 0) (v' := .tup [.ptr 2 0, n' 0]) (fun _ _ _ _ h => h) rfl
 have hx := hm.boxL (cells' := deskC s' (.sl 0 [] (.own 3 0 2))) hid2 fun O ι w cs h => VRels.last (fun c hc => WeakH.own 2 hrow O ι w c hc) _ _ h
 refine ⟨_, (h1.push (.row 0)).set (by omega) _, hx, ⟨?_, fun id _ hlt => ?_, fun id hd => ?_⟩⟩
 ·have := h3.le; simp; omega
 ·rw [List.getElem?_set_ne (by omega), List.getElem?_append_left (by omega)]
  exact h3.low id (by assumption) hlt
 ·have hlt := (List.getElem?_eq_some_iff.1 hd).1
  rw [List.getElem?_set_ne (by omega), List.getElem?_append_left (by omega)]
  exact h3.marks id hd
def coT (s s' : SuiteA) (e : AV) (g : Nat) (out left : List UInt8) : List (Nat × Blk) := [(0, .box s.cells 52), (1, .box s.cells 52), (2, .box (deskC s' e) 55), (3, .row g), (4, .box [.ptr 2 0] 30), (5, .box [sA (bT out)] 9), (6, .box [sA (bT left)] 9)]
def coP (s s' : SuiteA) (e : AV) (g : Nat) : List (Nat × Blk) := [(0, .box s.cells 52), (1, .box s.cells 52), (2, .box (deskC s' e) 55), (3, .row g)]
def coS : List (Nat × AV) := [(6, .ptr 4 0), (8, .ptr 5 0), (29, .fn (.func 83) [] [.ptr 6 0])]
noncomputable def coR (st : LoopState) : Blk := lpB Tryz.f16 st coS 7
theorem outL_succ (ans : Nat → List UInt8) (r : Nat) : outL ans (r + 1) = outL ans r ++ (ans r ++ [10]) := by
 unfold outL
 rw [List.range_succ, List.flatMap_append]
 simp
theorem trim_nl (l : List UInt8) : Lib.trimSuffix (l ++ [10]) [10] = l := by
 unfold Lib.trimSuffix
 rw [if_pos (by unfold Lib.hasSuffix; rw [List.isSuffixOf_iff_suffix]; exact ⟨l, rfl⟩), List.length_append]
 exact List.take_left
theorem under_coR (st : LoopState) : (coR st).under 9 := under_lpB ⟨ltb rfl, ltb rfl, ⟨trivial, ltb rfl, trivial⟩, trivial⟩ (ltb rfl)
theorem under_desk {s' : SuiteA} {e : AV} (n : Nat) (hn : 4 ≤ n) (hus : AV.unders 0 s'.cells) (he : e.under 4) : AV.unders n (deskC s' e) := AV.unders_mem.2 fun a ha => by
 rcases List.mem_append.1 ha with ha | ha
 ·rcases List.mem_cons.1 ha with rfl | ha
  ·exact trivial
  ·exact AV.under_mono (Nat.zero_le _) a (AV.unders_mem.1 hus a ha)
 ·rw [List.mem_singleton.1 ha]; exact AV.under_mono hn _ he
theorem under_coP {s s' : SuiteA} {e : AV} {g : Nat} (hu : AV.unders 0 s.cells) (hus : AV.unders 0 s'.cells) (he : e.under 4) : ∀ q ∈ coP s s' e g, q.2.under 4 := fun q hq => by
 have h1 : ∀ {l : List AV}, AV.unders 0 l → AV.unders 4 l := fun h => AV.unders_mem.2 fun a ha => AV.under_mono (by omega) a (AV.unders_mem.1 h a ha)
 rcases List.mem_cons.1 hq with rfl | hq
 ·exact h1 hu
 ·rcases List.mem_cons.1 hq with rfl | hq
  ·exact h1 hu
  ·rcases List.mem_cons.1 hq with rfl | hq
   ·exact under_desk 4 (Nat.le_refl _) hus he
   ·rcases List.mem_cons.1 hq with rfl | hq
    ·trivial
    ·cases hq
set_option maxHeartbeats 4000000 in
set_option maxRecDepth 100000 in
theorem c_ConsoleG {s s' : SuiteA} {L : List (List UInt8)} {E : Nat → AV} {G : Nat → Nat} {ans : Nat → List UInt8} (hL : ∀ l ∈ L, 10 ∉ l) (hlen : (scr L).length ≤ 1000) (hout : ∀ r, r ≤ L.length → (outL ans r).length ≤ 1000000)
  (hu : AV.unders 0 s.cells) (h81 : ∀ H, ACall Tryz.prog 81 [s.av] H (.ret (.lit (.bool true))) H) (h60 : ∀ H, ACall Tryz.prog 60 [s.av] H (.ret s'.av) H) (hE : E 0 = .sl 0 [] (.own 3 0 2)) (hG : G 0 = 0) (hus : AV.unders 0 s'.cells) (hEu : ∀ r, (E r).under 4)
  (hstep : ∀ r (hr : r < L.length), ACall Tryz.prog 41 [.ptr 2 0, sA (bT L[r])] (hp (coP s s' (E r) (G r))) (.ret (sA (bT (ans r)))) (hp (coP s s' (E (r + 1)) (G (r + 1)))))
  (H : List Blk) : ACall Tryz.prog 16 [s.av, sA (bT (scr L))] H (.ret (.tup [sA (bT (outL ans L.length)), n' 0])) H := by
 obtain ⟨X, hX⟩ : ∃ X, X = sA (bT (scr L)) := ⟨_, rfl⟩
 rw [← hX]
 refine fn_ruleM (m := false) (fn := Tryz.f16) (c := (Tryz.f16.body).getD .skip) mixed (by kernel_rfl) (by kernel_rfl) (of_decide_eq_true (by kernel_rfl)) ?_ ?_ ?_ H
 ·exact ⟨hu, by rw [hX]; trivial, trivial⟩
 ·exact ⟨trivial, trivial, trivial⟩
 ·refine CallG.fresh (n0 := 1) [s.av] [(0, .box s.cells 52)] rfl (.cons (fun H => WeakH.refl _ H) .nil) ⟨bk rfl rfl, trivial⟩ ?_
  refine CallG.new (n1 := 4) (L1 := [(2, .box (deskC s' (.sl 0 [] (.own 3 0 2))) 55), (3, .row 0), (1, .box s.cells 52), (2, .box (deskC s' (.lit (.slice none 0 0))) 55)]) (.tup [.ptr 2 0, n' 0]) (fun H hH => c_Open1 h81 h60 H hH) ?_
  refine If.mk (fun _ => ?_) (fun h => absurd (by decide) h)
  refine ifN ?_
  refine now_of (r := .val (n' (scr L).length) .same) (by rw [hX]; rfl) ?_
  refine If.mk (fun h => absurd h (by omega)) (fun _ => ?_)
  refine ifN ?_
  rcases hq : ((bT (scr L)).toList == (⟨#[]⟩ : ByteArray).toList) with _ | _
  rotate_left
  case' refine_3.true =>
   refine gBin_neqX true hX hq ?_
   refine ifN ?_
  case' refine_3.false =>
   refine gBin_neqX false hX hq ?_
   refine CallG.pure (.lit (.bool true)) (fun H => by
    have h := c_suffix (bT (scr L)) ⟨#[10]⟩ (by rw [bT_size]; omega) H
    have e : Lib.hasSuffix (bT (scr L)).data.toList (⟨#[10]⟩ : ByteArray).data.toList = true := scr_suffix (fun h => by
     rw [h, show ((bT []).toList == (⟨#[]⟩ : ByteArray).toList) = true from str_eq.2 rfl] at hq
     cases hq)
    rw [e, ← hX] at h
    exact h) ?_
   refine ifN ?_
  all_goals
   refine CallG.inline (m := false) (fn := Tryz.f40) (c := (Tryz.f40.body).getD .skip) mixed (by kernel_rfl) (by kernel_rfl) (of_decide_eq_true (by kernel_rfl)) ?_
   refine ⟨.inl rfl, _, rfl, rfl, ?_⟩
   refine RangeG.fresh (n0 := 7) coS (coT s s' (E 0) (G 0) [] (scr L)) rfl ?_ ?_ ?_
   ·exact ⟨⟨_, rfl, Weak.refl _ _⟩, ⟨_, rfl, Weak.refl _ _⟩, ⟨_, rfl, Weak.refl _ _⟩, trivial⟩
   ·rw [hE, hG]
    subst hX
    exact ⟨bk rfl rfl, bk rfl rfl, bk rfl rfl, bk rfl rfl, bk rfl rfl, bk rfl rfl, bk rfl rfl, trivial⟩
   refine RangeG.after ?_
   refine RangeG.outer (f := 83) (first := []) (captured := [.ptr 6 0]) rfl rfl rfl ?_
   refine CallG.inlineP (m := false) (fn := Tryz.f83) (c := (Tryz.f83.body).getD .skip) mixed (by kernel_rfl) (by kernel_rfl) (of_decide_eq_true (by kernel_rfl)) ?_
   refine loop_up mixed (m := false) (fun _ => [(0, .yld 8), (1, .ptr 6 0)]) (fun r => coT s s' (E r) (G r) (outL ans r) (scr (L.drop r)) ++ [(7, .defd), (8, coR .ready)]) (fun _ => True) L.length 2 (leb rfl) trivial ?_ ?_ ?_
   ·exact ⟨wp rfl (ltb rfl), wp rfl (ltb rfl), trivial⟩
   ·exact ⟨bk rfl rfl, bk rfl rfl, bk rfl rfl, bk rfl rfl, bk rfl rfl, bk rfl rfl, bk rfl rfl, bk rfl rfl, bk rfl rfl, trivial⟩
   intro r hr _
   refine If.mk (fun h1 => ?_) (fun h1 => ?_)
   ·refine ifY ?_
    have hr' : r < L.length := by
     rcases Nat.lt_or_ge r L.length with h | h
     ·exact h
     ·rw [List.drop_of_length_le h] at h1
      exact absurd h1 (by decide)
    have hd : L.drop r = L[r] :: L.drop (r + 1) := List.drop_eq_getElem_cons hr'
    have hle : (scr (L.drop r)).length ≤ 1000 := Nat.le_trans (scr_drop L r) hlen
    refine CallG.pure (n' L[r].length) (fun H => by
     have h := c_index84 (scr (L.drop r)) (by omega) H
     rw [hd, scr_cons, index_scr _ (hL _ (List.getElem_mem hr')), ← scr_cons, ← hd] at h
     exact h) ?_
    refine If.mk (fun _ => ?_) (fun h => absurd (Int.natCast_nonneg _) h)
    refine ifY ?_
    have hsz : (scr (L.drop r)).length = L[r].length + 1 + (scr (L.drop (r + 1))).length := by
     rw [hd, scr_cons, List.length_append, List.length_append]; rfl
    have hx1 : (bT (scr (L.drop r))).extract 0 (L[r].length + 1) = bT (L[r] ++ [10]) := by
     rw [bT_extract, hd, scr_cons, List.drop_zero, List.take_append_of_le_length (by rw [List.length_append]; exact Nat.le_refl _), List.take_of_length_le (by rw [List.length_append]; exact Nat.le_refl _)]
    have hx2 : (bT (scr (L.drop r))).extract (L[r].length + 1) (bT (scr (L.drop r))).size = bT (scr (L.drop (r + 1))) := by
     rw [bT_extract, List.take_of_length_le (by rw [bT_size]; exact Nat.le_refl _), hd, scr_cons, List.drop_append_of_le_length (by rw [List.length_append]; exact Nat.le_refl _), List.drop_of_length_le (by rw [List.length_append]; exact Nat.le_refl _), List.nil_append]
    refine Side.mk (fits64 (by omega)) ?_
    refine Ex.mk _ (aop_slice (a := sA (bT (scr (L.drop r)))) (l := none) (h := some (L[r].length + 1)) rfl rfl rfl (nat_of (by omega)) rfl rfl ((slice_str ⟨Nat.zero_le _, by show L[r].length + 1 ≤ (scr (L.drop r)).length; omega⟩).trans (congrArg (fun x => some (sA x)) hx1))) ?_
    refine Side.mk (fits64 (by omega)) ?_
    refine Ex.mk _ (aop_slice (a := sA (bT (scr (L.drop r)))) (l := some (L[r].length + 1)) (h := none) rfl rfl (nat_of (by omega)) rfl rfl rfl ((slice_str ⟨by show L[r].length + 1 ≤ (scr (L.drop r)).length; omega, Nat.le_refl _⟩).trans (congrArg (fun x => some (sA x)) hx2))) ?_
    refine RoundG.fresh (n0 := 19) (coT s s' (E r) (G r) (outL ans r) (scr (L.drop (r + 1))) ++ [(7, .defd), (8, coR .ready)]) rfl ?_ ?_
    ·exact ⟨bk rfl rfl, bk rfl rfl, bk rfl rfl, bk rfl rfl, bk rfl rfl, bk rfl rfl, bk rfl rfl, bk rfl rfl, bk rfl rfl, trivial⟩
    refine RoundG.introW (m := false) mixed rfl rfl (by decide) ?_
    refine ⟨rfl, _, rfl, rfl, coS ++ [(9, sA (bT (L[r] ++ [10])))], coT s s' (E r) (G r) (outL ans r) (scr (L.drop (r + 1))) ++ [(7, .defd), (8, coR .busy)], 19, rfl, ?_, ?_, ?_⟩
    ·exact ⟨⟨_, rfl, Weak.refl _ _⟩, ⟨_, rfl, Weak.refl _ _⟩, ⟨_, rfl, Weak.refl _ _⟩, ⟨_, rfl, Weak.refl _ _⟩, trivial⟩
    ·exact ⟨bk rfl rfl, bk rfl rfl, bk rfl rfl, bk rfl rfl, bk rfl rfl, bk rfl rfl, bk rfl rfl, bk rfl rfl, bk rfl rfl, trivial⟩
    refine WR.block (WR.late (m := false) mixed 152 3 [5, 4] (by kernel_rfl) ?_)
    refine ⟨rfl, ?_⟩
    refine ⟨rfl, ?_⟩
    refine CallG.pure (sA (bT L[r])) (fun H => by
     have h := c_trimSuffix (bT (L[r] ++ [10])) ⟨#[10]⟩ (by rw [bT_size, List.length_append]; show L[r].length + 1 ≤ _; omega) H
     have e : (⟨(Lib.trimSuffix (bT (L[r] ++ [10])).data.toList (⟨#[10]⟩ : ByteArray).data.toList).toArray⟩ : ByteArray) = bT L[r] := congrArg (fun l : List UInt8 => (⟨l.toArray⟩ : ByteArray)) (trim_nl L[r])
     rw [e] at h
     exact h) ?_
    refine LateG.mk ⟨⟨_, rfl, rfl, rfl⟩, ⟨_, rfl, rfl, rfl⟩, trivial⟩ ?_
    refine CallG.pre [.ptr 2 0, sA (bT L[r])] (coP s s' (E r) (G r)) (coP s s' (E (r + 1)) (G (r + 1))) (sA (bT (ans r))) 2 (.cons (fun H => WeakH.refl _ H) (.cons (fun H => WeakH.refl _ H) .nil)) ⟨rfl, rfl, rfl, rfl, trivial⟩ ⟨rfl, rfl, rfl, rfl, trivial⟩ rfl ⟨(fun e => by cases e), (fun e => by cases e), (fun e => by cases e), (fun e => by cases e), trivial⟩ ⟨bk rfl rfl, bk rfl rfl, bk rfl rfl, bk rfl rfl, trivial⟩ rfl ⟨ltb rfl, trivial, trivial⟩ rfl (under_coP hu hus (hEu r)) (under_coP hu hus (hEu _)) (hstep r hr') ?_
    refine LateG.mk ⟨⟨_, rfl, rfl, rfl⟩, ⟨_, rfl, rfl, rfl⟩, trivial⟩ ?_
    have ho1 := hout (r + 1) (by omega)
    rw [outL_succ, List.length_append, List.length_append] at ho1
    refine now_of (bin_add (a := bT (ans r)) (b := bT [10]) (by rw [bT_size, bT_size]; show _ + 1 ≤ _; simp at ho1; omega)) ?_
    refine now_of (bin_add (a := bT (outL ans r)) (b := bT (ans r) ++ bT [10]) (by rw [bT_app, bT_size, bT_size, List.length_append]; simp at ho1 ⊢; omega)) ?_
    refine ⟨none, _, rfl, rfl, ?_⟩
    refine ifN ?_
    have hnew : bT (outL ans r) ++ (bT (ans r) ++ bT [10]) = bT (outL ans (r + 1)) := by rw [bT_app, bT_app, outL_succ]
    refine ⟨leb rfl, rfl, hr', trivial, ⟨wp rfl (ltb rfl), wp rfl (ltb rfl), trivial⟩, ?_, ?_⟩
    ·exact ⟨bk rfl rfl, bk rfl rfl, bk rfl rfl, bk rfl rfl, bk rfl rfl, ⟨congrArg (fun x => some (Blk.box [sA x] 9)) hnew, ltb rfl⟩, bk rfl rfl, bk rfl rfl, bk rfl rfl, trivial⟩
    ·exact ⟨⟨_, rfl, under_desk 9 (by omega) hus (hEu _)⟩, ⟨_, rfl, trivial⟩, ⟨_, rfl, ltb rfl, trivial⟩, ⟨_, rfl, trivial, trivial⟩, ⟨_, rfl, trivial, trivial⟩, ⟨_, rfl, trivial⟩, ⟨_, rfl, under_coR _⟩, trivial⟩
   ·refine ifN ?_
    have er : r = L.length := by
     rcases Nat.lt_or_ge r L.length with h | h
     ·exfalso
      have hd : L.drop r = L[r] :: L.drop (r + 1) := List.drop_eq_getElem_cons h
      rw [hd, bT_size, scr_cons, List.length_append, List.length_append] at h1
      simp at h1
      omega
     ·omega
    subst er
    refine ⟨leb rfl, .inl ⟨.inr rfl, _, rfl, rfl, ?_⟩⟩
    refine ⟨_, _, rfl, (fun e => by cases e), rfl, rfl, [(8, .ptr 5 0)], [(5, .box [sA (bT (outL ans L.length))] 9)], 9, rfl, ?_, ?_, ?_⟩
    ·exact ⟨⟨_, rfl, Weak.refl _ _⟩, trivial⟩
    ·exact ⟨bk rfl rfl, trivial⟩
    exact ⟨.inl rfl, FinM.mk _ rfl rfl rfl⟩
end Go.Vm
