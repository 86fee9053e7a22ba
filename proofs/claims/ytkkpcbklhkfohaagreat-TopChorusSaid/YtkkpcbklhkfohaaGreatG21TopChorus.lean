/-
  Texts of the proof, part 21: the machine, contracts of functions, plain laws. (Own work.)
-/
import Derived.Test.YtkkpcbklhkfohaaGreatG18TopChorus
import Derived.Test.YtkkpcbklhkfohaaGreatG15TopChorus
import Derived.Test.YtkkpcbklhkfohaaGreatG12TopChorus
import Derived.Test.YtkkpcbklhkfohaaGreatG14TopChorus
import Derived.Test.YtkkpcbklhkfohaaGreatG20TopChorus

namespace Go.Vm
open Go.Proofs
def eCpF (l : List Int) : AV := .sl 1 [nb false, eInts l] .full
theorem under_eCpF (n : Nat) (l : List Int) : (eCpF l).under n := ⟨⟨trivial, under_eInts _ _, trivial⟩, trivial⟩
theorem app_copy {g : Nat → Option Blk} {n len id gen : Nat} {cells : List AV} {l : List Int} (h1 : cells.length = len) (h2 : len < 2097152) (hg : g id = some (.row gen)) :
  appT Tryz.prog false g n 78 78 (.sl len cells (.own id gen 1)) (.sl 1 [eCpF l] .full) = some (.sl (len + 1) (cells ++ [eCpF l]) (.own id (gen + 1) 1), .set id (.row (gen + 1))) :=
 appT_own (e := 85) (bytes := 24) (z := .slice none 0 0) (by kernel_rfl) (by kernel_rfl) (by kernel_rfl) (by kernel_rfl) (by kernel_rfl) rfl (by omega) (by omega) (by omega) hg rfl
theorem wk_aggV {l l' : List AV} (h : Weaks l l') (H : List Blk) : WeakH H (.agg l) (.agg l') := fun O ι w c x => by
 simp only [VRel] at x ⊢
 obtain ⟨C, hc, hr⟩ := x
 exact ⟨C, hc, h.rel hr⟩
theorem weaks_cps : ∀ C : List (List Int), Weaks (C.map eCpF) (C.map eCp)
 | [] => .nil
 | _ :: C => .cons (fun H => WeakH.tail _ _ _ H) (weaks_cps C)
theorem wk_vb {C : List (List Int)} {tl : Tail} (H : List Blk) : WeakH H (.agg [n' 3, .sl C.length (C.map eCpF) tl]) (eVB C) :=
 wk_aggV (.cons (fun H => WeakH.refl _ H) (.cons (fun H O ι w c x => WeakH.tail _ _ _ H O ι w c (wk_sl (weaks_cps C) O ι w c x)) .nil)) H
theorem jx_cpF {C : List (List Int)} {tl : Tail} {i : Int} {r : Nat} {x : List Int} (hi : i = r) (h : C[r]? = some x) : indexOp Tryz.prog 78 (.sl C.length (C.map eCpF) tl) (.lit (.int .i64 i)) = some (.eptr [eCpF x]) := by
 obtain ⟨h1, rfl⟩ := List.getElem?_eq_some_iff.1 h
 exact ix_one (e := 85) (by kernel_rfl) (by kernel_rfl) hi h1
theorem plOf_ok {b : Book} (hB : BOk b) (htu : b.tunes ≤ 3) {cues : List Int} (hC : LList b cues) (h5 : cues.length ≤ 4) {j : Int} (hj : 0 ≤ j ∧ j < b.vs.length) :
  LineOk (plOf b cues j) ∧ (plOf b cues j).length = cues.length ∧ LTunes b (plOf b cues j) ∧ (∀ x ∈ plOf b cues j, 0 ≤ x) ∧ ∃ v, b.vs[j.toNat]? = some v ∧ plOf b cues j = plays v 0 cues := by
 have hjt : j.toNat < b.vs.length := by omega
 have hv : b.vs[j.toNat]? = some b.vs[j.toNat] := List.getElem?_eq_getElem hjt
 have he : plOf b cues j = plays b.vs[j.toNat] 0 cues := by
  unfold plOf
  rw [List.getD, hv]
  rfl
 have hVO := hB.2 _ (List.getElem_mem hjt)
 have h0c := hB.1.1
 unfold inI at h0c
 have hc := (hC.cues (by omega)).1
 have hin := plays_in hVO (by omega) hc hVO.vers.2
 have hlen : (plOf b cues j).length = cues.length := by rw [he, plays_length]
 have hin' : ∀ x ∈ plOf b cues j, 0 ≤ x ∧ x ≤ b.tunes - 1 := fun x hx => hin x (by rw [he] at hx; exact hx)
 refine ⟨⟨by omega, fun x hx => by have := hin' x hx; omega⟩, hlen, ⟨fun x hx _ => hin' x hx, by omega⟩, fun x hx => (hin' x hx).1, _, hv, he⟩
set_option maxHeartbeats 16000000 in
set_option maxRecDepth 100000 in
theorem c_topChorus (b : Book) (evs : List Evening) (hEv : EveningsRd evs) (cues : List Int) (H : List Blk) : ACall Tryz.prog 5 [eBook b, eEvenings evs, eInts cues] H (.ret (.lit (.bool true))) H := by
 refine fn_rule (m := false) (fn := Tryz.f5) (c := (Tryz.f5.body).getD .skip) mixed (by kernel_rfl) (by kernel_rfl) (of_decide_eq_true (by kernel_rfl)) ?_ ?_ ?_ H
 ·exact ⟨under_eBook 0 _, under_eEvenings 0 _, under_eInts 0 _, trivial⟩
 ·trivial
 ·refine CallG.bool (c_booked b) (fun hb => ?_) (fun _ => ?_)
  ·obtain ⟨hsh, htu, hB⟩ := hb
   have hl := hsh.len
   refine If.mk (fun h1 => ?_) (fun h1 => ?_)
   ·refine ifY ?_
    refine CallG.pure _ (known_call) ?_
    exact ⟨.inl rfl, FinG.mk _ rfl rfl rfl⟩
   ·refine CallG.bool (c_evenings hB.fit evs (by omega) (fun e he => ?_)) (fun hE => ?_) (fun _ => ?_)
    ·have h2 := hEv.1 e he
     have h3 := h2.1.2
     have h4 := h2.2.2
     unfold maxLen at h3 h4
     omega
    ·refine If.mk (fun h5 => ?_) (fun h5 => ?_)
     ·refine ifY ?_
      refine CallG.pure _ (known_call) ?_
      exact ⟨.inl rfl, FinG.mk _ rfl rfl rfl⟩
     ·refine CallG.bool (c_list hB.fit cues (by omega)) (fun hC => ?_) (fun _ => ?_)
      ·refine ifN ?_
       refine CallG.pure _ (c_Remains_ok hl hB hE) ?_
       have hrn := remL_now b.vs evs b.vs.length
       have hrl := remL_length b.vs evs b.vs.length
       have hmem := fun (j : Int) (hj : j ∈ remL b.vs evs b.vs.length) => remL_mem hj
       generalize hL : remL b.vs evs b.vs.length = L at hrn hrl hmem
       cases L with
       | nil =>
        refine CallG.pure _ (c_sure_none hl hB hE hC hrn) ?_
        refine If.mk (fun _ => ?_) (fun h => absurd (by decide) h)
        refine If.mk (fun h => absurd h (by show ¬ ((b.vs.length : Int) < (0 : Nat)); omega)) (fun _ => ?_)
        refine If.mk (fun _ => ?_) (fun h => absurd (by decide) h)
        refine If.mk (fun _ => ?_) (fun h => absurd (by decide) h)
        refine ifN ?_
        refine If.mk (fun _ => ?_) (fun h => absurd (by decide) h)
        refine ifY ?_
        refine CallG.pure _ (known_call) ?_
        exact ⟨.inl rfl, FinG.mk _ rfl rfl rfl⟩
       | cons i R =>
        have hso := fun H => c_sure_ok hl hB hE hC (by rw [hrn]; exact List.cons_ne_nil _ _) H
        rw [hrn] at hso
        refine CallG.pure _ (hso) ?_
        refine If.mk (fun _ => ?_) (fun h => absurd (by decide) h)
        refine If.mk (fun h => absurd h (by omega)) (fun _ => ?_)
        refine If.mk (fun h => absurd h (by show ¬ (((R.length + 1 : Nat) : Int) = 0); omega)) (fun _ => ?_)
        refine ifN ?_
        refine If.mk (fun h => absurd h (by show ¬ (((R.length + 1 : Nat) : Int) = 0); omega)) (fun _ => ?_)
        refine ifN ?_
        have hpl := fun (j : Int) (hj : j ∈ i :: R) => plOf_ok hB htu hC (by omega) (hmem j hj)
        have hLl : (i :: R).length = R.length + 1 := rfl
        have hvn := hB.1.2.2
        unfold inI at hvn
        refine LoopG.ghost (LoopG.at (n0 := 3) rfl (LoopG.box 1 [n' 3, .sl 0 [] (.own 2 0 1)] 1 (leb rfl) (leb rfl) rfl (.cons (Weak.refl _ _) (.cons (Weak.own (r := 2) (g := 0) 1 rfl) (.nil _))) ?_))
        refine loop_up mixed (m := false) (fun r => [(2, eInts cues), (3, .ptr 0 0), (7, eInts (i :: R)), (9, eInts (sureL b cues (i :: R))), (10, n' 0), (11, .ptr 1 0), (12, n' r)]) (fun r => [(0, bBox b), (1, .box [n' 3, .sl r ((((i :: R).take r).map (plOf b cues)).map eCpF) (.own 2 r 1)] 80), (2, .row r)]) (fun _ => True) (i :: R).length 1 (leb rfl) trivial ?_ ?_ ?_
        ·exact ⟨⟨_, rfl, Weak.refl _ _, under_eInts _ _⟩, wp rfl (ltb rfl), ⟨_, rfl, Weak.refl _ _, under_eInts _ _⟩, ⟨_, rfl, Weak.refl _ _, under_eInts _ _⟩, wp rfl trivial, wp rfl (ltb rfl), wp rfl trivial, trivial⟩
        ·exact ⟨bk rfl rfl, bk rfl rfl, bk rfl rfl, trivial⟩
        ·intro r hr _
         refine If.mk (fun g1 => ?_) (fun g1 => ?_)
         ·refine ifY ?_
          obtain ⟨j, hj, etk, hjm⟩ := at_some (l := i :: R) (r := r) (by omega)
          obtain ⟨k1, k2, k3, k4, v, hv, k5⟩ := hpl j hjm
          have hjr := hmem j hjm
          have kp : plays v 0 cues = plOf b cues j := k5.symm
          have hcp := fun H => c_plays_ok hl hB hjr.1 hv hC H
          rw [kp] at hcp
          refine Ex.mk _ (jx_ints (r := r) rfl hj) ?_
          refine Ex.mk _ rfl ?_
          refine CallG.bool (c_version hB.fit j) (fun _ => ?_) (fun h => absurd (by unfold inI; omega) h)
          refine ifN ?_
          refine Ex.mk _ (jx_ints (r := r) rfl hj) ?_
          refine Ex.mk _ rfl ?_
          refine CallG.pure _ (hcp) ?_
          refine If.mk (fun _ => ?_) (fun h => absurd (by decide) h)
          refine If.mk (fun _ => ?_) (fun h => absurd (by omega) h)
          refine CallG.bool (c_listed _ (-1) (by omega)) (fun h => absurd (k4 _ h) (by decide)) (fun _ => ?_)
          refine CallG.bool (c_tunes hB.fit _ (by omega)) (fun _ => ?_) (fun h => absurd k3 h)
          refine ifN ?_
          refine ex_app _ _ (app_copy (by rw [List.length_map, List.length_map, List.length_take]; omega) (by omega) rfl) ?_
          refine Side.mk (fits64 (by omega)) ?_
          have e : (((i :: R).take r).map (plOf b cues)).map eCpF ++ [eCpF (plOf b cues j)] = (((i :: R).take (r + 1)).map (plOf b cues)).map eCpF := by rw [etk]; simp
          exact ⟨leb rfl, rfl, by omega, trivial, ⟨⟨_, rfl, Weak.refl _ _, under_eInts _ _⟩, wp rfl (ltb rfl), ⟨_, rfl, Weak.refl _ _, under_eInts _ _⟩, ⟨_, rfl, Weak.refl _ _, under_eInts _ _⟩, wp rfl trivial, wp rfl (ltb rfl), wp rfl trivial, trivial⟩, ⟨bk rfl rfl, ⟨congrArg (fun l => some (Blk.box [n' 3, .sl (r + 1) l (.own 2 (r + 1) 1)] 80)) e, ltb rfl⟩, bk rfl rfl, trivial⟩, ⟨_, rfl, trivial, ⟨unders_append (unders_map (under_eCpF _) _) ⟨under_eCpF _ _, trivial⟩, ltb rfl⟩, trivial⟩, ⟨_, rfl, trivial⟩, trivial⟩
         ·refine ifN ?_
          refine ⟨leb rfl, ?_⟩
          obtain rfl : r = (i :: R).length := by omega
          have hCl : ((i :: R).map (plOf b cues)).length = (i :: R).length := List.length_map _
          have hCC : VbOk ((i :: R).map (plOf b cues)) := ⟨by rw [hCl]; omega, fun c hc => by
           obtain ⟨j, hj, rfl⟩ := List.mem_map.1 hc
           exact (hpl j hj).1⟩
          obtain ⟨q, hq, hqo⟩ := few_ok _ (withE ((i :: R).map (plOf b cues)) (linesW 3)) rfl (by
           intro e
           have := congrArg List.length e
           unfold withE at this
           rw [List.length_map] at this
           exact absurd this (by decide))
          obtain ⟨f1, f2, f3, f4⟩ := few_law (fun c hc => line_mem.2 (hCC.line c hc)) (by simp) hqo
          have hmx : MixOk (plOf b cues i) (R.map (plOf b cues)) (sureL b cues (i :: R)) := by
           have := (MixOk.nil (plOf b cues i)).fold (M := R.map (plOf b cues)) (fun t ht => by
            obtain ⟨j, hj, rfl⟩ := List.mem_map.1 ht
            exact ⟨by rw [(hpl j (by simp [hj])).2.1, (hpl i (by simp)).2.1], (hpl j (by simp [hj])).2.2.2.1⟩)
           rw [List.nil_append] at this
           show MixOk _ _ (R.foldl (fun o j => mix o (plOf b cues j)) (plOf b cues i))
           rw [foldl_map_mix]
           exact this
          obtain ⟨m1, m2⟩ := hmx.sure (hpl i (by simp)).2.2.2.1 (fun t ht => by
           obtain ⟨j, hj, rfl⟩ := List.mem_map.1 ht
           rw [(hpl j (by simp [hj])).2.1, (hpl i (by simp)).2.1])
          have hall : q.2 = 0 ↔ ∀ t ∈ R.map (plOf b cues), t = plOf b cues i := by
           rw [f1]
           constructor
           ·intro h t ht
            exact h t (by rw [List.map_cons]; exact List.mem_cons_of_mem _ ht) _ (by rw [List.map_cons]; exact List.mem_cons_self)
           ·intro h c hc d hd
            have key : ∀ c ∈ (i :: R).map (plOf b cues), c = plOf b cues i := fun c hc => by
             rw [List.map_cons] at hc
             rcases List.mem_cons.1 hc with h1 | h1
             ·exact h1
             ·exact h c h1
            rw [key c hc, key d hd]
          have hsl : (sureL b cues (i :: R)).length = cues.length := hmx.len.trans (hpl i (by simp)).2.1
          have hwl : (linesW 3).length = 121 := by decide
          have hq1l : q.1.length ≤ 121 ∧ ∀ l ∈ q.1, l ∈ linesW 3 := by
           rw [hqo.out]
           refine ⟨?_, fun l hl => ?_⟩
           ·rw [List.length_map]
            have := List.length_filter_le (fun p : List Int × Int => p.2 == q.2) (withE ((i :: R).map (plOf b cues)) (linesW 3))
            unfold withE at this ⊢
            rw [List.length_map] at this
            omega
           ·obtain ⟨p, hp, rfl⟩ := List.mem_map.1 hl
            have := (List.mem_filter.1 hp).1
            obtain ⟨l0, hl0, rfl⟩ := List.mem_map.1 this
            exact hl0
          have hbox : (((i :: R).take (i :: R).length).map (plOf b cues)).map eCpF = ((i :: R).map (plOf b cues)).map eCpF := by rw [List.take_length]
          have hwk : ∀ H, WeakH H (.agg [n' 3, .sl (i :: R).length ((((i :: R).take (i :: R).length).map (plOf b cues)).map eCpF) (.own 2 (i :: R).length 1)]) (eVB ((i :: R).map (plOf b cues))) := fun H => by
           rw [hbox]
           have := wk_vb (C := (i :: R).map (plOf b cues)) (tl := .own 2 (i :: R).length 1) H
           rw [hCl] at this
           exact this
          have hix : ∀ (r : Nat) (x : List Int), ((i :: R).map (plOf b cues))[r]? = some x → indexOp Tryz.prog 78 (.sl (i :: R).length ((((i :: R).take (i :: R).length).map (plOf b cues)).map eCpF) (.own 2 (i :: R).length 1)) (n' (r : Int)) = some (.eptr [eCpF x]) := fun r x h => by
           rw [hbox, ← hCl]
           exact jx_cpF rfl h
          have hq1 : 1 ≤ q.1.length := List.length_pos_iff.2 f3
          refine CallG.weak _ (.cons hwk (.cons (fun H => WeakH.refl _ H) .nil)) (c_Least hCC hq f3) ?_
          refine If.mk (fun _ => ?_) (fun h => absurd (by decide) h)
          refine If.mk (fun _ => ?_) (fun h => absurd (by decide) h)
          refine If.mk (fun _ => ?_) (fun h => absurd (by show ((sureL b cues (i :: R)).length : Int) = (cues.length : Nat); omega) h)
          refine If.mk (fun h => absurd h (by show ¬ ((q.1.length : Int) < 1); omega)) (fun _ => ?_)
          refine If.mk (fun hz => ?_) (fun hz => ?_)
          ·have hz : q.2 = 0 := hz
           have ha := hall.1 hz
           have hout := f2 hz (plOf b cues i) (by simp)
           have hsu := m2 ha
           refine CallG.bool (c_listed _ (-1) (by omega)) (fun h => absurd ha (m1.1 h)) (fun _ => ?_)
           refine If.mk (fun _ => ?_) (fun h => absurd hz h)
           refine If.mk (fun _ => ?_) (fun h => absurd (show ((q.1.length : Nat) : Int) = 1 by rw [hout]; rfl) h)
           refine Ex.mk _ (jx_lists (l := q.1) (r := 0) rfl (show q.1[0]? = some (plOf b cues i) by rw [hout]; rfl)) ?_
           refine Ex.mk _ rfl ?_
           refine CallG.bool (c_same _ _ (by have := (hpl i (by simp)).2.1; omega)) (fun _ => ?_) (fun h => absurd hsu.symm h)
           refine ifN ?_
           refine If.mk (fun h2 => ?_) (fun _ => ?_)
           ·refine ifY ?_
            obtain ⟨j, rfl⟩ : ∃ j, R = [j] := by
             have h2 : ((R.length + 1 : Nat) : Int) = 2 := h2
             match R, h2 with
             | [j], _ => exact ⟨j, rfl⟩
             | [], h => exact absurd h (by decide)
             | _ :: _ :: _, h => exact absurd h (by simp only [List.length_cons]; omega)
            obtain ⟨g2, g3⟩ := f4 (plOf b cues i) (plOf b cues j) rfl
            have hoi := (hpl i (by simp)).1
            have hoj := (hpl j (by simp)).1
            have hbt := fun H => c_Between hCC hoi hoj H
            have g4 : (linesW 3).filter (btP (plOf b cues i) (plOf b cues j)) = q.1 := g3.symm
            rw [g4] at hbt
            refine Ex.mk _ (hix 0 (plOf b cues i) rfl) ?_
            refine Ex.mk _ rfl ?_
            refine Ex.mk _ rfl ?_
            refine Ex.mk _ rfl ?_
            refine Ex.mk _ rfl ?_
            refine Ex.mk _ rfl ?_
            refine Ex.mk _ rfl ?_
            refine Ex.mk _ rfl ?_
            refine CallG.weak _ (.cons hwk (.cons (fun H => WeakH.refl _ H) (.cons (fun H => WeakH.refl _ H) .nil))) hbt ?_
            refine CallG.weak _ (.cons hwk (.cons (fun H => WeakH.refl _ H) (.cons (fun H => WeakH.refl _ H) .nil))) (c_Changes hCC hoi hoj) ?_
            refine If.mk (fun _ => ?_) (fun h => absurd (by decide) h)
            refine If.mk (fun _ => ?_) (fun h => absurd (by decide) h)
            refine If.mk (fun _ => ?_) (fun h => absurd g2.symm h)
            refine CallG.pure _ (c_sameLists (L := q.1) (by omega) (fun l hl => by have := (mem_linesW.1 (hq1l.2 l hl)).1; omega)) ?_
            refine CallG.pure _ (known_call) ?_
            exact ⟨.inl rfl, FinG.mk _ rfl rfl rfl⟩
           ·refine ifN ?_
            refine CallG.pure _ (known_call) ?_
            exact ⟨.inl rfl, FinG.mk _ rfl rfl rfl⟩
          ·have hz : ¬ q.2 = 0 := hz
           refine CallG.bool (c_listed _ (-1) (by omega)) (fun _ => ?_) (fun h => absurd (m1.2 fun x => hz (hall.2 x)) h)
           refine If.mk (fun h => absurd h hz) (fun _ => ?_)
           refine ifN ?_
           refine If.mk (fun h2 => ?_) (fun _ => ?_)
           ·refine ifY ?_
            obtain ⟨j, rfl⟩ : ∃ j, R = [j] := by
             have h2 : ((R.length + 1 : Nat) : Int) = 2 := h2
             match R, h2 with
             | [j], _ => exact ⟨j, rfl⟩
             | [], h => exact absurd h (by decide)
             | _ :: _ :: _, h => exact absurd h (by simp only [List.length_cons]; omega)
            obtain ⟨g2, g3⟩ := f4 (plOf b cues i) (plOf b cues j) rfl
            have hoi := (hpl i (by simp)).1
            have hoj := (hpl j (by simp)).1
            have hbt := fun H => c_Between hCC hoi hoj H
            have g4 : (linesW 3).filter (btP (plOf b cues i) (plOf b cues j)) = q.1 := g3.symm
            rw [g4] at hbt
            refine Ex.mk _ (hix 0 (plOf b cues i) rfl) ?_
            refine Ex.mk _ rfl ?_
            refine Ex.mk _ rfl ?_
            refine Ex.mk _ rfl ?_
            refine Ex.mk _ rfl ?_
            refine Ex.mk _ rfl ?_
            refine Ex.mk _ rfl ?_
            refine Ex.mk _ rfl ?_
            refine CallG.weak _ (.cons hwk (.cons (fun H => WeakH.refl _ H) (.cons (fun H => WeakH.refl _ H) .nil))) hbt ?_
            refine CallG.weak _ (.cons hwk (.cons (fun H => WeakH.refl _ H) (.cons (fun H => WeakH.refl _ H) .nil))) (c_Changes hCC hoi hoj) ?_
            refine If.mk (fun _ => ?_) (fun h => absurd (by decide) h)
            refine If.mk (fun _ => ?_) (fun h => absurd (by decide) h)
            refine If.mk (fun _ => ?_) (fun h => absurd g2.symm h)
            refine CallG.pure _ (c_sameLists (L := q.1) (by omega) (fun l hl => by have := (mem_linesW.1 (hq1l.2 l hl)).1; omega)) ?_
            refine CallG.pure _ (known_call) ?_
            exact ⟨.inl rfl, FinG.mk _ rfl rfl rfl⟩
           ·refine ifN ?_
            refine CallG.pure _ (known_call) ?_
            exact ⟨.inl rfl, FinG.mk _ rfl rfl rfl⟩
      ·refine ifY ?_
       refine CallG.pure _ (known_call) ?_
       exact ⟨.inl rfl, FinG.mk _ rfl rfl rfl⟩
    ·refine ifY ?_
     refine CallG.pure _ (known_call) ?_
     exact ⟨.inl rfl, FinG.mk _ rfl rfl rfl⟩
  ·refine ifY ?_
   refine CallG.pure _ (known_call) ?_
   exact ⟨.inl rfl, FinG.mk _ rfl rfl rfl⟩
end Go.Vm
