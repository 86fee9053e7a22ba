/-
  Ask of the specification, by its table, for books and lists as told at each, in every heap. Conditions: at each theorem.
-/
import Derived.Test.YtdhdaadoehbopaaGreatDoorCz
import Derived.Test.YtdhdaadoehbopaaGreatDoorCd
import Derived.Test.YtdhdaadoehbopaaGreatDoorVc
import Derived.Test.YtdhdaadoehbopaaGreatDoorCr
import Derived.Test.YtdhdaadoehbopaaGreatDoorCn
import Derived.Test.YtdhdaadoehbopaaGreatDoorCp

namespace Go.Vm
open Go.Proofs
theorem chL_take {l : List Int} (hl : l.length ≤ 4) (hd : ∀ x ∈ l, -1 ≤ x ∧ x ≤ 3) (r : Nat) : chL (l.take r) < 625 := by
 have h1 := chL_lt _ (rfl : (l.take r).length = _) fun y hy => hd y (List.mem_of_mem_take hy)
 have h2 : 5 ^ (l.take r).length ≤ 5 ^ 4 := Nat.pow_le_pow_right (by omega) (by rw [List.length_take]; omega)
 have h3 : 5 ^ 4 = 625 := rfl
 omega
set_option maxRecDepth 100000 in
theorem c_choice {l : List Int} (hl : l.length ≤ 4) (hd : ∀ x ∈ l, -1 ≤ x ∧ x ≤ 3) (H : List Blk) : ACall Tryz.prog 121 [eInts l] H (.ret (n' (chL l : Nat))) H := by
 refine fn_rule (m := false) (fn := Tryz.f121) (c := (Tryz.f121.body).getD .skip) mixed (by kernel_rfl) (by kernel_rfl) (of_decide_eq_true (by kernel_rfl)) ?_ ?_ ?_ H
 ·exact ⟨under_eInts 0 _, trivial⟩
 ·trivial
 ·refine LoopG.at (n0 := 0) rfl (loop_up mixed (m := false) (fun r => [(0, eInts l), (3, n' (chL (l.take r) : Nat)), (4, n' r)]) (fun _ => []) (fun _ => True) l.length 0 (Nat.zero_le _) trivial ?_ trivial ?_)
  ·exact ⟨⟨_, rfl, Weak.refl _ _, under_eInts _ _⟩, wp rfl trivial, wp rfl trivial, trivial⟩
  ·intro r hr _
   have hb := chL_take hl hd r
   refine If.mk (fun h1 => ?_) (fun h1 => ?_)
   ·refine ifY ?_
    obtain ⟨x, hx, htk, hxm⟩ := at_some (l := l) (r := r) (by omega)
    have hx' := hd x hxm
    refine Side.mk (fits64 (by omega)) ?_
    refine Ex.mk _ (jx_ints (r := r) rfl hx) ?_
    refine Ex.mk _ rfl ?_
    refine Side.mk (fits64 (by omega)) ?_
    refine Side.mk (fits64 (by omega)) ?_
    refine Side.mk (fits64 (by omega)) ?_
    refine ⟨Nat.zero_le _, rfl, by omega, trivial, ⟨⟨_, rfl, Weak.refl _ _, under_eInts _ _⟩, ⟨_, rfl, Weak.of_eq (?_), trivial⟩, wp rfl trivial, trivial⟩, trivial, trivial⟩
    rw [htk, chL_snoc]
    exact congrArg n' (by omega)
   ·refine ifN ?_
    obtain rfl : r = l.length := by omega
    refine ⟨Nat.zero_le _, .inl rfl, FinG.mk _ rfl rfl ?_⟩
    show n' (chL (l.take l.length) : Nat) = _
    rw [List.take_length]
set_option maxRecDepth 100000 in
theorem c_none {l : List Int} (hl : l.length ≤ 4) (H : List Blk) : ACall Tryz.prog 174 [eInts l] H (.ret (.lit (.bool (decide (someL l = false))))) H := by
 refine fn_rule (m := false) (fn := Tryz.f174) (c := (Tryz.f174.body).getD .skip) mixed (by kernel_rfl) (by kernel_rfl) (of_decide_eq_true (by kernel_rfl)) ?_ ?_ ?_ H
 ·exact ⟨under_eInts 0 _, trivial⟩
 ·trivial
 ·refine LoopG.at (n0 := 0) rfl (loop_up mixed (m := false) (fun r => [(0, eInts l), (3, n' r)]) (fun _ => []) (fun r => ∀ x ∈ l.take r, ¬ 0 ≤ x) l.length 0 (Nat.zero_le _) (fun x hx => by simp at hx) ?_ trivial ?_)
  ·exact ⟨⟨_, rfl, Weak.refl _ _, under_eInts _ _⟩, wp rfl trivial, trivial⟩
  ·intro r hr hI
   refine If.mk (fun h1 => ?_) (fun h1 => ?_)
   ·refine ifY ?_
    obtain ⟨x, hx, htk, hxm⟩ := at_some (l := l) (r := r) (by omega)
    refine Ex.mk _ (jx_ints (r := r) rfl hx) ?_
    refine Ex.mk _ rfl ?_
    refine If.mk (fun h2 => ?_) (fun h2 => ?_)
    ·refine ifY ?_
     exact ⟨Nat.zero_le _, .inl rfl, FinG.no rfl rfl (fun e => by unfold someL at e; rw [List.any_eq_false] at e; exact e x hxm (by simpa using h2))⟩
    ·refine ifN ?_
     refine Side.mk (fits64 (by omega)) ?_
     refine ⟨Nat.zero_le _, rfl, by omega, fun y hy => ?_, ⟨⟨_, rfl, Weak.refl _ _, under_eInts _ _⟩, wp rfl trivial, trivial⟩, trivial, trivial⟩
     rw [htk] at hy
     rcases List.mem_append.1 hy with hy | hy
     ·exact hI y hy
     ·rw [List.mem_singleton] at hy
      subst hy
      exact h2
   ·refine ifN ?_
    obtain rfl : r = l.length := by omega
    rw [List.take_length] at hI
    refine ⟨Nat.zero_le _, .inl rfl, FinG.yes rfl rfl ?_⟩
    unfold someL
    rw [List.any_eq_false]
    intro x hx e
    exact hI x hx (by simpa using e)
theorem spL_take {vs : List Vers} {c t r : Nat} {l : List Int} (h : r < l.length) : (spL vs c t l).take (r + 1) = (spL vs c t l).take r ++ [spI vs c t r (l.getD r (-1))] := by
 have e : (spL vs c t l)[r]? = some (spI vs c t r (l.getD r (-1))) := by
  unfold spL
  simp [h]
 rw [List.take_add_one, e]
 rfl
set_option maxHeartbeats 4000000 in
set_option maxRecDepth 100000 in
theorem c_split {b : Book} (hB : BOk b) {l : List Int} (hl : StL b.vs b.vs.length l) {c : Nat} (hc : c < b.cues.toNat) (t : Nat) (H : List Blk) : ACall Tryz.prog 173 [eBook b, eInts l, n' c, n' t] H (.ret (eInts (spL b.vs c t l))) H := by
 have G := hB.game
 have hn := G.hn
 have hll := hl.1
 have hsl := spL_length b.vs c t l
 refine fn_rule (m := false) (fn := Tryz.f173) (c := (Tryz.f173.body).getD .skip) mixed (by kernel_rfl) (by kernel_rfl) (of_decide_eq_true (by kernel_rfl)) ?_ ?_ ?_ H
 ·exact ⟨under_eBook 0 _, under_eInts 0 _, trivial, trivial, trivial⟩
 ·exact under_eInts 0 _
 ·refine LoopG.ghost (LoopG.at (n0 := 2) rfl ?_)
  refine loop_up mixed (m := false) (fun r => [(1, eInts l), (2, n' c), (3, n' t), (4, .ptr 0 0), (9, .sl r (((spL b.vs c t l).take r).map n') (.own 1 r 1)), (10, n' r)]) (fun r => [(0, bBox b), (1, .row r)]) (fun _ => True) l.length 1 (leb rfl) trivial ?_ ?_ ?_
  ·exact ⟨⟨_, rfl, Weak.refl _ _, under_eInts _ _⟩, wp rfl trivial, wp rfl trivial, wp rfl (ltb rfl), ⟨_, rfl, Weak.own (r := 1) (g := 0) 1 rfl, ⟨trivial, ltb rfl⟩⟩, wp rfl trivial, trivial⟩
  ·exact ⟨bk rfl rfl, bk rfl rfl, trivial⟩
  ·intro r hr _
   refine If.mk (fun h1 => ?_) (fun h1 => ?_)
   ·refine ifY ?_
    have hr' : r < l.length := by omega
    obtain ⟨x, hx, htk, hxm⟩ := at_some (l := l) (r := r) hr'
    have hgd : l.getD r (-1) = x := by simp [List.getD, hx]
    have hP := hl.2 r (by omega)
    have hnext := spL_take (vs := b.vs) (c := c) (t := t) hr'
    rw [hgd] at hP hnext
    have hlen : ((spL b.vs c t l).take r).length = r := by rw [List.length_take]; omega
    refine Ex.mk _ (jx_ints (r := r) rfl hx) ?_
    refine Ex.mk _ rfl ?_
    refine If.mk (fun h2 => ?_) (fun h2 => ?_)
    ·refine ifY ?_
     obtain ⟨k1, k2, _, _⟩ := G.mvOk hP h2 hc
     obtain ⟨hvn, hvm⟩ := vAt_of k1
     obtain ⟨s, g1, g2, g3, g4⟩ := mv_at (G.hv _ hvm) k2 hc
     refine Ex.mk _ (jx_versions (r := r) rfl hvn) ?_
     refine Ex.mk _ rfl ?_
     refine Ex.mk _ (jx_ints (r := r) rfl hx) ?_
     refine Ex.mk _ rfl ?_
     refine Ex.mk _ (jx_states (r := x.toNat) (by omega) g1) ?_
     refine Ex.mk _ rfl ?_
     refine Ex.mk _ (jx_moves (r := c) rfl g2) ?_
     refine Ex.mk _ rfl ?_
     refine If.mk (fun h3 => ?_) (fun h3 => ?_)
     ·refine ifY ?_
      have e : spI b.vs c t r x = (mv (vAt b.vs r) x.toNat c).1 := by unfold spI; rw [if_pos h2, if_pos h3]
      refine ex_app _ _ (app_int (by rw [List.length_map]; exact hlen) (by omega) rfl) ?_
      refine Side.mk (fits64 (by omega)) ?_
      refine ⟨leb rfl, rfl, by omega, trivial, ⟨⟨_, rfl, Weak.refl _ _, under_eInts _ _⟩, wp rfl trivial, wp rfl trivial, wp rfl (ltb rfl), ⟨_, rfl, Weak.of_eq (?_), ⟨under_ints _ _, ltb rfl⟩⟩, wp rfl trivial, trivial⟩, ⟨bk rfl rfl, bk rfl rfl, trivial⟩, ⟨_, rfl, trivial⟩, trivial⟩
      rw [hnext, List.map_append]
      show _ = AV.sl (r + 1) (((spL b.vs c t l).take r).map n' ++ [n' (spI b.vs c t r x)]) (.own 1 (r + 1) 1)
      rw [e]
     ·refine ifN ?_
      have e : spI b.vs c t r x = -1 := by unfold spI; rw [if_pos h2, if_neg h3]
      refine ex_app _ _ (app_int (by rw [List.length_map]; exact hlen) (by omega) rfl) ?_
      refine Side.mk (fits64 (by omega)) ?_
      refine ⟨leb rfl, rfl, by omega, trivial, ⟨⟨_, rfl, Weak.refl _ _, under_eInts _ _⟩, wp rfl trivial, wp rfl trivial, wp rfl (ltb rfl), ⟨_, rfl, Weak.of_eq (?_), ⟨under_ints _ _, ltb rfl⟩⟩, wp rfl trivial, trivial⟩, ⟨bk rfl rfl, bk rfl rfl, trivial⟩, ⟨_, rfl, trivial⟩, trivial⟩
      rw [hnext, List.map_append]
      show _ = AV.sl (r + 1) (((spL b.vs c t l).take r).map n' ++ [n' (spI b.vs c t r x)]) (.own 1 (r + 1) 1)
      rw [e]
    ·refine ifN ?_
     have e : spI b.vs c t r x = -1 := by
      unfold spI
      rw [if_neg h2]
      rcases hP with h | ⟨h, _, _⟩
      ·exact h
      ·exact absurd h h2
     refine ex_app _ _ (app_int (by rw [List.length_map]; exact hlen) (by omega) rfl) ?_
     refine Side.mk (fits64 (by omega)) ?_
     refine ⟨leb rfl, rfl, by omega, trivial, ⟨⟨_, rfl, Weak.refl _ _, under_eInts _ _⟩, wp rfl trivial, wp rfl trivial, wp rfl (ltb rfl), ⟨_, rfl, Weak.of_eq (?_), ⟨under_ints _ _, ltb rfl⟩⟩, wp rfl trivial, trivial⟩, ⟨bk rfl rfl, bk rfl rfl, trivial⟩, ⟨_, rfl, trivial⟩, trivial⟩
     rw [hnext, List.map_append]
     show _ = AV.sl (r + 1) (((spL b.vs c t l).take r).map n' ++ [n' (spI b.vs c t r x)]) (.own 1 (r + 1) 1)
     rw [e]
   ·refine ifN ?_
    obtain rfl : r = l.length := by omega
    refine ⟨leb rfl, .inl rfl, FinG.mk _ rfl rfl ?_⟩
    show AV.sl l.length (AV.freezes _ (((spL b.vs c t l).take l.length).map n')) .unk = eInts (spL b.vs c t l)
    rw [List.take_of_length_le (by omega), freezes_map (fun _ => rfl)]
    unfold eInts
    rw [hsl]
end Go.Vm

namespace Go.Vm
open Go.Proofs
def okA (vs : List Vers) (K : Nat) (l : List Int) (a q : Nat) : Prop := 0 ≤ l.getD a (-1) → 0 ≤ l.getD q (-1) → dT (vAt vs a) (vAt vs q) K 0 0 = []
def BD (vs : List Vers) (K : Nat) (l : List Int) : Prop := ∀ a, a < l.length → ∀ q, q < a → okA vs K l a q
noncomputable instance (vs : List Vers) (K : Nat) (l : List Int) : Decidable (BD vs K l) := Classical.propDecidable _
theorem BD_iff {vs : List Vers} {K T : Nat} (G : GameOk vs K T) {l : List Int} (hl : l.length = vs.length) : BD vs K l ↔ baseL vs K l := by
 have hn := G.hn
 have hd : ∀ {a : Nat}, 0 ≤ l.getD a (-1) → a < l.length := fun {a} h => by
  rcases Nat.lt_or_ge a l.length with h1 | h1
  ·exact h1
  ·have : l.getD a (-1) = -1 := by simp [List.getD, List.getElem?_eq_none h1]
   omega
 have al : ∀ {a q : Nat}, a < vs.length → q < vs.length → (alS vs K (a, 0) (q, 0) ↔ dT (vAt vs a) (vAt vs q) K 0 0 = []) := fun {a q} ha hq =>
  alS_dT (G.hv _ (vAt_in ha)) (G.hv _ (vAt_in hq)) (G.hv0 _ (vAt_in ha)) (G.hv0 _ (vAt_in hq))
 unfold baseL
 rw [base4_iff]
 constructor
 ·intro h a b ha hb pa pb
  rw [at4_toP ha] at pa
  rw [at4_toP hb] at pb
  have ka := hd pa
  have kb := hd pb
  rcases Nat.lt_trichotomy a b with h1 | h1 | h1
  ·exact ((al (by omega) (by omega)).2 (h b kb a h1 pb pa)).symm
  ·subst h1; exact alS.refl _
  ·exact (al (by omega) (by omega)).2 (h a ka b h1 pa pb)
 ·intro h a ha q hq pa pq
  refine (al (by omega) (by omega)).1 (h a q (by omega) (by omega) ?_ ?_)
  ·rw [at4_toP (by omega)]; exact pa
  ·rw [at4_toP (by omega)]; exact pq
set_option maxHeartbeats 4000000 in
set_option maxRecDepth 100000 in
theorem c_settledR {b : Book} (hB : BOk b) {l : List Int} (hl : l.length = b.vs.length) (H : List Blk) : ACall Tryz.prog 172 [eBook b, eInts l] H (.ret (.lit (.bool (decide (BD b.vs b.cues.toNat l))))) H := by
 have hbc := hB.1.1
 have hn := hB.game.hn
 unfold inI at hbc
 refine fn_rule (m := false) (fn := Tryz.f172) (c := (Tryz.f172.body).getD .skip) mixed (by kernel_rfl) (by kernel_rfl) (of_decide_eq_true (by kernel_rfl)) ?_ ?_ ?_ H
 ·exact ⟨under_eBook 0 _, under_eInts 0 _, trivial⟩
 ·trivial
 ·refine LoopG.at (n0 := 1) rfl (loop_up mixed (m := false) (fun r => [(1, eInts l), (2, .ptr 0 0), (5, n' r)]) (fun _ => [(0, bBox b)]) (fun r => ∀ a, a < r → ∀ q, q < a → okA b.vs b.cues.toNat l a q) l.length 1 (leb rfl) (fun a h => by omega) ?_ ?_ ?_)
  ·exact ⟨⟨_, rfl, Weak.refl _ _, under_eInts _ _⟩, wp rfl (ltb rfl), wp rfl trivial, trivial⟩
  ·exact ⟨bk rfl rfl, trivial⟩
  ·intro r hr hI
   refine If.mk (fun h1 => ?_) (fun h1 => ?_)
   ·refine ifY ?_
    have hr' : r < l.length := by omega
    obtain ⟨x, hx, _, _⟩ := at_some (l := l) (r := r) hr'
    have hgx : l.getD r (-1) = x := by simp [List.getD, hx]
    obtain ⟨hvr, hmr⟩ := vAt_of (show r < b.vs.length by omega)
    have hVr := hB.2 _ hmr
    refine LoopG.at (n0 := 1) rfl (loop_up mixed (m := false) (fun q => [(1, eInts l), (2, .ptr 0 0), (5, n' r), (6, n' q)]) (fun _ => [(0, bBox b)]) (fun q => ∀ q', q' < q → okA b.vs b.cues.toNat l r q') r 1 (leb rfl) (fun a h => by omega) ?_ ?_ ?_)
    ·exact ⟨⟨_, rfl, Weak.refl _ _, under_eInts _ _⟩, wp rfl (ltb rfl), wp rfl trivial, wp rfl trivial, trivial⟩
    ·exact ⟨bk rfl rfl, trivial⟩
    ·intro q hq hJ
     refine If.mk (fun h2 => ?_) (fun h2 => ?_)
     ·refine ifY ?_
      have hq' : q < r := by omega
      obtain ⟨y, hy, _, _⟩ := at_some (l := l) (r := q) (by omega)
      have hgy : l.getD q (-1) = y := by simp [List.getD, hy]
      obtain ⟨hvq, hmq⟩ := vAt_of (show q < b.vs.length by omega)
      have hVq := hB.2 _ hmq
      refine Ex.mk _ (jx_ints (r := r) rfl hx) ?_
      refine Ex.mk _ rfl ?_
      refine If.mk (fun h3 => ?_) (fun h3 => ?_)
      ·refine Ex.mk _ (jx_ints (r := q) rfl hy) ?_
       refine Ex.mk _ rfl ?_
       refine If.mk (fun h4 => ?_) (fun h4 => ?_)
       ·refine Ex.mk _ (jx_versions (r := r) rfl hvr) ?_
        refine Ex.mk _ rfl ?_
        refine Ex.mk _ (jx_versions (r := q) rfl hvq) ?_
        refine Ex.mk _ rfl ?_
        refine CallG.bool (c_alike b hVr.vers.1 hVq.vers.1 (by omega) hVr.2 hVq.2) (fun h5 => ?_) (fun h5 => ?_)
        ·refine ifN ?_
         refine Side.mk (fits64 (by omega)) ?_
         refine ⟨leb rfl, rfl, by omega, fun q' h9 => ?_, ⟨⟨_, rfl, Weak.refl _ _, under_eInts _ _⟩, wp rfl (ltb rfl), wp rfl trivial, wp rfl trivial, trivial⟩, ⟨bk rfl rfl, trivial⟩, trivial⟩
         rcases Nat.lt_or_ge q' q with h8 | h8
         ·exact hJ q' h8
         ·obtain rfl : q' = q := by omega
          exact fun _ _ => h5
        ·refine ifY ?_
         exact ⟨leb rfl, leb rfl, .inl rfl, FinG.no rfl rfl fun e => h5 (e r hr' q hq' (by rw [hgx]; exact h3) (by rw [hgy]; exact h4))⟩
       ·refine ifN ?_
        refine Side.mk (fits64 (by omega)) ?_
        refine ⟨leb rfl, rfl, by omega, fun q' h9 => ?_, ⟨⟨_, rfl, Weak.refl _ _, under_eInts _ _⟩, wp rfl (ltb rfl), wp rfl trivial, wp rfl trivial, trivial⟩, ⟨bk rfl rfl, trivial⟩, trivial⟩
        rcases Nat.lt_or_ge q' q with h8 | h8
        ·exact hJ q' h8
        ·obtain rfl : q' = q := by omega
         exact fun _ k => absurd (by rw [hgy] at k; exact k) h4
      ·refine ifN ?_
       refine Side.mk (fits64 (by omega)) ?_
       refine ⟨leb rfl, rfl, by omega, fun q' h9 => ?_, ⟨⟨_, rfl, Weak.refl _ _, under_eInts _ _⟩, wp rfl (ltb rfl), wp rfl trivial, wp rfl trivial, trivial⟩, ⟨bk rfl rfl, trivial⟩, trivial⟩
       rcases Nat.lt_or_ge q' q with h8 | h8
       ·exact hJ q' h8
       ·obtain rfl : q' = q := by omega
        exact fun k _ => absurd (by rw [hgx] at k; exact k) h3
     ·refine ifN ?_
      obtain rfl : q = r := by omega
      refine ⟨leb rfl, ?_⟩
      refine Side.mk (fits64 (by omega)) ?_
      refine ⟨leb rfl, rfl, by omega, fun a h9 => ?_, ⟨⟨_, rfl, Weak.refl _ _, under_eInts _ _⟩, wp rfl (ltb rfl), wp rfl trivial, trivial⟩, ⟨bk rfl rfl, trivial⟩, trivial⟩
      rcases Nat.lt_or_ge a q with h8 | h8
      ·exact hI a h8
      ·obtain rfl : a = q := by omega
       exact hJ
   ·refine ifN ?_
    obtain rfl : r = l.length := by omega
    exact ⟨leb rfl, .inl rfl, FinG.yes rfl rfl hI⟩
def exS (x : List Int) (q : Nat) : List (List Int) := (List.range q).map fun s => x ++ [((s : Nat) : Int) - 1]
theorem exS_succ (x : List Int) (q : Nat) : exS x (q + 1) = exS x q ++ [x ++ [((q : Nat) : Int) - 1]] := by unfold exS; rw [List.range_succ, List.map_append]; rfl
theorem exS_length (x : List Int) (q : Nat) : (exS x q).length = q := by unfold exS; rw [List.length_map, List.length_range]
def exA (L : List (List Int)) (k : Nat) : List (List Int) := L.flatMap fun l => exS l k
theorem exA_snoc (L : List (List Int)) (x : List Int) (k : Nat) : exA (L ++ [x]) k = exA L k ++ exS x k := by unfold exA; rw [List.flatMap_append, List.flatMap_cons, List.flatMap_nil, List.append_nil]
theorem exA_length (k : Nat) : ∀ L : List (List Int), (exA L k).length = L.length * k
 | [] => by simp [exA]
 | l :: L => by
  have ih := exA_length k L
  unfold exA at ih ⊢
  rw [List.flatMap_cons, List.length_append, ih, exS_length, List.length_cons, Nat.succ_mul, Nat.add_comm]
theorem wk_snocZ {x : List Int} {a : Int} {tl : Tail} (H : List Blk) : WeakH H (.sl (x.length + 1) (x.map n' ++ [n' a]) tl) (eInts (x ++ [a])) := by
 have e : eInts (x ++ [a]) = .sl (x.length + 1) (x.map n' ++ [n' a]) .unk := by
  unfold eInts
  rw [List.length_append, List.map_append]; rfl
 rw [e]
 exact WeakH.tail _ _ _ H
set_option maxHeartbeats 8000000 in
set_option maxRecDepth 100000 in
theorem c_all {b : Book} (hB : BOk b) (H : List Blk) : ACall Tryz.prog 171 [eBook b] H (.ret (eLists (allL b.vs b.vs.length))) H := by
 have G := hB.game
 have hn := G.hn
 refine fn_rule (m := false) (fn := Tryz.f171) (c := (Tryz.f171.body).getD .skip) mixed (by kernel_rfl) (by kernel_rfl) (of_decide_eq_true (by kernel_rfl)) ?_ ?_ ?_ H
 ·exact ⟨under_eBook 0 _, trivial⟩
 ·exact under_eLists 0 _
 ·refine LoopG.at (n0 := 1) rfl (loop_up mixed (m := false) (fun r => [(1, .ptr 0 0), (3, eLists (allL b.vs r)), (4, n' r)]) (fun _ => [(0, bBox b)]) (fun _ => True) b.vs.length 1 (leb rfl) trivial ?_ ?_ ?_)
  ·exact ⟨wp rfl (ltb rfl), ⟨_, rfl, (fun n H hH => wk_lists1 H), under_eLists _ _⟩, wp rfl trivial, trivial⟩
  ·exact ⟨bk rfl rfl, trivial⟩
  ·intro r hr _
   refine If.mk (fun h1 => ?_) (fun h1 => ?_)
   ·refine ifY ?_
    have hr' : r < b.vs.length := by omega
    have hcount := allL_count (vs := b.vs) G.hs hr
    have hp5 : 5 ^ r ≤ 5 ^ 4 := Nat.pow_le_pow_right (by omega) (by omega)
    have hp4 : 5 ^ 4 = 625 := rfl
    have hlen : ∀ x ∈ allL b.vs r, x.length ≤ 4 := fun x hx => by
     have := ((allL_mem hr).1 hx).1
     omega
    obtain ⟨hvr, hmr⟩ := vAt_of hr'
    have hv4 := G.hs _ hmr
    have hnext : allL b.vs (r + 1) = exA (allL b.vs r) ((vAt b.vs r).length + 1) := rfl
    generalize hL : allL b.vs r = L at *
    generalize hv : vAt b.vs r = v at *
    refine LoopG.ghost (LoopG.at (n0 := 2) rfl ?_)
    refine loop_up mixed (m := false) (fun k => [(1, .ptr 0 0), (3, eLists L), (4, n' r), (5, rowL (exA (L.take k) (v.length + 1)) 1), (6, n' k)]) (fun k => [(0, bBox b), (1, .row (exA (L.take k) (v.length + 1)).length)]) (fun _ => True) L.length 1 (leb rfl) trivial ?_ ?_ ?_
    ·exact ⟨wp rfl (ltb rfl), ⟨_, rfl, Weak.refl _ _, under_eLists _ _⟩, wp rfl trivial, ⟨_, rfl, Weak.own (r := 1) (g := 0) 1 rfl, ⟨trivial, ltb rfl⟩⟩, wp rfl trivial, trivial⟩
    ·exact ⟨bk rfl rfl, bk rfl rfl, trivial⟩
    ·intro k hk _
     refine If.mk (fun h2 => ?_) (fun h2 => ?_)
     ·refine ifY ?_
      obtain ⟨x, hx, htk, hxm⟩ := at_some (l := L) (r := k) (by omega)
      have hxl := hlen x hxm
      have hAl := exA_length (v.length + 1) (L.take k)
      have htl : (L.take k).length = k := by rw [List.length_take]; omega
      rw [htl] at hAl
      have hmul : k * (v.length + 1) ≤ 625 * 5 := Nat.mul_le_mul (by omega) (by omega)
      generalize hA : exA (L.take k) (v.length + 1) = A at *
      refine LoopG.at (n0 := 2) rfl (loop_up mixed (m := false) (fun q => [(1, .ptr 0 0), (3, eLists L), (4, n' r), (5, rowL (A ++ exS x q) 1), (6, n' k), (7, n' (((q : Nat) : Int) - 1))]) (fun q => [(0, bBox b), (1, .row (A ++ exS x q).length)]) (fun _ => True) (v.length + 1) 1 (leb rfl) trivial ?_ ?_ ?_)
      ·refine ⟨wp rfl (ltb rfl), ⟨_, rfl, Weak.refl _ _, under_eLists _ _⟩, wp rfl trivial, ⟨_, rfl, Weak.of_eq (?_), under_rowL _ (ltb rfl) _⟩, wp rfl trivial, wp rfl trivial, trivial⟩
       show _ = rowL (A ++ exS x 0) 1
       rw [show exS x 0 = [] from rfl, List.append_nil]
      ·refine ⟨bk rfl rfl, ⟨?_, ltb rfl⟩, trivial⟩
       show _ = some (Blk.row (A ++ exS x 0).length)
       rw [show exS x 0 = [] from rfl, List.append_nil]
       rfl
      ·intro q hq _
       have hql := exS_length x q
       have hlm : (A ++ exS x q).length < 5000 := by rw [List.length_append]; omega
       refine Ex.mk _ (jx_versions (r := r) rfl hvr) ?_
       refine Ex.mk _ rfl ?_
       refine If.mk (fun h3 => ?_) (fun h3 => ?_)
       ·refine ifY ?_
        have h3' : ((q : Nat) : Int) - 1 < (v.length : Nat) := h3
        refine Ex.mk _ (jx_lists (r := k) rfl hx) ?_
        refine Ex.mk _ rfl ?_
        by_cases hx0 : x = []
        ·subst hx0
         refine Ex.mk _ rfl ?_
         refine Ex.mk _ rfl ?_
         refine ex_app _ _ (app_list (List.length_map _) (by omega) rfl rfl) ?_
         refine Side.mk (fits64 (by omega)) ?_
         refine ⟨leb rfl, rfl, by omega, trivial, ⟨wp rfl (ltb rfl), ⟨_, rfl, Weak.refl _ _, under_eLists _ _⟩, wp rfl trivial, ⟨_, rfl, ?_, under_rowL _ (ltb rfl) _⟩, wp rfl trivial, ⟨_, rfl, Weak.of_eq (congrArg n' (by omega)), trivial⟩, trivial⟩, ⟨bk rfl rfl, ⟨?_, ltb rfl⟩, trivial⟩, ⟨_, rfl, trivial⟩, trivial⟩
         ·rw [exS_succ, ← List.append_assoc]
          exact wk_rowS fun H => wk_snocZ (x := []) H
         ·rw [exS_succ, ← List.append_assoc]
          exact row_one
        ·refine ex_app _ _ (app_nilI hx0 (by omega)) ?_
         refine ex_app _ _ (app_int (List.length_map _) (by omega) rfl) ?_
         refine ex_app _ _ (app_list (List.length_map _) (by omega) rfl rfl) ?_
         refine Side.mk (fits64 (by omega)) ?_
         refine ⟨leb rfl, rfl, by omega, trivial, ⟨wp rfl (ltb rfl), ⟨_, rfl, Weak.refl _ _, under_eLists _ _⟩, wp rfl trivial, ⟨_, rfl, ?_, under_rowL _ (ltb rfl) _⟩, wp rfl trivial, ⟨_, rfl, Weak.of_eq (congrArg n' (by omega)), trivial⟩, trivial⟩, ⟨bk rfl rfl, ⟨?_, ltb rfl⟩, trivial⟩, ⟨_, rfl, trivial⟩, trivial⟩
         ·rw [exS_succ, ← List.append_assoc]
          exact wk_rowS fun H => wk_snocZ H
         ·rw [exS_succ, ← List.append_assoc]
          exact row_one
       ·refine ifN ?_
        have h3' : ¬ ((q : Nat) : Int) - 1 < (v.length : Nat) := h3
        obtain rfl : q = v.length + 1 := by omega
        refine ⟨leb rfl, ?_⟩
        refine Side.mk (fits64 (by omega)) ?_
        have e5 : exA (L.take (k + 1)) (v.length + 1) = A ++ exS x (v.length + 1) := by rw [htk, exA_snoc, hA]
        refine ⟨leb rfl, rfl, by omega, trivial, ⟨wp rfl (ltb rfl), ⟨_, rfl, Weak.refl _ _, under_eLists _ _⟩, wp rfl trivial, ⟨_, rfl, Weak.of_eq (?_), under_rowL _ (ltb rfl) _⟩, wp rfl trivial, trivial⟩, ⟨bk rfl rfl, ⟨?_, ltb rfl⟩, trivial⟩, ⟨_, rfl, trivial⟩, trivial⟩
        ·rw [e5]
        ·rw [e5]; rfl
     ·refine ifN ?_
      obtain rfl : k = L.length := by omega
      refine ⟨leb rfl, ?_⟩
      rw [List.take_length]
      refine Side.mk (fits64 (by omega)) ?_
      refine ⟨leb rfl, rfl, by omega, trivial, ⟨wp rfl (ltb rfl), ⟨_, rfl, ?_, under_eLists _ _⟩, wp rfl trivial, trivial⟩, ⟨bk rfl rfl, trivial⟩, trivial⟩
      rw [hnext]
      exact fun n H hH => WeakH.tail _ _ _ H
   ·refine ifN ?_
    obtain rfl : r = b.vs.length := by omega
    refine ⟨leb rfl, .inl rfl, FinG.mk _ rfl rfl ?_⟩
    show AV.sl _ (AV.freezes _ ((allL b.vs b.vs.length).map eInts)) .unk = _
    rw [freezes_map (fun _ => freeze_eInts _ _)]
    rfl
end Go.Vm

namespace Go.Vm
open Go.Proofs
def tabC (N : Nat) (τ : Tab) : List AV := cellsR N fun i => n' ((τ i : Nat) : Int)
theorem under_tabC (n N : Nat) (τ : Tab) : AV.unders n (tabC N τ) := under_cellsR fun _ => by unfold n'; trivial
def wstR (vs : List Vers) (τ : Tab) (l : List Int) (c r : Nat) : Nat := maxL (kT τ) (((List.range r).map fun t => spL vs c t l).filter someL)
theorem wstR_succ (vs : List Vers) (τ : Tab) (l : List Int) (c r : Nat) : wstR vs τ l c (r + 1) = if someL (spL vs c r l) = true then max (wstR vs τ l c r) (kT τ (spL vs c r l)) else wstR vs τ l c r := by
 unfold wstR
 rw [List.range_succ, List.map_append, List.filter_append, List.map_cons, List.map_nil, List.filter_cons, List.filter_nil]
 by_cases h : someL (spL vs c r l) = true
 ·rw [if_pos h, if_pos h, maxL_snoc]
 ·rw [if_neg h, if_neg h, List.append_nil]
theorem max_n (a b : Nat) : AV.lit (.int .i64 (if ((b : Nat) : Int) > ((a : Nat) : Int) then ((b : Nat) : Int) else ((a : Nat) : Int))) = n' ((max a b : Nat) : Int) := by
 refine congrArg n' ?_
 split <;> omega
theorem min_n (a : Nat) : AV.lit (.int .i64 (if ((a : Nat) : Int) + 1 < 1000 then ((a : Nat) : Int) + 1 else 1000)) = n' ((min 1000 (a + 1) : Nat) : Int) := by
 refine congrArg n' ?_
 split <;> omega
set_option maxHeartbeats 4000000 in
set_option maxRecDepth 100000 in
theorem c_worst {b : Book} (hB : BOk b) {N : Nat} (hN : N = 625) {τ : Tab} (hτ : ∀ x ∈ allL b.vs b.vs.length, kT τ x ≤ 1000) {l : List Int} (hl : StL b.vs b.vs.length l) {c : Nat} (hc : c < b.cues.toNat) (H : List Blk) :
  ACall Tryz.prog 122 [eBook b, .sl N (tabC N τ) .unk, eInts l, n' c] H (.ret (.lit (.int .i64 (worstN (kT τ) (succL b.vs b.tunes.toNat) l c : Nat)))) H := by
 have G := hB.game
 have hn := G.hn
 have htu := hB.1.2.1
 unfold inI at htu
 refine fn_rule (m := false) (fn := Tryz.f122) (c := (Tryz.f122.body).getD .skip) mixed (by kernel_rfl) (by kernel_rfl) (of_decide_eq_true (by kernel_rfl)) ?_ ?_ ?_ H
 ·exact ⟨under_eBook 0 _, ⟨under_tabC 0 _ _, trivial⟩, under_eInts 0 _, trivial, trivial⟩
 ·trivial
 ·refine LoopG.at (n0 := 1) rfl (loop_up mixed (m := false) (fun r => [(1, .sl N (tabC N τ) .unk), (2, eInts l), (3, n' c), (4, .ptr 0 0), (9, n' (wstR b.vs τ l c r : Nat)), (10, n' r)]) (fun _ => [(0, bBox b)]) (fun r => wstR b.vs τ l c r ≤ 1000) b.tunes.toNat 1 (leb rfl) (Nat.zero_le _) ?_ ?_ ?_)
  ·exact ⟨⟨_, rfl, Weak.refl _ _, ⟨under_tabC _ _ _, trivial⟩⟩, ⟨_, rfl, Weak.refl _ _, under_eInts _ _⟩, wp rfl trivial, wp rfl (ltb rfl), wp rfl trivial, wp rfl trivial, trivial⟩
  ·exact ⟨bk rfl rfl, trivial⟩
  ·intro r hr hI
   refine If.mk (fun h1 => ?_) (fun h1 => ?_)
   ·refine ifY ?_
    have hS := G.spL_ok (t := r) hl hc
    have hSl := hS.1
    have hmem := (allL_mem (Nat.le_refl _)).2 hS
    have hsm := G.stSmall hS
    have hch := G.ch_lt hS
    have hk := hτ _ hmem
    have hsucc := wstR_succ b.vs τ l c r
    refine CallG.pure _ (c_split hB hl hc r) ?_
    refine CallG.bool (c_none (by omega)) (fun h2 => ?_) (fun h2 => ?_)
    ·refine ifN ?_
     rw [if_neg (by rw [h2]; decide)] at hsucc
     refine Side.mk (fits64 (by omega)) ?_
     refine ⟨leb rfl, rfl, by omega, (by show wstR b.vs τ l c (r + 1) ≤ 1000; rw [hsucc]; exact hI), ⟨⟨_, rfl, Weak.refl _ _, ⟨under_tabC _ _ _, trivial⟩⟩, ⟨_, rfl, Weak.refl _ _, under_eInts _ _⟩, wp rfl trivial, wp rfl (ltb rfl), ⟨_, rfl, Weak.of_eq (?_), trivial⟩, wp rfl trivial, trivial⟩, ⟨bk rfl rfl, trivial⟩, trivial⟩
     rw [hsucc]
    ·refine ifY ?_
     rw [if_pos (by simpa using h2)] at hsucc
     refine CallG.pure _ (c_choice (by omega) hsm) ?_
     refine Ex.mk _ (jx_cells (elem := 3) (r := chL (spL b.vs c r l)) rfl (by omega) (by kernel_rfl) (by kernel_rfl)) ?_
     refine Ex.mk _ rfl ?_
     refine Ex.mk _ rfl ?_
     refine Side.mk (fits64 (by omega)) ?_
     refine ⟨leb rfl, rfl, by omega, ?_, ⟨⟨_, rfl, Weak.refl _ _, ⟨under_tabC _ _ _, trivial⟩⟩, ⟨_, rfl, Weak.refl _ _, under_eInts _ _⟩, wp rfl trivial, wp rfl (ltb rfl), ⟨_, rfl, Weak.of_eq (?_), trivial⟩, wp rfl trivial, trivial⟩, ⟨bk rfl rfl, trivial⟩, trivial⟩
     ·show wstR b.vs τ l c (r + 1) ≤ 1000
      rw [hsucc]; omega
     ·rw [hsucc]
      exact max_n _ _
   ·refine ifN ?_
    obtain rfl : r = b.tunes.toNat := by omega
    refine ⟨leb rfl, ?_⟩
    refine Side.mk (fits64 (by omega)) ?_
    refine Ex.mk _ rfl ?_
    refine ⟨.inl rfl, FinG.mk _ rfl rfl ?_⟩
    exact min_n _
end Go.Vm

namespace Go.Vm
open Go.Proofs
theorem fn_ruleHE {P : Program} {m : Bool} {f : FuncId} {fn : Func} {c : Code} {args : List AV} (Pr : AV → Prop) (hm : P.follows .mixedOrders = true) (hf : P.funcs[f]? = some fn) (hb : fn.body = some c) (hn : args.length ≤ fn.ntmps)
  (ha : AV.unders 0 args)
  (h : gCode P m fn.ntmps none c (initVars 0 args) .nil 0 [] noLo fun x e _ => (x = .ret ∨ x = .normal) ∧ e.defs = [] ∧ ∃ vs v, resT P (get e.t) e.vars fn.results.toList = some vs ∧ Frz (get e.t) (resV vs) v ∧ v.under 0 ∧ Pr v) : ∃ v, Pr v ∧ ∀ H, ACall P f args H (.ret v) H := by
 obtain ⟨x, e, lo, H', hH', hk', hrun, hx, hd, vs, v, hres, hfr, hv, hp⟩ := gCode_spec hm c _ _ _ _ _ _ h [] [] HT.nil (Keep.refl _ _)
 refine ⟨v, hp, fun H => ?_⟩
 have hcr : ACall P f args [] (.ret (resV vs)) H' := by
  rw [hd] at hrun
  exact ACall.intro_marks hf hb hn hrun hx List.nodup_nil (resT_sound hH' hres)
 have h1 : ACall P f args [] (.ret v) [] := by
  intro O ι w cs hR hargs
  refine (hcr O ι w cs hR hargs).mono ?_
  rintro e w' ⟨ι', hend, hR', hev, hnon⟩
  cases e with
  | panicked chain => exact hend.elim
  | outgrown => exact hend.elim
  | returned c =>
   have hev2 := hev.cut
   have hnon2 := hnon.cut
   refine ⟨cutι ι' 0, hfr O ⟨H', ι', w'⟩ hR' hH'.blk c hend, ⟨fun id b wm e => by simp [cutι] at e, fun i j b wm wm' ei _ => by simp [cutι] at ei, fun b x e => ⟨(hR'.out b x e).1, fun i wm h => by simp [cutι] at h⟩⟩, hev2, hnon2⟩
 exact ACall.frame_nil (r := .ret v) h1 ha hv H
def tabB (N : Nat) (τ : Tab) : Blk := .box (tabC N τ) 3
theorem under_tabB (n N : Nat) (τ : Tab) : (tabB N τ).under n := under_tabC n N τ
set_option maxRecDepth 100000 in
theorem load_tab {N y : Nat} {τ : Tab} (h : y < N) : loadA Tryz.prog 3 ((tabC N τ).drop (0 + y * 1)) = some (n' ((τ y : Nat) : Int)) := by
 obtain ⟨l, hl⟩ := cellsR_drop (f := fun i => n' ((τ i : Nat) : Int)) h
 unfold tabC
 rw [Nat.zero_add, Nat.mul_one, hl]
 rfl
theorem tab_set {N y : Nat} {τ : Tab} {v : Nat} (h : y < N) : (tabC N τ).take (0 + y * 1) ++ [n' ((v : Nat) : Int)] ++ (tabC N τ).drop (0 + y * 1 + 1) = tabC N (updT τ y v) := by
 rw [Nat.zero_add, Nat.mul_one]
 exact cellsR_set h (by unfold updT; simp) fun z hz => by unfold updT; simp [hz]
theorem tabC_length (N : Nat) (τ : Tab) : (tabC N τ).length = N := cellsR_length _ _
theorem tab0 (N : Nat) (a : Int) (h : a = N) : some (Blk.box (List.map AV.lit (zeros (Value.int .i64 0).cells.toList (Int.toNat a))) 3) = some (tabB N fun _ => 0) := by
 subst h
 rw [Int.toNat_natCast]
 unfold tabB tabC
 rw [show (Value.int .i64 0).cells.toList = [.int .i64 0] from rfl, zeros_cells]
 exact congrArg (fun l => some (Blk.box l 3)) (cellsR_congr fun y _ => rfl)
theorem iniT_yes {vs : List Vers} {K r : Nat} {U : List (List Int)} (h : baseL vs K (U.getD r [])) : iniT vs K U (r + 1) = updT (iniT vs K U r) (chL (U.getD r [])) 0 := by
 rw [iniT, if_pos h]
theorem iniT_no {vs : List Vers} {K r : Nat} {U : List (List Int)} (h : ¬ baseL vs K (U.getD r [])) : iniT vs K U (r + 1) = updT (iniT vs K U r) (chL (U.getD r [])) 1000 := by
 rw [iniT, if_neg h]
theorem updT_updT (τ : Tab) (i v w : Nat) : updT (updT τ i v) i w = updT τ i w := by
 funext j
 unfold updT
 by_cases h : j = i
 ·rw [if_pos h, if_pos h]
 ·rw [if_neg h, if_neg h, if_neg h]
set_option maxHeartbeats 16000000 in
set_option maxRecDepth 100000 in
theorem c_numbers {b : Book} (hB : BOk b) {N : Nat} (hN : N = 625) : ∃ τ, TabEnd b.vs b.cues.toNat b.tunes.toNat τ ∧ ∀ H, ACall Tryz.prog 120 [eBook b] H (.ret (.sl N (tabC N τ) .unk)) H := by
 have G := hB.game
 have hn := G.hn
 have hbc := hB.1.1
 unfold inI at hbc
 have hfew := G.few
 have key : ∃ v, (∃ τ, TabEnd b.vs b.cues.toNat b.tunes.toNat τ ∧ v = .sl N (tabC N τ) .unk) ∧ ∀ H, ACall Tryz.prog 120 [eBook b] H (.ret v) H := by
  refine fn_ruleHE (m := false) (fn := Tryz.f120) (c := (Tryz.f120.body).getD .skip) _ mixed (by kernel_rfl) (by kernel_rfl) (of_decide_eq_true (by kernel_rfl)) ?_ ?_
  ·exact ⟨under_eBook 0 _, trivial⟩
  refine CallG.pure _ (c_all hB) ?_
  have hmem : ∀ x, x ∈ allL b.vs b.vs.length ↔ StL b.vs b.vs.length x := fun x => allL_mem (Nat.le_refl _)
  obtain ⟨U, hU⟩ : ∃ U, U = allL b.vs b.vs.length := ⟨_, rfl⟩
  have hini := G.ini_nums
  have hrnd := fun τ0 h => G.rnd_end (τ0 := τ0) h
  have hrok := fun τ0 h i hi => G.rnd_ok (τ0 := τ0) h (i := i) hi
  rw [← hU] at hfew hmem hini hrnd hrok ⊢
  have hget : ∀ {r : Nat} {x : List Int}, U[r]? = some x → U.getD r [] = x := fun {r x} h => by simp [List.getD, h]
  refine LoopG.at (n0 := 2) rfl (loop_up mixed (m := false) (fun r => [(1, .ptr 0 0), (3, .hsl 1 0 N N), (4, eLists U), (5, n' r)]) (fun r => [(0, bBox b), (1, tabB N (iniT b.vs b.cues.toNat U r))]) (fun _ => True) U.length 1 (leb rfl) trivial ?_ ?_ ?_)
  ·exact ⟨wp rfl (ltb rfl), ⟨_, rfl, by rw [hN]; exact Weak.refl _ _, ltb rfl⟩, ⟨_, rfl, Weak.refl _ _, under_eLists _ _⟩, wp rfl trivial, trivial⟩
  ·exact ⟨bk rfl rfl, ⟨tab0 N _ (by rw [hN]; rfl), ltb rfl⟩, trivial⟩
  ·intro r hr _
   refine If.mk (fun h1 => ?_) (fun h1 => ?_)
   ·refine ifY ?_
    obtain ⟨x, hx, _, hxm⟩ := at_some (l := U) (r := r) (by omega)
    have hS := (hmem x).1 hxm
    have hSl := hS.1
    have hsm := G.stSmall hS
    have hch := G.ch_lt hS
    have hgx := hget hx
    have hy := iniT_yes (vs := b.vs) (K := b.cues.toNat) (U := U) (r := r)
    have hno := iniT_no (vs := b.vs) (K := b.cues.toNat) (U := U) (r := r)
    rw [hgx] at hy hno
    generalize iniT b.vs b.cues.toNat U r = τ at *
    refine Ex.mk _ (jx_lists (r := r) rfl hx) ?_
    refine Ex.mk _ rfl ?_
    refine CallG.pure _ (c_choice (by omega) hsm) ?_
    have hkey : ((chL x : Nat) : Int) = ((chL x : Nat) : Int) := rfl
    refine NowR.of (aop_indexH (elem := 3) (sz := 1) (r := chL x) rfl rfl rfl hkey (by omega) (by kernel_rfl) (by kernel_rfl)) ?_
    refine NowR.of (aop_stP (t := 3) rfl rfl rfl (store_ptr (cells' := tabC N (updT τ (chL x) 1000)) rfl (by kernel_rfl) (by rw [tabC_length]; omega) rfl rfl (tab_set (by omega)))) ?_
    refine Ex.mk _ (jx_lists (r := r) rfl hx) ?_
    refine Ex.mk _ rfl ?_
    refine CallG.bool (c_settledR hB hSl) (fun h2 => ?_) (fun h2 => ?_)
    ·have hb := (BD_iff G hSl).1 h2
     have hnext := hy hb
     refine ifY ?_
     refine Ex.mk _ (jx_lists (r := r) rfl hx) ?_
     refine Ex.mk _ rfl ?_
     refine CallG.pure _ (c_choice (by omega) hsm) ?_
     refine NowR.of (aop_indexH (elem := 3) (sz := 1) (r := chL x) rfl rfl rfl hkey (by omega) (by kernel_rfl) (by kernel_rfl)) ?_
     refine NowR.of (aop_stP (t := 3) rfl rfl rfl (store_ptr (cells' := tabC N (updT (updT τ (chL x) 1000) (chL x) 0)) rfl (by kernel_rfl) (by rw [tabC_length]; omega) rfl rfl (tab_set (by omega)))) ?_
     refine Side.mk (fits64 (by omega)) ?_
     refine ⟨leb rfl, rfl, by omega, trivial, ⟨wp rfl (ltb rfl), wp rfl (ltb rfl), ⟨_, rfl, Weak.refl _ _, under_eLists _ _⟩, wp rfl trivial, trivial⟩, ⟨bk rfl rfl, ⟨?_, ltb rfl⟩, trivial⟩, ?_⟩
     ·rw [hnext, ← updT_updT τ (chL x) 1000 0]; rfl
     ·exact ⟨⟨_, rfl, under_tabB _ N _⟩, trivial⟩
    ·have hb : ¬ baseL b.vs b.cues.toNat x := fun h => h2 ((BD_iff G hSl).2 h)
     have hnext := hno hb
     refine ifN ?_
     refine Side.mk (fits64 (by omega)) ?_
     refine ⟨leb rfl, rfl, by omega, trivial, ⟨wp rfl (ltb rfl), wp rfl (ltb rfl), ⟨_, rfl, Weak.refl _ _, under_eLists _ _⟩, wp rfl trivial, trivial⟩, ⟨bk rfl rfl, ⟨?_, ltb rfl⟩, trivial⟩, ?_⟩
     ·rw [hnext]; rfl
     ·exact ⟨⟨_, rfl, under_tabB _ N _⟩, trivial⟩
   ·refine ifN ?_
    obtain rfl : r = U.length := by omega
    refine ⟨leb rfl, ?_⟩
    refine LoopG.at (n0 := 2) rfl (loop_r mixed (m := false) (α := { s : Tab × Bool // Nums (baseL b.vs b.cues.toNat) (succL b.vs b.tunes.toNat) b.cues.toNat U (kT s.1) ∧ (s.2 = false → TabEnd b.vs b.cues.toNat b.tunes.toNat s.1) }) (fun a => [(1, .ptr 0 0), (3, .hsl 1 0 N N), (4, eLists U), (6, nb a.1.2)]) (fun a => [(0, bBox b), (1, tabB N a.1.1)]) (fun a => 2 * sumT U a.1.1 + (if a.1.2 = true then 1 else 0)) 1 ⟨(iniT b.vs b.cues.toNat U U.length, true), hini, fun h => by cases h⟩ (leb rfl) ?_ ?_ ?_)
    ·exact ⟨wp rfl (ltb rfl), wp rfl (ltb rfl), ⟨_, rfl, Weak.refl _ _, under_eLists _ _⟩, wp rfl trivial, trivial⟩
    ·exact ⟨bk rfl rfl, bk rfl rfl, trivial⟩
    ·rintro ⟨⟨τ, ch⟩, hnum, hend⟩
     have hnum : Nums (baseL b.vs b.cues.toNat) (succL b.vs b.tunes.toNat) b.cues.toNat U (kT τ) := hnum
     cases ch with
     | false =>
      have hend : TabEnd b.vs b.cues.toNat b.tunes.toNat τ := hend rfl
      refine ifN ?_
      refine ⟨leb rfl, ?_⟩
      refine ⟨.inl rfl, rfl, _, .sl N (tabC N τ) .unk, rfl, Frz.hsl rfl (tabC_length _ _) (tabC_length _ _) (FrzL.cells fun _ _ => Frz.keep (by unfold n'; trivial)), ⟨under_tabC 0 _ _, trivial⟩, τ, hend, rfl⟩
     | true =>
      refine ifY ?_
      have hr1 := hrok τ hnum
      have hr2 := hrnd τ hnum
      refine LoopG.at (n0 := 2) rfl (loop_up mixed (m := false) (fun i => [(1, .ptr 0 0), (3, .hsl 1 0 N N), (4, eLists U), (6, nb (rndT b.vs b.cues.toNat b.tunes.toNat U (τ, false) i).2), (7, n' i)]) (fun i => [(0, bBox b), (1, tabB N (rndT b.vs b.cues.toNat b.tunes.toNat U (τ, false) i).1)]) (fun _ => True) U.length 1 (leb rfl) trivial ?_ ?_ ?_)
      ·exact ⟨wp rfl (ltb rfl), wp rfl (ltb rfl), ⟨_, rfl, Weak.refl _ _, under_eLists _ _⟩, wp rfl trivial, wp rfl trivial, trivial⟩
      ·exact ⟨bk rfl rfl, bk rfl rfl, trivial⟩
      ·intro i hi _
       have hri := hr1 i hi
       refine If.mk (fun h1 => ?_) (fun h1 => ?_)
       ·refine ifY ?_
        obtain ⟨x, hx, _, hxm⟩ := at_some (l := U) (r := i) (by omega)
        have hS := (hmem x).1 hxm
        have hSl := hS.1
        have hsm := G.stSmall hS
        have hch := G.ch_lt hS
        have hgx := hget hx
        have hnext : rndT b.vs b.cues.toNat b.tunes.toNat U (τ, false) (i + 1) = rowT b.vs b.tunes.toNat x (rndT b.vs b.cues.toNat b.tunes.toNat U (τ, false) i) b.cues.toNat := by
         show rowT _ _ (U.getD i []) _ _ = _
         rw [hgx]
        have hrow := fun c hc => (G.row_ok (τ0 := τ) hri.1 (x := x) (by rw [← hU]; exact hxm) (c := c) hc).1
        generalize rndT b.vs b.cues.toNat b.tunes.toNat U (τ, false) i = s at *
        refine Ex.mk _ (jx_lists (r := i) rfl hx) ?_
        refine Ex.mk _ rfl ?_
        refine CallG.pure _ (c_choice (by omega) hsm) ?_
        refine LoopG.at (n0 := 2) rfl (loop_up mixed (m := false) (fun c => [(1, .ptr 0 0), (3, .hsl 1 0 N N), (4, eLists U), (6, nb (rowT b.vs b.tunes.toNat x s c).2), (7, n' i), (8, n' (chL x : Nat)), (9, n' c)]) (fun c => [(0, bBox b), (1, tabB N (rowT b.vs b.tunes.toNat x s c).1)]) (fun _ => True) b.cues.toNat 1 (leb rfl) trivial ?_ ?_ ?_)
        ·exact ⟨wp rfl (ltb rfl), wp rfl (ltb rfl), ⟨_, rfl, Weak.refl _ _, under_eLists _ _⟩, wp rfl trivial, wp rfl trivial, wp rfl trivial, wp rfl trivial, trivial⟩
        ·exact ⟨bk rfl rfl, bk rfl rfl, trivial⟩
        ·intro c hc _
         have hrc := hrow c hc
         have hsucc : rowT b.vs b.tunes.toNat x s (c + 1) = cueT b.vs b.tunes.toNat x (rowT b.vs b.tunes.toNat x s c) c := rfl
         generalize hq0 : rowT b.vs b.tunes.toNat x s c = q at *
         obtain ⟨σ, ch⟩ := q
         have hle : ∀ y ∈ allL b.vs b.vs.length, kT σ y ≤ 1000 := hrc.nums.le
         have hlx : kT σ x ≤ 1000 := hle x (by rw [← hU]; exact hxm)
         refine If.mk (fun h2 => ?_) (fun h2 => ?_)
         ·refine ifY ?_
          refine Ex.mk _ (jx_lists (r := i) rfl hx) ?_
          refine Ex.mk _ rfl ?_
          refine CallG.borrow _ (id := 1) (N := N) (cells := tabC N σ) rfl (under_tabC 0 N σ) (tabC_length N σ) (.same (under_eBook 0 _) (.this (.same (under_eInts 0 _) (.same trivial .nil)))) (c_worst hB hN hle hS (by omega)) ?_
          have hkey : ((chL x : Nat) : Int) = ((chL x : Nat) : Int) := rfl
          have hwl : worstN (kT σ) (succL b.vs b.tunes.toNat) x c ≤ 1000 := Nat.min_le_left _ _
          refine NowR.of (aop_indexH (elem := 3) (sz := 1) (r := chL x) rfl rfl rfl hkey (by omega) (by kernel_rfl) (by kernel_rfl)) ?_
          refine NowR.of (aop_loadP rfl rfl rfl (load_tab (by omega))) ?_
          refine If.mk (fun h3 => ?_) (fun h3 => ?_)
          ·have h3' : worstN (kT σ) (succL b.vs b.tunes.toNat) x c < kT σ x := Int.ofNat_lt.1 h3
           have hq : rowT b.vs b.tunes.toNat x s (c + 1) = (updT σ (chL x) (worstN (kT σ) (succL b.vs b.tunes.toNat) x c), true) := by
            rw [hsucc]
            exact if_pos h3'
           refine ifY ?_
           apply gOps_now
           case hw => rfl
           case hd => rfl
           case hs => rfl
           case hn => exact fun _ => rfl
           case ha => exact rfl
           apply gOps_now
           case hw => rfl
           case hd => rfl
           case hs => rfl
           case hn => exact fun _ => rfl
           case ha => exact rfl
           apply gOps_now
           case hw => rfl
           case hd => rfl
           case hs => rfl
           case hn => exact fun _ => rfl
           case ha => exact rfl
           apply gOps_now
           case hw => rfl
           case hd => rfl
           case hs => rfl
           case hn => exact fun _ => rfl
           case ha => exact aop_indexH (elem := 3) (sz := 1) (r := chL x) rfl rfl rfl hkey (by omega) (by kernel_rfl) (by kernel_rfl)
           apply gOps_st
           case hw => rfl
           case hd => rfl
           case hn => exact fun _ => rfl
           case ha => exact aop_stP (t := 3) rfl rfl rfl (store_ptr (cells' := tabC N (updT σ (chL x) (worstN (kT σ) (succL b.vs b.tunes.toNat) x c))) rfl (by kernel_rfl) (by rw [tabC_length]; omega) rfl rfl (tab_set (by omega)))
           case hl => exact fun _ => rfl
           refine Side.mk (fits64 (by omega)) ?_
           refine ⟨leb rfl, rfl, by omega, trivial, ⟨wp rfl (ltb rfl), wp rfl (ltb rfl), ⟨_, rfl, Weak.refl _ _, under_eLists _ _⟩, ⟨_, rfl, Weak.of_eq (?_), trivial⟩, wp rfl trivial, wp rfl trivial, wp rfl trivial, trivial⟩, ⟨bk rfl rfl, ⟨?_, ltb rfl⟩, trivial⟩, ?_⟩
           ·rw [hq]; rfl
           ·rw [hq]; rfl
           ·exact ⟨⟨_, rfl, under_tabB _ N _⟩, trivial⟩
          ·have h3' : ¬ worstN (kT σ) (succL b.vs b.tunes.toNat) x c < kT σ x := fun h => h3 (Int.ofNat_lt.2 h)
           have hq : rowT b.vs b.tunes.toNat x s (c + 1) = (σ, ch) := by
            rw [hsucc]
            exact if_neg h3'
           refine ifN ?_
           refine Side.mk (fits64 (by omega)) ?_
           refine ⟨leb rfl, rfl, by omega, trivial, ⟨wp rfl (ltb rfl), wp rfl (ltb rfl), ⟨_, rfl, Weak.refl _ _, under_eLists _ _⟩, ⟨_, rfl, Weak.of_eq (?_), trivial⟩, wp rfl trivial, wp rfl trivial, wp rfl trivial, trivial⟩, ⟨bk rfl rfl, ⟨?_, ltb rfl⟩, trivial⟩, ?_⟩
           ·rw [hq]
           ·rw [hq]; rfl
           ·trivial
         ·refine ifN ?_
          obtain rfl : c = b.cues.toNat := by omega
          refine ⟨leb rfl, ?_⟩
          refine Side.mk (fits64 (by omega)) ?_
          refine ⟨leb rfl, rfl, by omega, trivial, ⟨wp rfl (ltb rfl), wp rfl (ltb rfl), ⟨_, rfl, Weak.refl _ _, under_eLists _ _⟩, ⟨_, rfl, Weak.of_eq (?_), trivial⟩, wp rfl trivial, trivial⟩, ⟨bk rfl rfl, ⟨?_, ltb rfl⟩, trivial⟩, ?_⟩
          ·rw [hnext, hq0]
          ·rw [hnext, hq0]; rfl
          ·exact ⟨⟨_, rfl, under_tabB _ N _⟩, trivial⟩
       ·refine ifN ?_
        obtain rfl : i = U.length := by omega
        refine ⟨leb rfl, ?_⟩
        have hn1 := hri.1.nums
        rw [← hU] at hn1
        have hl1 := hri.1.lt
        rw [← hU] at hl1
        refine ⟨leb rfl, rfl, ⟨rndT b.vs b.cues.toNat b.tunes.toNat U (τ, false) U.length, hn1, fun h => by
         obtain ⟨e, he⟩ := hr2 h
         rw [e]; exact he⟩, ?_, ⟨wp rfl (ltb rfl), wp rfl (ltb rfl), ⟨_, rfl, Weak.refl _ _, under_eLists _ _⟩, wp rfl trivial, trivial⟩, ⟨bk rfl rfl, bk rfl rfl, trivial⟩, ?_⟩
        ·show 2 * sumT U (rndT b.vs b.cues.toNat b.tunes.toNat U (τ, false) U.length).1 + (if (rndT b.vs b.cues.toNat b.tunes.toNat U (τ, false) U.length).2 = true then 1 else 0) < 2 * sumT U τ + 1
         cases h : (rndT b.vs b.cues.toNat b.tunes.toNat U (τ, false) U.length).2 with
         | true =>
          have := hl1 h
          simp
          omega
         | false =>
          rw [hri.1.same h]
          simp
        ·exact ⟨⟨_, rfl, under_tabB _ N _⟩, trivial⟩
 obtain ⟨v, ⟨τ, h1, rfl⟩, h2⟩ := key
 exact ⟨τ, h1, h2⟩
end Go.Vm

namespace Go.Vm
open Go.Proofs
def askV : Option (Option (Nat × Nat)) → AV
 | some none => .tup [n' (-1), n' 0]
 | some (some (c, n)) => .tup [n' c, n' n]
 | none => .tup [n' (-1), n' 1000]
def stL (vs : List Vers) (L : List Int) (l : List Nat) : List Int := (List.range vs.length).map fun n => erI vs L l n
theorem stL_length (vs : List Vers) (L : List Int) (l : List Nat) : (stL vs L l).length = vs.length := by unfold stL; rw [List.length_map, List.length_range]
theorem stL_get {vs : List Vers} {L : List Int} {l : List Nat} (hL : ∀ n : Nat, (n : Int) ∈ L → n < vs.length) (n : Nat) : (stL vs L l).getD n (-1) = erI vs L l n := by
 unfold stL
 rcases Nat.lt_or_ge n vs.length with h | h
 ·simp [List.getD, h]
 ·have e : erI vs L l n = -1 := if_neg fun hm => by have := hL n hm; omega
  rw [e]
  simp [List.getD, h]
theorem stL_toP {vs : List Vers} {L : List Int} {l : List Nat} (hL : ∀ n : Nat, (n : Int) ∈ L → n < vs.length) : toP (stL vs L l) = stP vs L l := by
 refine at4_ext fun n hn => ?_
 rw [at4_toP hn, at4_st hn, stL_get hL]
def stC (vs : List Vers) (L : List Int) (l : List Nat) : List AV := cellsR vs.length fun n => n' (erI vs L l n)
theorem stC_eq (vs : List Vers) (L : List Int) (l : List Nat) : eInts (stL vs L l) = .sl vs.length (stC vs L l) .unk := by
 unfold eInts
 rw [stL_length]
 unfold stL stC cellsR
 rw [List.map_map]
 rfl
theorem under_stC (n : Nat) (vs : List Vers) (L : List Int) (l : List Nat) : AV.unders n (stC vs L l) := under_cellsR fun _ => by unfold n'; trivial
theorem er_take {vs : List Vers} {L : List Int} {l : List Nat} {q : Nat} {j : Int} (hq : L[q]? = some j) (n : Nat) : erI vs (L.take (q + 1)) l n = if (n : Int) = j then ((after (vs.getD n []) 0 (cuesI l) : Nat) : Int) else erI vs (L.take q) l n := by
 unfold erI
 rw [show L.take (q + 1) = L.take q ++ [j] by rw [List.take_add_one, hq]; rfl]
 by_cases h : (n : Int) = j
 ·rw [if_pos h, if_pos (by simp [h])]
 ·rw [if_neg h]
  by_cases h2 : (n : Int) ∈ L.take q
  ·rw [if_pos h2, if_pos (by simp [h2])]
  ·rw [if_neg h2, if_neg (by simp [h2, h])]
set_option maxHeartbeats 8000000 in
set_option maxRecDepth 100000 in
theorem c_refAsk {b : Book} (hB : BOk b) {evs : List Evening} {l : List Nat} (hl : OkL b.cues.toNat l) (hlen : l.length < 1000) :
  ∃ o, AskR b.vs b.cues.toNat b.tunes.toNat (stP b.vs (remL b.vs evs b.vs.length) l) o ∧ ∀ H, ACall Tryz.prog 59 [eBook b, eInts (remL b.vs evs b.vs.length), eInts (cuesI l)] H (.ret (askV o)) H := by
 have G := hB.game
 have hn := G.hn
 have hbc := hB.1.1
 have hvn := hB.1.2.2
 unfold inI at hbc hvn
 have hcl := cuesI_length l
 have hLl := remL_length b.vs evs b.vs.length
 have hL4 : (remL b.vs evs b.vs.length).length < 1000 := by omega
 have hLm : ∀ j ∈ remL b.vs evs b.vs.length, 0 ≤ j ∧ j < b.vs.length := fun j hj => remL_mem hj
 have hLn : ∀ n : Nat, (n : Int) ∈ remL b.vs evs b.vs.length → n < b.vs.length := fun n h => (remL_iff.1 h).1
 have hP := G.st_ok hl evs
 obtain ⟨N, hN⟩ : ∃ N : Nat, N = 625 := ⟨_, rfl⟩
 obtain ⟨τ, hend, hnum⟩ := c_numbers hB hN
 have hS : StL b.vs b.vs.length (stL b.vs (remL b.vs evs b.vs.length) l) := ⟨stL_length _ _ _, fun n hn' => by
  rw [stL_get hLn, ← at4_st (by omega)]
  exact P4Ok_iff.1 hP n (by omega)⟩
 have hask := G.ask hend hS
 rw [stL_toP hLn] at hask
 generalize hL : remL b.vs evs b.vs.length = L at *
 have hsm := G.stSmall hS
 have hch := G.ch_lt hS
 have hle : ∀ y ∈ allL b.vs b.vs.length, kT τ y ≤ 1000 := hend.nums.le
 have hchc := fun H => c_choice (l := stL b.vs L l) (by rw [stL_length]; exact hn) hsm H
 have hwc := fun c hc H => c_worst hB hN hle hS (c := c) hc H
 have hlk := load_tab (N := N) (τ := τ) (y := chL (stL b.vs L l)) (by omega)
 rw [stC_eq] at hchc
 simp only [stC_eq] at hwc
 have hkT : kT τ (stL b.vs L l) = τ (chL (stL b.vs L l)) := rfl
 generalize hx : stL b.vs L l = x at *
 have hk : ∃ o, AskR b.vs b.cues.toNat b.tunes.toNat (stP b.vs L l) o ∧ ((kT τ x = 0 ∧ o = some none) ∨ (kT τ x = 1000 ∧ o = none) ∨ ∃ c, 0 < kT τ x ∧ kT τ x < 1000 ∧ c < b.cues.toNat ∧ worstN (kT τ) (succL b.vs b.tunes.toNat) x c = kT τ x ∧ (∀ d, d < c → worstN (kT τ) (succL b.vs b.tunes.toNat) x d ≠ kT τ x) ∧ o = some (some (c, kT τ x))) := by
  rcases hask with ⟨h0, hA⟩ | ⟨h0, hA⟩ | ⟨c0, h1, h2, h3, h4, h5, hA⟩
  ·exact ⟨_, hA, .inl ⟨h0, rfl⟩⟩
  ·exact ⟨_, hA, .inr (.inl ⟨h0, rfl⟩)⟩
  ·exact ⟨_, hA, .inr (.inr ⟨c0, h1, h2, h3, h4, h5, rfl⟩)⟩
 obtain ⟨o, hA, ho⟩ := hk
 refine ⟨o, hA, fun H => ?_⟩
 refine fn_rule (m := false) (fn := Tryz.f59) (c := (Tryz.f59.body).getD .skip) mixed (by kernel_rfl) (by kernel_rfl) (of_decide_eq_true (by kernel_rfl)) ?_ ?_ ?_ H
 ·exact ⟨under_eBook 0 _, under_eInts 0 _, under_eInts 0 _, trivial⟩
 ·rcases o with _ | _ | ⟨_, _⟩ <;> exact ⟨trivial, trivial, trivial⟩
 ·refine NowR.of (aop_makeSlice (k := b.vs.length) (e := 3) (bytes := 8) (x := .int .i64 0) (z := .int .i64 0) rfl rfl rfl rfl (by omega) (by kernel_rfl) (by kernel_rfl) (by kernel_rfl) (by kernel_rfl) rfl (by omega)) ?_
  refine LoopG.at (n0 := 2) rfl (loop_up mixed (m := false) (fun r => [(1, eInts L), (2, eInts (cuesI l)), (3, .ptr 0 0), (8, .hsl 1 0 b.vs.length b.vs.length), (9, n' r)]) (fun r => [(0, bBox b), (1, .box (cellsR b.vs.length fun j => n' (if j < r then -1 else 0)) 3)]) (fun _ => True) b.vs.length 1 (leb rfl) trivial ?_ ?_ ?_)
  ·exact ⟨⟨_, rfl, Weak.refl _ _, under_eInts _ _⟩, ⟨_, rfl, Weak.refl _ _, under_eInts _ _⟩, wp rfl (ltb rfl), wp rfl (ltb rfl), wp rfl trivial, trivial⟩
  ·exact ⟨bk rfl rfl, ⟨congrArg (fun l => some (Blk.box l 3)) (cellsR_congr fun y _ => by simp; rfl), ltb rfl⟩, trivial⟩
  ·intro r hr _
   refine If.mk (fun h1 => ?_) (fun h1 => ?_)
   ·refine ifY ?_
    have hr' : r < b.vs.length := by omega
    refine NowR.of (aop_indexH (elem := 3) (sz := 1) (r := r) rfl rfl rfl rfl hr' (by kernel_rfl) (by kernel_rfl)) ?_
    refine NowR.of (aop_stP (t := 3) rfl rfl rfl (store_ptr (cells' := cellsR b.vs.length fun j => n' (if j < r + 1 then -1 else 0)) rfl (by kernel_rfl) (by rw [cellsR_length]; omega) rfl rfl (by rw [Nat.zero_add, Nat.mul_one]; exact cellsR_set hr' (by simp [n']) fun y hy => by simp [show (y < r + 1) = (y < r) by apply propext; omega]))) ?_
    refine Side.mk (fits64 (by omega)) ?_
    refine ⟨leb rfl, rfl, by omega, trivial, ⟨⟨_, rfl, Weak.refl _ _, under_eInts _ _⟩, ⟨_, rfl, Weak.refl _ _, under_eInts _ _⟩, wp rfl (ltb rfl), wp rfl (ltb rfl), wp rfl trivial, trivial⟩, ⟨bk rfl rfl, bk rfl rfl, trivial⟩, ?_⟩
    exact ⟨⟨_, rfl, under_cellsR fun _ => by unfold n'; trivial⟩, trivial⟩
   ·refine ifN ?_
    obtain rfl : r = b.vs.length := by omega
    refine ⟨leb rfl, ?_⟩
    refine LoopG.at (n0 := 2) rfl (loop_up mixed (m := false) (fun q => [(1, eInts L), (2, eInts (cuesI l)), (3, .ptr 0 0), (8, .hsl 1 0 b.vs.length b.vs.length), (10, n' q)]) (fun q => [(0, bBox b), (1, .box (stC b.vs (L.take q) l) 3)]) (fun _ => True) L.length 1 (leb rfl) trivial ?_ ?_ ?_)
    ·exact ⟨⟨_, rfl, Weak.refl _ _, under_eInts _ _⟩, ⟨_, rfl, Weak.refl _ _, under_eInts _ _⟩, wp rfl (ltb rfl), wp rfl (ltb rfl), wp rfl trivial, trivial⟩
    ·exact ⟨bk rfl rfl, ⟨congrArg (fun l => some (Blk.box l 3)) (cellsR_congr fun y hy => by simp [hy, erI]), ltb rfl⟩, trivial⟩
    ·intro q hq _
     refine If.mk (fun h1 => ?_) (fun h1 => ?_)
     ·refine ifY ?_
      obtain ⟨j, hj, _, hjm⟩ := at_some (l := L) (r := q) (by omega)
      have hj' := hLm j hjm
      obtain ⟨hvn, hvm⟩ := vAt_of (vs := b.vs) (n := j.toNat) (by omega)
      have hV := hB.2 _ hvm
      refine Ex.mk _ (jx_ints (r := q) rfl hj) ?_
      refine Ex.mk _ rfl ?_
      refine Ex.mk _ (jx_ints (r := q) rfl hj) ?_
      refine Ex.mk _ rfl ?_
      refine Ex.mk _ (jx_versions (r := j.toNat) (by omega) hvn) ?_
      refine Ex.mk _ rfl ?_
      refine CallG.pure (n' (after (vAt b.vs j.toNat) 0 (cuesI l) : Nat)) (c_after hV.vers.1 hV.vers.2 (cuesI_ok hl) (by omega)) ?_
      refine NowR.of (aop_indexH (elem := 3) (sz := 1) (r := j.toNat) rfl rfl rfl (by omega) (by omega) (by kernel_rfl) (by kernel_rfl)) ?_
      refine NowR.of (aop_stP (t := 3) rfl rfl rfl (store_ptr (cells' := stC b.vs (L.take (q + 1)) l) rfl (by kernel_rfl) (by unfold stC; rw [cellsR_length]; omega) rfl rfl (by
       rw [Nat.zero_add, Nat.mul_one]
       refine cellsR_set (by omega) ?_ fun y hy => ?_
       ·show n' (erI b.vs (L.take (q + 1)) l j.toNat) = _
        rw [er_take hj, if_pos (by omega)]
        rfl
       ·show n' (erI b.vs (L.take (q + 1)) l y) = _
        rw [er_take hj, if_neg (by omega)]))) ?_
      refine Side.mk (fits64 (by omega)) ?_
      refine ⟨leb rfl, rfl, by omega, trivial, ⟨⟨_, rfl, Weak.refl _ _, under_eInts _ _⟩, ⟨_, rfl, Weak.refl _ _, under_eInts _ _⟩, wp rfl (ltb rfl), wp rfl (ltb rfl), wp rfl trivial, trivial⟩, ⟨bk rfl rfl, bk rfl rfl, trivial⟩, ?_⟩
      exact ⟨⟨_, rfl, under_cellsR fun _ => by unfold n'; trivial⟩, trivial⟩
     ·refine ifN ?_
      obtain rfl : q = L.length := by omega
      refine ⟨leb rfl, ?_⟩
      rw [List.take_length]
      refine CallG.pure _ (hnum) ?_
      refine CallG.borrow _ (id := 1) (N := b.vs.length) (cells := stC b.vs L l) rfl (under_stC 0 _ _ _) (cellsR_length _ _) (.this .nil) hchc ?_
      refine Ex.mk _ (jx_cells (elem := 3) (r := chL x) rfl (by omega) (by kernel_rfl) (by kernel_rfl)) ?_
      refine Ex.mk _ rfl ?_
      rcases ho with ⟨h0, rfl⟩ | ⟨h0, rfl⟩ | ⟨c0, h1, h2, h3, h4, h5, rfl⟩
      ·refine If.mk (fun _ => ?_) (fun h => absurd (by rw [← hkT, h0]; rfl) h)
       refine ifY ?_
       refine ⟨.inl rfl, FinG.mk _ rfl rfl ?_⟩
       show AV.tup [n' (-1), n' ((τ (chL x) : Nat) : Int)] = AV.tup [n' (-1), n' 0]
       rw [← hkT, h0]
       rfl
      ·refine If.mk (fun h => absurd h (by rw [← hkT, h0]; decide)) (fun _ => ?_)
       refine If.mk (fun _ => ?_) (fun h => absurd (by rw [← hkT, h0]; rfl) h)
       refine ifY ?_
       refine ⟨.inl rfl, FinG.mk _ rfl rfl ?_⟩
       show AV.tup [n' (-1), n' ((τ (chL x) : Nat) : Int)] = AV.tup [n' (-1), n' 1000]
       rw [← hkT, h0]
       rfl
      ·refine If.mk (fun h => absurd h (by rw [← hkT]; omega)) (fun _ => ?_)
       refine If.mk (fun h => absurd h (by rw [← hkT]; omega)) (fun _ => ?_)
       refine ifN ?_
       refine LoopG.at (n0 := 2) rfl (loop_up mixed (m := false) (fun c => [(3, .ptr 0 0), (8, .hsl 1 0 b.vs.length b.vs.length), (11, .sl N (tabC N τ) .unk), (12, n' ((τ (chL x) : Nat) : Int)), (13, n' c)]) (fun _ => [(0, bBox b), (1, .box (stC b.vs L l) 3)]) (fun c => ∀ d, d < c → worstN (kT τ) (succL b.vs b.tunes.toNat) x d ≠ kT τ x) b.cues.toNat 1 (leb rfl) (fun d h => by omega) ?_ ?_ ?_)
       ·exact ⟨wp rfl (ltb rfl), wp rfl (ltb rfl), ⟨_, rfl, Weak.refl _ _, ⟨under_tabC _ _ _, trivial⟩⟩, wp rfl trivial, wp rfl trivial, trivial⟩
       ·exact ⟨bk rfl rfl, bk rfl rfl, trivial⟩
       ·intro c hc hI
        refine If.mk (fun h6 => ?_) (fun h6 => ?_)
        ·refine ifY ?_
         have hc' : c < b.cues.toNat := by omega
         refine CallG.borrow _ (id := 1) (N := b.vs.length) (cells := stC b.vs L l) rfl (under_stC 0 _ _ _) (cellsR_length _ _) (.same (under_eBook 0 _) (.same ⟨under_tabC 0 _ _, trivial⟩ (.this (.same trivial .nil)))) (hwc c hc') ?_
         refine If.mk (fun h7 => ?_) (fun h7 => ?_)
         ·have h7' : worstN (kT τ) (succL b.vs b.tunes.toNat) x c = kT τ x := Int.ofNat_inj.1 h7
          have hcc : c = c0 := by
           rcases Nat.lt_trichotomy c c0 with h | h | h
           ·exact absurd h7' (h5 c h)
           ·exact h
           ·exact absurd h4 (hI c0 h)
          subst hcc
          refine ifY ?_
          exact ⟨leb rfl, .inl rfl, FinG.mk _ rfl rfl rfl⟩
         ·refine ifN ?_
          refine Side.mk (fits64 (by omega)) ?_
          refine ⟨leb rfl, rfl, by omega, fun d hd => ?_, ⟨wp rfl (ltb rfl), wp rfl (ltb rfl), ⟨_, rfl, Weak.refl _ _, ⟨under_tabC _ _ _, trivial⟩⟩, wp rfl trivial, wp rfl trivial, trivial⟩, ⟨bk rfl rfl, bk rfl rfl, trivial⟩, trivial⟩
          rcases Nat.lt_or_ge d c with h | h
          ·exact hI d h
          ·obtain rfl : d = c := by omega
           exact fun e => h7 (Int.ofNat_inj.2 e)
        ·refine ifN ?_
         obtain rfl : c = b.cues.toNat := by omega
         exact absurd h4 (hI c0 h3)
end Go.Vm
