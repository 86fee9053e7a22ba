/-
  Contracts of functions of packages kelirlaw04, kelirref04, kelirref02, cue and slices, for books, evenings and lists as told at each, in every heap. Conditions: at each theorem. (Dangers and fences, by a search by breadth.)
-/
import Derived.Test.YtdhdaadoehbopaaGreatDoorCo

/-
  A search by breadth over points (a state, and whether a tune was played): its data. (Own work.)
-/
namespace Go.Vm
open Go.Proofs

/-- A state, and whether the tune was played. -/
abbrev Pt := Nat × Bool
def flI (f : Bool) : Int := if f then 1 else 0
def ptA (p : Pt) : List AV := [n' (p.1 : Nat), n' (flI p.2)]
theorem under_ptA (n : Nat) (p : Pt) : AV.unders n (ptA p) := ⟨trivial, trivial, trivial⟩
def ptV (p : Pt) : Value := .agg #[.int .i64 (p.1 : Nat), .int .i64 (flI p.2)]
theorem ptV_inj {p q : Pt} : veq (ptV p) (ptV q) = true ↔ p = q := by
  obtain ⟨a, e⟩ := p
  obtain ⟨a', e'⟩ := q
  simp only [ptV, veq, veqs, Bool.and_true, Bool.and_eq_true, decide_eq_true_eq]
  refine ⟨fun ⟨h1, h2⟩ => ?_, fun h => by cases h; exact ⟨rfl, rfl⟩⟩
  obtain rfl : a = a' := by omega
  cases e <;> cases e' <;> first | rfl | (exfalso; simp [flI] at h2)

def ptE (met : List Pt) : List (Value × AV) := met.map fun p => (ptV p, tv)
theorem mlook_pt {p : Pt} : ∀ {met : List Pt}, mlook (ptE met) (ptV p) = if p ∈ met then some tv else none
  | [] => rfl
  | q :: met => by
    have ih := mlook_pt (p := p) (met := met)
    unfold mlook ptE at ih ⊢
    rw [List.map_cons, List.find?_cons]
    by_cases h : veq (ptV q) (ptV p) = true
    · have := ptV_inj.1 h
      subst this
      simp only [h, Option.map_some]
      rw [if_pos (by simp)]
    · have hne : ¬ q = p := fun e => h (ptV_inj.2 e)
      have h' : veq (ptV q) (ptV p) = false := by simpa using h
      simp only [h']
      rw [ih]
      by_cases hm : p ∈ met
      · rw [if_pos hm, if_pos (List.mem_cons_of_mem _ hm)]
      · rw [if_neg hm, if_neg fun e => (List.mem_cons.1 e).elim (fun e => hne e.symm) hm]
theorem mset_pt {p : Pt} : ∀ {met : List Pt}, p ∉ met → mset (ptE met) (ptV p) tv = ptE (met ++ [p])
  | [], _ => rfl
  | q :: met, h => by
    have hne : ¬ veq (ptV q) (ptV p) = true := fun e => h (by rw [ptV_inj.1 e]; simp)
    show (if veq (ptV q) (ptV p) = true then _ else (ptV q, tv) :: mset (ptE met) (ptV p) tv) = _
    rw [if_neg hne, mset_pt fun hm => h (List.mem_cons_of_mem _ hm)]
    rfl
theorem shOk_pt {p : Pt} (h : p.1 ≤ 1000) : shOk (.arr 2) (ptV p) = true := by
  have h1 : isI64 (.int .i64 (p.1 : Nat)) = true := isI64_small (by omega)
  have h2 : isI64 (.int .i64 (flI p.2)) = true := by cases p.2 <;> rfl
  simp only [ptV, shOk]
  simp only [List.all_cons, List.all_nil, h1, h2]
  rfl

theorem aop_lookupP {m : Bool} {g : Nat → Option Blk} {n : Nat} {ρ : Operand → Option AV} {o : Oper} {x k : Operand} {id : Nat} {p : Pt} {met : List Pt} (ho : o.op = .lookup 239 x k false) (hx : ρ x = some (.mp id)) (hk : ρ k = some (.agg (ptA p))) (hg : g id = some (.map (.arr 2) (ptE met))) (hp : p.1 ≤ 1000) :
    aopF Tryz.prog m g n ρ o = some (.val (.lit (.bool (decide (p ∈ met)))) .same) := by
  rw [aopF_fun]
  obtain ⟨dst, op, ty, pos, after, guard⟩ := o
  simp only at ho
  subst ho
  have ht : tmap Tryz.prog 239 = some (.arr 2, 141, 4) := by kernel_rfl
  have hz : tz Tryz.prog 4 = some (.bool false) := by kernel_rfl
  have hc : conc (.agg (ptA p)) = some (ptV p) := rfl
  simp only [aopT, hx, hk, ht, hc, hg, hz, mlook_pt]
  rw [if_pos ⟨rfl, shOk_pt hp⟩]
  by_cases hm : p ∈ met
  · rw [if_pos hm, decide_eq_true hm]; rfl
  · rw [if_neg hm, decide_eq_false hm]; rfl

theorem aop_updateP {m : Bool} {g : Nat → Option Blk} {n : Nat} {ρ : Operand → Option AV} {o : Oper} {x k y : Operand} {id : Nat} {p : Pt} {met : List Pt} (ho : o.op = .mapUpdate 239 x k y ∨ o.op = .insert 239 x k y) (hx : ρ x = some (.mp id)) (hk : ρ k = some (.agg (ptA p))) (hy : ρ y = some tv) (hg : g id = some (.map (.arr 2) (ptE met))) (hp : p.1 ≤ 1000) (hm : p ∉ met) :
    aopF Tryz.prog m g n ρ o = some (.val (.lit undef) (.set id (.map (.arr 2) (ptE (met ++ [p]))))) := by
  rw [aopF_fun]
  obtain ⟨dst, op, ty, pos, after, guard⟩ := o
  simp only at ho
  have ht : tmap Tryz.prog 239 = some (.arr 2, 141, 4) := by kernel_rfl
  have hc : conc (.agg (ptA p)) = some (ptV p) := rfl
  rcases ho with rfl | rfl
  · simp only [aopT, hx, hk, hy, ht, hc, hg, mset_pt hm]
    rw [if_pos ⟨rfl, shOk_pt hp⟩]
  · simp only [aopT, hx, hk, hy, ht, hc, hg, mset_pt hm]
    rw [if_pos ⟨rfl, shOk_pt hp⟩]

theorem pt_all {n : Nat} (hn : n ≤ 4) {p : Pt} (h : p.1 < n) : p ∈ prodL (List.range 4) r2 := prodL_mem (List.mem_range.2 (by omega)) (r2_mem _)
theorem pt_all_length : (prodL (List.range 4) r2).length = 8 := rfl

def wayP (w : Pt × List Nat) : List AV := ptA w.1 ++ [cuesA w.2]
def waysP (q : List (Pt × List Nat)) : List AV := q.flatMap wayP
theorem waysP_length : ∀ q : List (Pt × List Nat), (waysP q).length = q.length * 3
  | [] => rfl
  | w :: q => by
    have ih := waysP_length q
    unfold waysP at ih ⊢
    rw [List.flatMap_cons, List.length_append, ih, List.length_cons]
    show 3 + q.length * 3 = _
    omega
theorem waysP_snoc (q : List (Pt × List Nat)) (w : Pt × List Nat) : waysP (q ++ [w]) = waysP q ++ wayP w := by
  unfold waysP
  rw [List.flatMap_append, List.flatMap_cons, List.flatMap_nil, List.append_nil]
theorem under_waysP (n : Nat) : ∀ q : List (Pt × List Nat), AV.unders n (waysP q)
  | [] => trivial
  | w :: q => unders_append (unders_append (under_ptA n w.1) ⟨under_cuesA n w.2, trivial⟩) (under_waysP n q)

theorem jx_wayP {w : Pt × List Nat} {q : List (Pt × List Nat)} {tl : Tail} : indexOp Tryz.prog 242 (.sl (w :: q).length (waysP (w :: q)) tl) (.lit (.int .i64 0)) = some (.eptr (wayP w)) := by
  refine (indexOp_sl (elem := 241) (n := 3) (by kernel_rfl) (by kernel_rfl) ⟨by omega, by simp, by rw [waysP_length, List.length_cons]; omega, by omega⟩).trans ?_
  rfl

theorem aop_sliceP {m : Bool} {g : Nat → Option Blk} {n : Nat} {ρ : Operand → Option AV} {o : Oper} {x i : Operand} {w : Pt × List Nat} {q : List (Pt × List Nat)} {id gen : Nat} (ho : o.op = .slice 242 x (some i) none none) (hx : ρ x = some (.sl (w :: q).length (waysP (w :: q)) (.own id gen 3))) (hi : ρ i = some (n' 1)) :
    aopF Tryz.prog m g n ρ o = some (.val (.sl q.length (waysP q) (.own id gen 3)) .same) := by
  rw [aopF_fun]
  obtain ⟨dst, op, ty, pos, after, guard⟩ := o
  simp only at ho
  subst ho
  have hu : Tryz.prog.underlying 242 = some (.slice 241) := by kernel_rfl
  have hs : tsz Tryz.prog 241 = some 3 := by kernel_rfl
  have hl := waysP_length q
  have hlw := waysP_length (w :: q)
  have e : sliceA Tryz.prog 242 (.sl (w :: q).length (waysP (w :: q)) (.own id gen 3)) (some 1) none none = some (.sl q.length (waysP q) (.own id gen 3)) := by
    unfold sliceA
    simp only [hu, hs]
    rw [if_pos ⟨by simp, by simp, by simp, by simp, hlw, by omega⟩]
    have e1 : (waysP (w :: q)).drop (1 * 3) = waysP q := rfl
    simp only [Option.getD_some, Option.getD_none, List.length_cons, Nat.add_sub_cancel]
    rw [e1, List.take_of_length_le (by omega)]
    rfl
  have hn : natOf (some (n' 1)) = some (some 1) := by simp [natOf, n']
  have ha : ∀ H, aop Tryz.prog m H ρ { dst := dst, op := Op.slice 242 x (some i) none none, type := ty, pos := pos, after := after, guard := guard } = some (.val (.sl q.length (waysP q) (.own id gen 3)) H) := fun H => by
    simp only [aop, hx, Option.bind_some, hi, hn, Option.bind_none]
    simp only [natOf, e]
    rfl
  simp only [aopT]
  unfold plainT
  rw [ha]

theorem app_wayP {g : Nat → Option Blk} {n id gen : Nat} {q : List (Pt × List Nat)} {p : Pt} {x : AV} (h2 : q.length < 2097152) (hg : g id = some (.row gen)) (hx : x.one = true) :
    appT Tryz.prog false g n 242 242 (.sl q.length (waysP q) (.own id gen 3)) (.sl 1 (ptA p ++ [x]) .full) = some (.sl (q.length + 1) (waysP q ++ (ptA p ++ [x])) (.own id (gen + 1) 3), .set id (.row (gen + 1))) := by
  refine appT_own (e := 241) (bytes := 40) (z := .agg #[.int .i64 0, .int .i64 0, .slice none 0 0]) (by kernel_rfl) (by kernel_rfl) (by kernel_rfl) (by kernel_rfl) (by kernel_rfl) rfl (by omega) (by rw [waysP_length]) (by omega) hg ?_
  show (true && (true && (x.one && true))) = true
  rw [hx]; rfl

/-! ### What danger searches with -/
def nextD (v : Vers) (tune : Int) (w : List Int) (p : Pt) (c : Nat) : Pt := if (c : Int) ∈ w then p else ((mv v p.1 c).1.toNat, decide ((mv v p.1 c).2 = tune))

noncomputable def danL (b : Book) (tune : Int) (w : List Int) (v : Vers) : List (Nat × Blk) := [(0, bBox b), (1, .box [n' tune] 3), (2, .box [eInts w] 25), (3, vBox v)]
theorem danL_under (b : Book) (tune : Int) (w : List Int) (v : Vers) : ∀ B ∈ hp (danL b tune w v), B.under 4 := fun B hB => by
  obtain ⟨q, hq, rfl⟩ := List.mem_map.1 hB
  simp only [danL, List.mem_cons, List.not_mem_nil, or_false] at hq
  rcases hq with rfl | rfl | rfl | rfl
  · exact bBox_under _ _
  · exact ⟨trivial, trivial⟩
  · exact ⟨under_eInts _ _, trivial⟩
  · exact ⟨under_states _ _, trivial⟩

theorem HT.firstL {t : Trie Blk} {n : Nat} {H : List Blk} {L : List (Nat × Blk)} (hH : HT t n H) (hL : Numd 0 L) (hb : Blks (get t) noLo L) : ∃ H2, H = hp L ++ H2 := by
  have e0 : H.take L.length = hp L := take_full hL fun q hq => hH.blk _ _ (hb.mem q hq).1
  exact ⟨H.drop L.length, by rw [← e0, List.take_append_drop]⟩

set_option maxRecDepth 100000 in
theorem c_dgDone (p : Pt) (H : List Blk) : ACall Tryz.prog 180 [.agg (ptA p)] H (.ret (nb p.2)) H := by
  refine fn_rule (m := false) (fn := Tryz.f180) (c := (Tryz.f180.body).getD .skip) mixed (by kernel_rfl) (by kernel_rfl) (of_decide_eq_true (by kernel_rfl)) ?_ ?_ ?_ H
  · exact ⟨under_ptA 0 _, trivial⟩
  · trivial
  · obtain ⟨s, f⟩ := p
    cases f with
    | true =>
      refine If.mk (fun _ => ?_) (fun h => absurd (rfl) h)
      exact ⟨.inl rfl, FinG.mk _ rfl rfl rfl⟩
    | false =>
      refine If.mk (fun h => absurd h (by show ¬ ((0 : Int) = 1); decide)) (fun _ => ?_)
      exact ⟨.inl rfl, FinG.mk _ rfl rfl rfl⟩

set_option maxHeartbeats 4000000 in
set_option maxRecDepth 100000 in
theorem c_dgNext {b : Book} {v : Vers} {k c : Nat} (hv : VersOk v k) (hc : c < k) (tune : Int) (w : List Int) (hw : w.length ≤ 1000000) {p : Pt} (hp0 : p.1 < v.length) (H2 : List Blk) :
    ACall Tryz.prog 178 [.agg (ptA p), n' c, .ptr 2 0, .ptr 3 0, .ptr 1 0] (hp (danL b tune w v) ++ H2) (.ret (.agg (ptA (nextD v tune w p c)))) (hp (danL b tune w v) ++ H2) := by
  refine fn_pre (m := false) (fn := Tryz.f178) (c := (Tryz.f178.body).getD .skip) (t0 := ofL (danL b tune w v)) (n0 := 4) mixed (by kernel_rfl) (by kernel_rfl) (of_decide_eq_true (by kernel_rfl)) (HT.full (l := danL b tune w v) ⟨rfl, rfl, rfl, rfl, trivial⟩ rfl) ?_ (danL_under b tune w v) rfl ?_ H2
  · exact ⟨under_ptA 4 _, trivial, ltb rfl, ltb rfl, ltb rfl, trivial⟩
  obtain ⟨s, f⟩ := p
  obtain ⟨x, hx1, hx2, hx3, hx4⟩ := mv_at (s := s) (c := c) hv hp0 hc
  refine CallG.bool (c_contains w (c : Nat) (by omega)) (fun h => ?_) (fun h => ?_)
  · refine IfB.mk (fun _ => ?_) (fun e => by cases e)
    have e : nextD v tune w (s, f) c = (s, f) := if_pos h
    rw [e]
    exact ⟨.inl rfl, leb rfl, FinF.mk _ rfl rfl rfl⟩
  · refine IfB.mk (fun e => by cases e) (fun _ => ?_)
    have e : nextD v tune w (s, f) c = ((mv v s c).1.toNat, decide ((mv v s c).2 = tune)) := if_neg h
    refine CallG.pure _ (c_hears hx1 hx2) ?_
    refine If.mk (fun h1 => ?_) (fun h1 => ?_)
    · refine IfB.mk (fun _ => ?_) (fun e => by cases e)
      refine ⟨.inl rfl, leb rfl, FinF.mk _ rfl rfl ?_⟩
      rw [e, decide_eq_true h1]
      show AV.agg [n' (mv v s c).1, n' 1] = .agg [n' (((mv v s c).1.toNat : Nat) : Int), n' 1]
      rw [hx4]
    · refine IfB.mk (fun e => by cases e) (fun _ => ?_)
      refine ⟨.inl rfl, leb rfl, FinF.mk _ rfl rfl ?_⟩
      rw [e, decide_eq_false h1]
      show AV.agg [n' (mv v s c).1, n' 0] = .agg [n' (((mv v s c).1.toNat : Nat) : Int), n' 0]
      rw [hx4]
end Go.Vm

/-
  A search by breadth over points: its walk. (Own work.)
-/
namespace Go.Vm
open Go.Proofs

abbrev nxD : AV := .fn (.func 178) [] [.ptr 2 0, .ptr 3 0, .ptr 1 0]
abbrev dnD : AV := .lit (.func (.func 180) #[] #[])

/-- What the search knows: what waits, what was met, how often it was appended to. -/
structure BfP where
  q : List (Pt × List Nat)
  met : List Pt
  g : Nat

def BdP (v : Vers) (s : BfP) : Prop := s.met.Nodup ∧ (∀ p ∈ s.met, p.1 < v.length) ∧ s.q.length ≤ s.met.length ∧ (∀ w ∈ s.q, w.2.length < s.met.length ∧ w.1.1 < v.length)

theorem BdP.le {v : Vers} (hs : v.length ≤ 4) {s : BfP} (h : BdP v s) : s.met.length ≤ 8 := by
  rw [← pt_all_length]
  exact nodup_length h.1 fun p hp => pt_all hs (h.2.1 p hp)

theorem wk_beginP {t : Trie Blk} {st : Pt} (hr : get t 6 = some (.row 0)) : Weak t (.sl 1 (ptA st ++ [.lit (.slice none 0 0)]) .full) (.sl 1 (waysP [(st, [])]) (.own 6 0 3)) := fun n H hH O ι w c h => by
  have h1 := WeakH.fullOwnN (H := H) (r := 6) (len := 1) (sz := 3) (cells := ptA st ++ [.lit (.slice none 0 0)]) rfl (hH.blk _ _ hr) O ι w c h
  exact wk_sl (Weaks.snoc (fun H => wk_nil H) (ptA st)) O ι w c h1

theorem wk_wayP {t : Trie Blk} {q : List (Pt × List Nat)} {p : Pt} {l : List Nat} {r id g : Nat} {tl : Tail} :
    Weak t (.sl (q.length + 1) (waysP q ++ (ptA p ++ [.sl ((cuesI l).length + 1) ((cuesI l).map n' ++ [n' r]) tl])) (.own id g 3)) (.sl (q ++ [(p, l ++ [r])]).length (waysP (q ++ [(p, l ++ [r])])) (.own id g 3)) := fun _ H _ => by
  rw [waysP_snoc, List.length_append]
  show WeakH H _ (.sl (q.length + 1) (waysP q ++ (ptA p ++ [cuesA (l ++ [r])])) (.own id g 3))
  rw [← List.append_assoc, ← List.append_assoc]
  refine wk_sl (Weaks.snoc (fun H => ?_) _)
  unfold cuesA
  rw [cuesI_snoc]
  exact wk_snocI H

theorem under_ptE (n : Nat) : ∀ met : List Pt, AV.unders n ((ptE met).map (·.2))
  | [] => trivial
  | _ :: met => ⟨trivial, under_ptE n met⟩

def stpP (v : Vers) (tune : Int) (wo : List Int) (x : Pt) (l : List Nat) (s : BfP) : Nat → BfP
  | 0 => s
  | r + 1 => if nextD v tune wo x r ∈ (stpP v tune wo x l s r).met then stpP v tune wo x l s r else ⟨(stpP v tune wo x l s r).q ++ [(nextD v tune wo x r, l ++ [r])], (stpP v tune wo x l s r).met ++ [nextD v tune wo x r], (stpP v tune wo x l s r).g + 1⟩

theorem nextD_lt {v : Vers} {k c : Nat} (hv : VersOk v k) (hc : c < k) {tune : Int} {wo : List Int} {p : Pt} (h : p.1 < v.length) : (nextD v tune wo p c).1 < v.length := by
  unfold nextD
  split
  · exact h
  · obtain ⟨_, _, _, h3, _⟩ := mv_at (s := p.1) (c := c) hv h hc
    exact h3

set_option maxHeartbeats 8000000 in
set_option maxRecDepth 100000 in
theorem c_firstP {b : Book} {v : Vers} {k : Nat} (hv : VersOk v k) (hk : b.cues = k) (hk4 : k ≤ 4) (hv4 : v.length ≤ 4) (tune : Int) (wo : List Int) (hwo : wo.length ≤ 1000000) {st : Pt} (hst : st.1 < v.length) :
    ∃ u, (∃ o, u = firstV o ∧ Found (nextD v tune wo) (fun p : Pt => p.2 = true) st k o) ∧ ∀ H2, ACall Tryz.prog 179 [.agg (ptA st), n' b.cues, nxD, dnD] (hp (danL b tune wo v) ++ H2) (.ret u) (hp (danL b tune wo v) ++ H2) := by
  refine fn_preE (m := false) (fn := Tryz.f179) (c := (Tryz.f179.body).getD .skip) (t0 := ofL (danL b tune wo v)) (n0 := 4) _ mixed (by kernel_rfl) (by kernel_rfl) (of_decide_eq_true (by kernel_rfl)) (HT.full (l := danL b tune wo v) ⟨rfl, rfl, rfl, rfl, trivial⟩ rfl) ?_ (danL_under b tune wo v) ?_
  · exact ⟨under_ptA 4 _, trivial, ⟨trivial, ltb rfl, ltb rfl, ltb rfl, trivial⟩, trivial, trivial⟩
  · refine Ex.mk _ (aop_updateP (p := st) (met := []) (id := 5) (.inr rfl) rfl rfl rfl rfl (by omega) (by simp)) ?_
    refine LoopG.ghost (LoopG.at (n0 := 7) rfl ?_)
    refine loop_r mixed (m := false) (α := { s : BfP // (∃ proc, InvO (nextD v tune wo) (fun p : Pt => p.2 = true) st k s.q s.met proc) ∧ BdP v s }) (fun a => [(1, n' b.cues), (2, nxD), (3, dnD), (10, .mp 5), (11, .sl a.1.q.length (waysP a.1.q) (.own 6 a.1.g 3))]) (fun a => danL b tune wo v ++ [(5, .map (.arr 2) (ptE a.1.met)), (6, .row a.1.g)]) (fun a => a.1.q.length + (8 - a.1.met.length)) 5
      ⟨⟨[(st, [])], [st], 0⟩, ⟨_, InvO.begin⟩, ⟨by simp, fun p hp => ?_, by simp, fun w hw => ?_⟩⟩ (leb rfl) ?_ ?_ ?_
    · rw [List.mem_singleton] at hp; subst hp; exact hst
    · rw [List.mem_singleton] at hw; subst hw; exact ⟨by simp, hst⟩
    · exact ⟨⟨_, rfl, Weak.refl _ _, trivial⟩, ⟨_, rfl, Weak.refl _ _, trivial, ltb rfl, ltb rfl, ltb rfl, trivial⟩, ⟨_, rfl, Weak.refl _ _, trivial⟩, ⟨_, rfl, Weak.refl _ _, ltb rfl⟩, ⟨_, rfl, wk_beginP rfl, under_waysP _ _, ltb rfl⟩, trivial⟩
    · exact ⟨⟨rfl, ltb rfl⟩, ⟨rfl, ltb rfl⟩, ⟨rfl, ltb rfl⟩, ⟨rfl, ltb rfl⟩, ⟨rfl, ltb rfl⟩, ⟨rfl, ltb rfl⟩, trivial⟩
    · rintro ⟨⟨q, met, g⟩, ⟨proc, hI⟩, hb⟩
      have hml := hb.le hv4
      cases q with
      | nil =>
        refine If.mk (fun h => absurd h (by show ¬ ((0 : Int) < 0); decide)) (fun _ => ?_)
        refine IfB.mk (fun e => by cases e) (fun _ => ?_)
        refine ⟨leb rfl, ?_⟩
        exact ⟨.inl rfl, leb rfl, rfl, _, firstV none, rfl, (fun H => wk_tup2F (wk_nil H)), under_firstV _ _, none, rfl, hI.nothing⟩
      | cons w q =>
        obtain ⟨x, l⟩ := w
        refine If.mk (fun _ => ?_) (fun h => absurd (by rw [List.length_cons]; omega) h)
        refine IfB.mk (fun _ => ?_) (fun e => by cases e)
        refine Ex.mk _ (jx_wayP) ?_
        refine Ex.mk _ rfl ?_
        refine Ex.mk _ (aop_sliceP (w := (x, l)) (q := q) rfl rfl rfl) ?_
        obtain ⟨hb1, hb2, hb3, hb4⟩ := hb
        have hb2 : ∀ p ∈ met, p.1 < v.length := hb2
        have hb1 : met.Nodup := hb1
        have hb3 : ((x, l) :: q).length ≤ met.length := hb3
        have hb4 : ∀ w ∈ (x, l) :: q, w.2.length < met.length ∧ w.1.1 < v.length := hb4
        have hml : met.length ≤ 8 := hml
        have hI : InvO (nextD v tune wo) (fun p : Pt => p.2 = true) st k ((x, l) :: q) met proc := hI
        obtain ⟨hlx, hPx⟩ := hb4 (x, l) (by simp)
        have hlx : l.length < met.length := hlx
        have hPx : x.1 < v.length := hPx
        refine CallG.pure (nb x.2) (c_dgDone x) ?_
        refine IfB.mk (fun hd => ?_) (fun hd => ?_)
        · exact ⟨leb rfl, .inl rfl, leb rfl, rfl, _, firstV (some l), rfl, (fun H => WeakH.refl _ H), under_firstV _ _, some l, rfl, hI.found hd⟩
        · have hI0 := hI.take (by rw [hd]; decide)
          refine LoopG.at (n0 := 8) rfl (loop_up mixed (m := false) (fun r => [(1, n' b.cues), (2, nxD), (3, dnD), (10, .mp 5), (11, .sl (stpP v tune wo x l ⟨q, met, g⟩ r).q.length (waysP (stpP v tune wo x l ⟨q, met, g⟩ r).q) (.own 6 (stpP v tune wo x l ⟨q, met, g⟩ r).g 3)), (12, .ptr 7 0), (35, n' b.cues), (36, n' r)])
            (fun r => danL b tune wo v ++ [(5, .map (.arr 2) (ptE (stpP v tune wo x l ⟨q, met, g⟩ r).met)), (6, .row (stpP v tune wo x l ⟨q, met, g⟩ r).g), (7, .box (wayP (x, l)) 241)])
            (fun r => InvI (nextD v tune wo) (fun p : Pt => p.2 = true) st k x l r (stpP v tune wo x l ⟨q, met, g⟩ r).q (stpP v tune wo x l ⟨q, met, g⟩ r).met proc ∧ BdP v (stpP v tune wo x l ⟨q, met, g⟩ r) ∧ (stpP v tune wo x l ⟨q, met, g⟩ r).q.length + met.length = q.length + (stpP v tune wo x l ⟨q, met, g⟩ r).met.length ∧ l.length < (stpP v tune wo x l ⟨q, met, g⟩ r).met.length)
            k 5 (leb rfl) ⟨hI0, ⟨hb1, hb2, ?_, fun w hw => hb4 w (List.mem_cons_of_mem _ hw)⟩, rfl, hlx⟩ ?_ ?_ ?_)
          · rw [List.length_cons] at hb3; show q.length ≤ met.length; omega
          · exact ⟨⟨_, rfl, Weak.refl _ _, trivial⟩, ⟨_, rfl, Weak.refl _ _, trivial, ltb rfl, ltb rfl, ltb rfl, trivial⟩, ⟨_, rfl, Weak.refl _ _, trivial⟩, ⟨_, rfl, Weak.refl _ _, ltb rfl⟩, ⟨_, rfl, Weak.refl _ _, under_waysP _ _, ltb rfl⟩, ⟨_, rfl, Weak.refl _ _, ltb rfl⟩, ⟨_, rfl, Weak.refl _ _, trivial⟩, ⟨_, rfl, Weak.refl _ _, trivial⟩, trivial⟩
          · exact ⟨⟨rfl, ltb rfl⟩, ⟨rfl, ltb rfl⟩, ⟨rfl, ltb rfl⟩, ⟨rfl, ltb rfl⟩, ⟨rfl, ltb rfl⟩, ⟨rfl, ltb rfl⟩, ⟨rfl, ltb rfl⟩, trivial⟩
          · intro r hr hJ
            obtain ⟨hJ1, hJ2, hJ3, hJ4⟩ := hJ
            have hstp : stpP v tune wo x l ⟨q, met, g⟩ (r + 1) = if nextD v tune wo x r ∈ (stpP v tune wo x l ⟨q, met, g⟩ r).met then stpP v tune wo x l ⟨q, met, g⟩ r else ⟨(stpP v tune wo x l ⟨q, met, g⟩ r).q ++ [(nextD v tune wo x r, l ++ [r])], (stpP v tune wo x l ⟨q, met, g⟩ r).met ++ [nextD v tune wo x r], (stpP v tune wo x l ⟨q, met, g⟩ r).g + 1⟩ := rfl
            have hke : k = 0 ∨ stpP v tune wo x l ⟨q, met, g⟩ k = stpP v tune wo x l ⟨q, met, g⟩ k := .inr rfl
            generalize hsr : stpP v tune wo x l ⟨q, met, g⟩ r = s at hJ1 hJ2 hJ3 hJ4 hstp ⊢
            obtain ⟨q1, met1, g1⟩ := s
            have hml1 : met1.length ≤ 8 := hJ2.le hv4
            obtain ⟨hn1, hn2, hn3, hn4⟩ := hJ2
            have hn1 : met1.Nodup := hn1
            have hn2 : ∀ p ∈ met1, p.1 < v.length := hn2
            have hn3 : q1.length ≤ met1.length := hn3
            have hn4 : ∀ w ∈ q1, w.2.length < met1.length ∧ w.1.1 < v.length := hn4
            have hJ1 : InvI (nextD v tune wo) (fun p : Pt => p.2 = true) st k x l r q1 met1 proc := hJ1
            have hJ3 : q1.length + met.length = q.length + met1.length := hJ3
            have hJ4 : l.length < met1.length := hJ4
            refine If.mk (fun h1 => ?_) (fun h1 => ?_)
            · refine IfB.mk (fun _ => ?_) (fun e => by cases e)
              have hrk : r < k := by omega
              have hPy : (nextD v tune wo x r).1 < v.length := nextD_lt hv hrk hPx
              refine CallG.at (.agg (ptA (nextD v tune wo x r))) (fun H hH => ?_) ?_
              · obtain ⟨H2, rfl⟩ := hH.firstL (L := danL b tune wo v) ⟨rfl, rfl, rfl, rfl, trivial⟩ ⟨⟨rfl, ltb rfl⟩, ⟨rfl, ltb rfl⟩, ⟨rfl, ltb rfl⟩, ⟨rfl, ltb rfl⟩, trivial⟩
                exact c_dgNext hv hrk tune wo hwo hPx H2
              refine Ex.mk _ (aop_lookupP (p := nextD v tune wo x r) (met := met1) (id := 5) rfl rfl rfl rfl (by omega)) ?_
              refine IfB.mk (fun hm => ?_) (fun hm => ?_)
              · have hm' : nextD v tune wo x r ∉ met1 := by simpa using hm
                refine Ex.mk _ (aop_updateP (p := nextD v tune wo x r) (met := met1) (id := 5) (.inl rfl) rfl rfl rfl rfl (by omega) hm') ?_
                have e3 : stpP v tune wo x l ⟨q, met, g⟩ (r + 1) = ⟨q1 ++ [(nextD v tune wo x r, l ++ [r])], met1 ++ [nextD v tune wo x r], g1 + 1⟩ := by rw [hstp]; exact if_neg hm'
                have hcl := cuesI_length l
                refine CallG.fresh (n0 := 21) [cuesA l] (danL b tune wo v ++ [(5, .map (.arr 2) (ptE (met1 ++ [nextD v tune wo x r]))), (6, .row g1), (7, .box (wayP (x, l)) 241), (8, .box (ptA (nextD v tune wo x r)) 141)]) rfl (.cons (fun H => WeakH.refl _ H) .nil) ?_ ?_
                · exact ⟨⟨rfl, ltb rfl⟩, ⟨rfl, ltb rfl⟩, ⟨rfl, ltb rfl⟩, ⟨rfl, ltb rfl⟩, ⟨rfl, ltb rfl⟩, ⟨rfl, ltb rfl⟩, ⟨rfl, ltb rfl⟩, ⟨rfl, ltb rfl⟩, trivial⟩
                refine CallG.cloneI (l := cuesI l) (by omega) (leb rfl) ?_
                refine ex_app _ _ (app_int (List.length_map _) (by omega) rfl) ?_
                refine ex_app _ _ (app_wayP (q := q1) (p := nextD v tune wo x r) (by omega) rfl rfl) ?_
                refine Side.mk (fits64 (by omega)) ?_
                have hN := hJ1.new hrk hm'
                refine ⟨leb rfl, rfl, by omega, ?_, ⟨⟨_, rfl, Weak.refl _ _, trivial⟩, ⟨_, rfl, Weak.refl _ _, trivial, ltb rfl, ltb rfl, ltb rfl, trivial⟩, ⟨_, rfl, Weak.refl _ _, trivial⟩, ⟨_, rfl, Weak.refl _ _, ltb rfl⟩, ⟨_, rfl, by rw [e3]; exact wk_wayP, under_waysP _ _, ltb rfl⟩, ⟨_, rfl, Weak.refl _ _, ltb rfl⟩, ⟨_, rfl, Weak.refl _ _, trivial⟩, ⟨_, rfl, Weak.refl _ _, trivial⟩, trivial⟩, ⟨⟨rfl, ltb rfl⟩, ⟨rfl, ltb rfl⟩, ⟨rfl, ltb rfl⟩, ⟨rfl, ltb rfl⟩, ⟨?_, ltb rfl⟩, ⟨?_, ltb rfl⟩, ⟨rfl, ltb rfl⟩, trivial⟩, ⟨⟨_, rfl, under_ptE _ _⟩, ⟨_, rfl, trivial⟩, ⟨_, rfl, unders_append (under_ptA _ _) ⟨under_cuesA _ _, trivial⟩⟩, trivial⟩⟩
                · simp only [e3]
                  refine ⟨hN, ⟨?_, fun p hp => ?_, ?_, fun w hw => ?_⟩, ?_, ?_⟩
                  · show (met1 ++ [nextD v tune wo x r]).Nodup
                    rw [List.nodup_append]
                    refine ⟨hn1, by simp, fun a ha c hc hac => ?_⟩
                    rw [List.mem_singleton] at hc
                    subst hc hac
                    exact hm' ha
                  · rcases List.mem_append.1 hp with hp | hp
                    · exact hn2 p hp
                    · rw [List.mem_singleton] at hp; subst hp; exact hPy
                  · show (q1 ++ [_]).length ≤ (met1 ++ [_]).length
                    rw [List.length_append, List.length_append]
                    exact Nat.add_le_add_right hn3 1
                  · show w.2.length < (met1 ++ [nextD v tune wo x r]).length ∧ _
                    rw [List.length_append, List.length_singleton]
                    rcases List.mem_append.1 hw with hw | hw
                    · obtain ⟨k1, k2⟩ := hn4 w hw
                      exact ⟨by omega, k2⟩
                    · rw [List.mem_singleton] at hw; subst hw
                      refine ⟨?_, hPy⟩
                      show (l ++ [r]).length < _
                      rw [List.length_append, List.length_singleton]
                      omega
                  · show (q1 ++ [_]).length + met.length = q.length + (met1 ++ [_]).length
                    rw [List.length_append, List.length_append, List.length_singleton, List.length_singleton]
                    omega
                  · show l.length < (met1 ++ [_]).length
                    rw [List.length_append]
                    omega
                · rw [e3]; rfl
                · rw [e3]; rfl
              · have hm' : nextD v tune wo x r ∈ met1 := by simpa using hm
                have e3 : stpP v tune wo x l ⟨q, met, g⟩ (r + 1) = ⟨q1, met1, g1⟩ := by rw [hstp]; exact if_pos hm'
                refine Side.mk (fits64 (by omega)) ?_
                refine ⟨leb rfl, rfl, by omega, ?_, ⟨⟨_, rfl, Weak.refl _ _, trivial⟩, ⟨_, rfl, Weak.refl _ _, trivial, ltb rfl, ltb rfl, ltb rfl, trivial⟩, ⟨_, rfl, Weak.refl _ _, trivial⟩, ⟨_, rfl, Weak.refl _ _, ltb rfl⟩, ⟨_, rfl, by rw [e3]; exact Weak.refl _ _, under_waysP _ _, ltb rfl⟩, ⟨_, rfl, Weak.refl _ _, ltb rfl⟩, ⟨_, rfl, Weak.refl _ _, trivial⟩, ⟨_, rfl, Weak.refl _ _, trivial⟩, trivial⟩, ⟨⟨rfl, ltb rfl⟩, ⟨rfl, ltb rfl⟩, ⟨rfl, ltb rfl⟩, ⟨rfl, ltb rfl⟩, ⟨?_, ltb rfl⟩, ⟨?_, ltb rfl⟩, ⟨rfl, ltb rfl⟩, trivial⟩, trivial⟩
                · simp only [e3]
                  exact ⟨hJ1.old hm', ⟨hn1, hn2, hn3, hn4⟩, hJ3, hJ4⟩
                · rw [e3]; rfl
                · rw [e3]; rfl
            · refine IfB.mk (fun e => by cases e) (fun _ => ?_)
              refine ⟨leb rfl, ?_⟩
              have er : r = k := by omega
              subst er
              refine ⟨leb rfl, rfl, ⟨⟨q1, met1, g1⟩, ⟨_, hJ1.over⟩, ⟨hn1, hn2, hn3, hn4⟩⟩, ?_, ⟨⟨_, rfl, Weak.refl _ _, trivial⟩, ⟨_, rfl, Weak.refl _ _, trivial, ltb rfl, ltb rfl, ltb rfl, trivial⟩, ⟨_, rfl, Weak.refl _ _, trivial⟩, ⟨_, rfl, Weak.refl _ _, ltb rfl⟩, ⟨_, rfl, Weak.refl _ _, under_waysP _ _, ltb rfl⟩, trivial⟩, ⟨⟨rfl, ltb rfl⟩, ⟨rfl, ltb rfl⟩, ⟨rfl, ltb rfl⟩, ⟨rfl, ltb rfl⟩, ⟨rfl, ltb rfl⟩, ⟨rfl, ltb rfl⟩, trivial⟩, ⟨⟨_, rfl, under_ptE _ _⟩, ⟨_, rfl, trivial⟩, trivial⟩⟩
              show q1.length + (8 - met1.length) < ((x, l) :: q).length + (8 - met.length)
              rw [List.length_cons]
              omega
end Go.Vm

/-
  Contracts: danger, Danger of package cue. (Own work.)
-/
namespace Go.Vm
open Go.Proofs

set_option maxHeartbeats 4000000 in
set_option maxRecDepth 100000 in
theorem c_dangerW {b : Book} {i : Int} {v : Vers} (hi : 0 ≤ i) (hv : b.vs[i.toNat]? = some v) (hvo : VersOk v b.cues.toNat) (hv0 : 0 < v.length) (hv4 : v.length ≤ 4) (hbc : inI b.cues 1 4) (tune : Int) (wo : List Int) (hwo : wo.length ≤ 1000000) :
    ∃ o, Found (nextD v tune wo) (fun p : Pt => p.2 = true) (0, false) b.cues.toNat o ∧ ∀ H, ACall Tryz.prog 133 [eBook b, n' i, n' tune, eInts wo] H (.ret (firstV o)) H := by
  have hlt := (List.getElem?_eq_some_iff.1 hv).1
  unfold inI at hbc
  obtain ⟨u, ⟨o, rfl, hF⟩, hc⟩ := c_firstP (b := b) (k := b.cues.toNat) hvo (by omega) (by omega) hv4 tune wo hwo (st := (0, false)) hv0
  refine ⟨o, hF, fun H => ?_⟩
  refine fn_rule (m := false) (fn := Tryz.f133) (c := (Tryz.f133.body).getD .skip) mixed (by kernel_rfl) (by kernel_rfl) (of_decide_eq_true (by kernel_rfl)) ?_ ?_ ?_ H
  · exact ⟨under_eBook 0 _, trivial, trivial, under_eInts 0 _, trivial⟩
  · exact under_firstV 0 _
  · refine Ex.mk _ (jx_versions (r := i.toNat) (by omega) hv) ?_
    refine Ex.mk _ rfl ?_
    refine CallG.at (firstV o) (fun H hH => ?_) ?_
    · obtain ⟨H2, rfl⟩ := hH.firstL (L := danL b tune wo v) ⟨rfl, rfl, rfl, rfl, trivial⟩ ⟨⟨rfl, ltb rfl⟩, ⟨rfl, ltb rfl⟩, ⟨rfl, ltb rfl⟩, ⟨rfl, ltb rfl⟩, trivial⟩
      exact hc H2
    cases o with
    | none =>
      refine ⟨.inl rfl, FinG.mk _ rfl rfl ?_⟩
      show AV.tup [AV.freeze _ (eInts (cuesI [])), _] = _
      rw [freeze_eInts]
      rfl
    | some l =>
      refine ⟨.inl rfl, FinG.mk _ rfl rfl ?_⟩
      show AV.tup [AV.freeze _ (eInts (cuesI l)), _] = _
      rw [freeze_eInts]
      rfl

def dangV : Option (List Nat) → AV
  | none => .tup [.lit (.slice none 0 0), .lit (.int .i64 5)]
  | some l => .tup [cuesA l, .lit (.int .i64 0)]
theorem under_dangV (n : Nat) (o : Option (List Nat)) : (dangV o).under n := by
  cases o with
  | none => exact ⟨trivial, trivial, trivial⟩
  | some l => exact ⟨under_cuesA n _, trivial, trivial⟩

set_option maxHeartbeats 4000000 in
set_option maxRecDepth 100000 in
theorem c_Danger {b : Book} (hl : BLen b) (hB : BOk b) {i : Int} {v : Vers} (hi : inI i 0 (b.vs.length - 1)) (hv : b.vs[i.toNat]? = some v) {tune : Int} (ht : inI tune 0 (b.tunes - 1)) :
    ∃ o, Found (nextD v tune []) (fun p : Pt => p.2 = true) (0, false) b.cues.toNat o ∧ ∀ H, ACall Tryz.prog 72 [eBook b, n' i, n' tune] H (.ret (dangV o)) H := by
  obtain ⟨hvo, hv0⟩ := (hB.2 v (List.mem_of_getElem? hv)).vers
  have hv4 := (hB.2 v (List.mem_of_getElem? hv)).2
  unfold inI at hv4
  obtain ⟨o, hF, hc⟩ := c_dangerW (b := b) hi.1 hv hvo hv0 (by omega) hB.1.1 tune [] (by simp)
  refine ⟨o, hF, fun H => ?_⟩
  refine fn_rule (m := false) (fn := Tryz.f72) (c := (Tryz.f72.body).getD .skip) mixed (by kernel_rfl) (by kernel_rfl) (of_decide_eq_true (by kernel_rfl)) ?_ ?_ ?_ H
  · exact ⟨under_eBook 0 _, trivial, trivial, trivial⟩
  · exact under_dangV 0 _
  · refine CallG.bool (c_isBook hl) (fun _ => ?_) (fun x => absurd hB x)
    refine CallG.bool (c_hasVersion hB.fit i) (fun _ => ?_) (fun x => absurd hi x)
    refine CallG.bool (c_hasTune hB.fit tune) (fun _ => ?_) (fun x => absurd ht x)
    refine IfB.mk (fun e => by cases e) (fun _ => ?_)
    cases o with
    | none =>
      refine CallG.weak _ (.cons (fun H => WeakH.refl _ H) (.cons (fun H => WeakH.refl _ H) (.cons (fun H => WeakH.refl _ H) (.cons (fun H => WeakH.nil H) (.nil))))) (hc) ?_
      refine IfB.mk (fun _ => ?_) (fun e => by cases e)
      exact ⟨.inl rfl, FinG.mk _ rfl rfl rfl⟩
    | some l =>
      refine CallG.weak _ (.cons (fun H => WeakH.refl _ H) (.cons (fun H => WeakH.refl _ H) (.cons (fun H => WeakH.refl _ H) (.cons (fun H => WeakH.nil H) (.nil))))) (hc) ?_
      refine IfB.mk (fun e => by cases e) (fun _ => ?_)
      refine ⟨.inl rfl, FinG.mk _ rfl rfl ?_⟩
      show AV.tup [AV.freeze _ (eInts (cuesI l)), _] = _
      rw [freeze_eInts]
      rfl

set_option maxRecDepth 100000 in
theorem c_Danger_no {b : Book} (hl : BLen b) (i tune : Int) (hP : ¬ (BOk b ∧ inI i 0 (b.vs.length - 1) ∧ inI tune 0 (b.tunes - 1))) (H : List Blk) : ACall Tryz.prog 72 [eBook b, n' i, n' tune] H (.ret (.tup [.lit (.slice none 0 0), .lit (.int .i64 2)])) H := by
  refine fn_rule (m := false) (fn := Tryz.f72) (c := (Tryz.f72.body).getD .skip) mixed (by kernel_rfl) (by kernel_rfl) (of_decide_eq_true (by kernel_rfl)) ?_ ?_ ?_ H
  · exact ⟨under_eBook 0 _, trivial, trivial, trivial⟩
  · exact ⟨trivial, trivial, trivial⟩
  · refine CallG.bool (c_isBook hl) (fun hB => ?_) (fun _ => ?_)
    · refine CallG.bool (c_hasVersion hB.fit i) (fun h2 => ?_) (fun _ => ?_)
      · refine CallG.bool (c_hasTune hB.fit tune) (fun h3 => absurd ⟨hB, h2, h3⟩ hP) (fun _ => ?_)
        refine IfB.mk (fun _ => ?_) (fun e => by cases e)
        exact ⟨.inl rfl, FinG.mk _ rfl rfl rfl⟩
      · refine IfB.mk (fun _ => ?_) (fun e => by cases e)
        exact ⟨.inl rfl, FinG.mk _ rfl rfl rfl⟩
    · refine IfB.mk (fun _ => ?_) (fun e => by cases e)
      exact ⟨.inl rfl, FinG.mk _ rfl rfl rfl⟩
end Go.Vm

/-
  Contracts: Fence of package cue. (Own work.)
-/
namespace Go.Vm
open Go.Proofs

/-- Lists of so many cues from one on, in increasing order, behind a beginning. -/
def subsL (K : Nat) : Nat → Nat → List Int → List (List Int)
  | 0, _, now => [now]
  | m + 1, s, now => (List.range (K - m - s)).flatMap fun r : Nat => subsL K m (s + r + 1) (now ++ [((s + r : Nat) : Int)])
/-- The first of them that is a fence; if there is none, the last one that was tried. -/
def runF (good : List Int → Bool) : List (List Int) → List Int → Bool × List Int
  | [], out => (false, out)
  | x :: l, _ => if good x then (true, x) else runF good l x

theorem runF_append {good : List Int → Bool} : ∀ {a b : List (List Int)} {out : List Int}, runF good (a ++ b) out = if (runF good a out).1 then runF good a out else runF good b (runF good a out).2
  | [], _, _ => rfl
  | x :: a, b, out => by
    have ih := runF_append (good := good) (a := a) (b := b) (out := x)
    cases h : good x with
    | true => simp [runF, h]
    | false => simp [runF, h, ih]

/-- The groups so far. -/
def preL (K m s : Nat) (now : List Int) (r : Nat) : List (List Int) := (List.range r).flatMap fun r : Nat => subsL K m (s + r + 1) (now ++ [((s + r : Nat) : Int)])
theorem preL_succ (K m s : Nat) (now : List Int) (r : Nat) : preL K m s now (r + 1) = preL K m s now r ++ subsL K m (s + r + 1) (now ++ [((s + r : Nat) : Int)]) := by
  unfold preL
  rw [List.range_succ, List.flatMap_append, List.flatMap_cons, List.flatMap_nil, List.append_nil]
theorem preL_all (K m s : Nat) (now : List Int) {r : Nat} (hr : r ≤ K - m - s) : ∃ b, subsL K (m + 1) s now = preL K m s now r ++ b := by
  show ∃ b, (List.range (K - m - s)).flatMap _ = _
  obtain ⟨d, hd⟩ : ∃ d, K - m - s = r + d := ⟨K - m - s - r, by omega⟩
  rw [hd, List.range_add, List.flatMap_append]
  exact ⟨_, rfl⟩
theorem preL_full (K m s : Nat) (now : List Int) : subsL K (m + 1) s now = preL K m s now (K - m - s) := rfl

open Classical in
/-- Without these cues the tune is never played. -/
noncomputable def goodF (v : Vers) (tune : Int) (k : Nat) (wo : List Int) : Bool := decide (∀ u, OkL k u → ¬ (runB (nextD v tune wo) (0, false) u).2 = true)

theorem goodF_found {v : Vers} {tune : Int} {k : Nat} {wo : List Int} {o : Option (List Nat)} (h : Found (nextD v tune wo) (fun p : Pt => p.2 = true) (0, false) k o) : goodF v tune k wo = !o.isSome := by
  classical
  unfold goodF
  cases o with
  | none => exact decide_eq_true (h.no rfl)
  | some l =>
    obtain ⟨h1, h2, _⟩ := h.yes l rfl
    exact decide_eq_false fun h => h l h1 h2

abbrev srF : List AV := [.ptr 3 0, .ptr 0 0, .ptr 1 0, .ptr 2 0, .ptr 4 0]
/-- The heap of Fence: what was tried last. -/
noncomputable def fenL (b : Book) (i tune : Int) (out : List Int) : List (Nat × Blk) :=
  [(0, bBox b), (1, .box [n' i] 3), (2, .box [n' tune] 3), (3, .box [eInts out] 25), (4, .box [.fn (.func 134) [] srF] 168)]
theorem fenL_numd (b : Book) (i tune : Int) (out : List Int) : Numd 0 (fenL b i tune out) := ⟨rfl, rfl, rfl, rfl, rfl, trivial⟩
theorem fenL_marks (b : Book) (i tune : Int) (out out' : List Int) : MarksL (fenL b i tune out) (fenL b i tune out') :=
  .cons (fun e => e) (.cons (fun e => e) (.cons (fun e => e) (.cons (fun e => by cases e) (MarksL.same _))))

theorem fenL_under (b : Book) (i tune : Int) (out : List Int) : ∀ q ∈ fenL b i tune out, q.2.under 5 := fun q hq => by
  simp only [fenL, List.mem_cons, List.not_mem_nil, or_false] at hq
  rcases hq with rfl | rfl | rfl | rfl | rfl
  · exact bBox_under _ _
  · exact ⟨trivial, trivial⟩
  · exact ⟨trivial, trivial⟩
  · exact ⟨under_eInts _ _, trivial⟩
  · exact ⟨⟨trivial, ltb rfl, ltb rfl, ltb rfl, ltb rfl, ltb rfl, trivial⟩, trivial⟩


section
variable {b : Book} {i : Int} {v : Vers} (hi : 0 ≤ i) (hv : b.vs[i.toNat]? = some v) (hvo : VersOk v b.cues.toNat) (hv0 : 0 < v.length) (hv4 : v.length ≤ 4) (hbc : inI b.cues 1 4) (tune : Int)
include hi hv hvo hv0 hv4 hbc

set_option maxHeartbeats 4000000 in
set_option maxRecDepth 100000 in
theorem c_fen0 (now out : List Int) (s : Nat) (hn : now.length ≤ 1000) :
    ACall Tryz.prog 134 (eInts now :: n' s :: n' 0 :: srF) (hp (fenL b i tune out)) (.ret (nb (runF (goodF v tune b.cues.toNat) [now] out).1)) (hp (fenL b i tune (runF (goodF v tune b.cues.toNat) [now] out).2)) := by
  obtain ⟨o, hF, hc⟩ := c_dangerW hi hv hvo hv0 hv4 hbc tune now (by omega)
  have hg := goodF_found hF
  have e2 : (runF (goodF v tune b.cues.toNat) [now] out).2 = now := by
    unfold runF
    split <;> rfl
  have e1 : (runF (goodF v tune b.cues.toNat) [now] out).1 = !o.isSome := by
    rw [← hg]
    unfold runF
    cases goodF v tune b.cues.toNat now <;> rfl
  rw [e1, e2]
  refine fn_keep (m := false) (fn := Tryz.f134) (c := (Tryz.f134.body).getD .skip) (p := 5) mixed (by kernel_rfl) (by kernel_rfl) (of_decide_eq_true (by kernel_rfl)) rfl (fenL_numd _ _ _ _) (fenL_numd _ _ _ _) rfl rfl (fenL_under _ _ _ _) ?_
  refine If.mk (fun _ => ?_) (fun h => absurd (by decide) h)
  refine IfB.mk (fun _ => ?_) (fun e => by cases e)
  refine CallG.pure _ (hc) ?_
  cases o with
  | none =>
    refine ⟨.inl rfl, ?_, FinF.mk _ rfl rfl rfl⟩
    exact ⟨⟨rfl, ltb rfl⟩, ⟨rfl, ltb rfl⟩, ⟨rfl, ltb rfl⟩, ⟨rfl, ltb rfl⟩, ⟨rfl, ltb rfl⟩, trivial⟩
  | some l =>
    refine ⟨.inl rfl, ?_, FinF.mk _ rfl rfl rfl⟩
    exact ⟨⟨rfl, ltb rfl⟩, ⟨rfl, ltb rfl⟩, ⟨rfl, ltb rfl⟩, ⟨rfl, ltb rfl⟩, ⟨rfl, ltb rfl⟩, trivial⟩

set_option maxHeartbeats 4000000 in
set_option maxRecDepth 100000 in
theorem c_fen : ∀ (m s : Nat) (now out : List Int), now.length + m ≤ 1000 → s ≤ 1000 → ACall Tryz.prog 134 (eInts now :: n' s :: n' m :: srF) (hp (fenL b i tune out)) (.ret (nb (runF (goodF v tune b.cues.toNat) (subsL b.cues.toNat m s now) out).1)) (hp (fenL b i tune (runF (goodF v tune b.cues.toNat) (subsL b.cues.toNat m s now) out).2))
  | 0, s, now, out, hn, hs => c_fen0 hi hv hvo hv0 hv4 hbc tune now out s (by omega)
  | m + 1, s, now, out, hn, hs => by
    have hbc' := hbc
    unfold inI at hbc'
    refine fn_keep (m := false) (fn := Tryz.f134) (c := (Tryz.f134.body).getD .skip) (p := 5) mixed (by kernel_rfl) (by kernel_rfl) (of_decide_eq_true (by kernel_rfl)) rfl (fenL_numd _ _ _ _) (fenL_numd _ _ _ _) rfl rfl (fenL_under _ _ _ _) ?_
    refine If.mk (fun h => absurd h (by omega)) (fun _ => ?_)
    refine IfB.mk (fun e => by cases e) (fun _ => ?_)
    refine LoopG.at (n0 := 5) rfl (loop_up mixed (m := false) (fun r => [(0, eInts now), (2, n' (m + 1 : Nat)), (3, .ptr 3 0), (4, .ptr 0 0), (5, .ptr 1 0), (6, .ptr 2 0), (7, .ptr 4 0), (14, n' (s + r : Nat))]) (fun r => fenL b i tune (runF (goodF v tune b.cues.toNat) (preL b.cues.toNat m s now r) out).2)
      (fun r => (runF (goodF v tune b.cues.toNat) (preL b.cues.toNat m s now r) out).1 = false) (b.cues.toNat - m - s) 3 (leb rfl) rfl ?_ ?_ ?_)
    · exact ⟨⟨_, rfl, Weak.refl _ _, under_eInts _ _⟩, ⟨_, rfl, Weak.refl _ _, trivial⟩, ⟨_, rfl, Weak.refl _ _, ltb rfl⟩, ⟨_, rfl, Weak.refl _ _, ltb rfl⟩, ⟨_, rfl, Weak.refl _ _, ltb rfl⟩, ⟨_, rfl, Weak.refl _ _, ltb rfl⟩, ⟨_, rfl, Weak.refl _ _, ltb rfl⟩, ⟨_, rfl, Weak.refl _ _, trivial⟩, trivial⟩
    · exact ⟨⟨rfl, ltb rfl⟩, ⟨rfl, ltb rfl⟩, ⟨rfl, ltb rfl⟩, ⟨rfl, ltb rfl⟩, ⟨rfl, ltb rfl⟩, trivial⟩
    · intro r hr hI
      have hsucc := preL_succ b.cues.toNat m s now r
      have happ := runF_append (good := goodF v tune b.cues.toNat) (a := preL b.cues.toNat m s now r) (b := subsL b.cues.toNat m (s + r + 1) (now ++ [((s + r : Nat) : Int)])) (out := out)
      rw [hI] at happ
      simp only [Bool.false_eq_true, if_false] at happ
      refine Side.mk (fits64 (by omega)) ?_
      refine If.mk (fun h1 => ?_) (fun h1 => ?_)
      · refine IfB.mk (fun _ => ?_) (fun e => by cases e)
        refine CallG.cloneI (by omega) (leb rfl) ?_
        refine ex_app _ _ (app_int (List.length_map _) (by omega) rfl) ?_
        refine Side.mk (fits64 (by omega)) ?_
        refine Side.mk (fits64 (by omega)) ?_
        refine CallG.pre (eInts (now ++ [((s + r : Nat) : Int)]) :: n' (s + r + 1 : Nat) :: n' (m : Nat) :: srF) (fenL b i tune (runF (goodF v tune b.cues.toNat) (preL b.cues.toNat m s now r) out).2) (fenL b i tune (runF (goodF v tune b.cues.toNat) (preL b.cues.toNat m s now (r + 1)) out).2) (nb (runF (goodF v tune b.cues.toNat) (preL b.cues.toNat m s now (r + 1)) out).1) 3
          (.cons (fun H => wk_snocI H) (.cons (fun H => WeakH.refl _ H) (.cons (fun H => by rw [show (((m + 1 : Nat) : Int) - 1) = (m : Int) by omega]; exact WeakH.refl _ H) (.cons (fun H => WeakH.refl _ H) (.cons (fun H => WeakH.refl _ H) (.cons (fun H => WeakH.refl _ H) (.cons (fun H => WeakH.refl _ H) (.cons (fun H => WeakH.refl _ H) .nil))))))))
          (fenL_numd _ _ _ _) (fenL_numd _ _ _ _) rfl (fenL_marks _ _ _ _ _) ?_ rfl ⟨under_eInts _ _, trivial, trivial, ltb rfl, ltb rfl, ltb rfl, ltb rfl, ltb rfl, trivial⟩ rfl (fenL_under _ _ _ _) (fenL_under _ _ _ _) ?_ ?_
        · exact ⟨⟨rfl, ltb rfl⟩, ⟨rfl, ltb rfl⟩, ⟨rfl, ltb rfl⟩, ⟨rfl, ltb rfl⟩, ⟨rfl, ltb rfl⟩, trivial⟩
        · rw [hsucc, happ]
          exact c_fen m (s + r + 1) (now ++ [((s + r : Nat) : Int)]) _ (by rw [List.length_append, List.length_singleton]; omega) (by omega)
        · refine IfB.mk (fun hb => ?_) (fun hb => ?_)
          · obtain ⟨rest, hrest⟩ := preL_all b.cues.toNat m s now (r := r + 1) (by omega)
            have hall := runF_append (good := goodF v tune b.cues.toNat) (a := preL b.cues.toNat m s now (r + 1)) (b := rest) (out := out)
            rw [← hrest, hb, if_pos rfl] at hall
            refine ⟨leb rfl, .inl rfl, ?_, ?_⟩
            · rw [hall]
              exact ⟨⟨rfl, ltb rfl⟩, ⟨rfl, ltb rfl⟩, ⟨rfl, ltb rfl⟩, ⟨rfl, ltb rfl⟩, ⟨rfl, ltb rfl⟩, trivial⟩
            · rw [hall, hb]
              exact FinF.mk _ rfl rfl rfl
          · refine Side.mk (fits64 (by omega)) ?_
            refine ⟨leb rfl, rfl, by omega, hb, ⟨⟨_, rfl, Weak.refl _ _, under_eInts _ _⟩, ⟨_, rfl, Weak.refl _ _, trivial⟩, ⟨_, rfl, Weak.refl _ _, ltb rfl⟩, ⟨_, rfl, Weak.refl _ _, ltb rfl⟩, ⟨_, rfl, Weak.refl _ _, ltb rfl⟩, ⟨_, rfl, Weak.refl _ _, ltb rfl⟩, ⟨_, rfl, Weak.refl _ _, ltb rfl⟩, ⟨_, rfl, Weak.refl _ _, trivial⟩, trivial⟩, ?_, ⟨⟨_, rfl, under_eInts _ _, trivial⟩, ⟨_, rfl, ⟨trivial, ltb rfl, ltb rfl, ltb rfl, ltb rfl, ltb rfl, trivial⟩, trivial⟩, trivial⟩⟩
            exact ⟨⟨rfl, ltb rfl⟩, ⟨rfl, ltb rfl⟩, ⟨rfl, ltb rfl⟩, ⟨rfl, ltb rfl⟩, ⟨rfl, ltb rfl⟩, trivial⟩
      · refine IfB.mk (fun e => by cases e) (fun _ => ?_)
        refine ⟨leb rfl, ?_⟩
        have er : r = b.cues.toNat - m - s := by omega
        subst er
        have hI' : (runF (goodF v tune b.cues.toNat) (subsL b.cues.toNat (m + 1) s now) out).1 = false := hI
        rw [hI']
        refine ⟨.inl rfl, ?_, FinF.mk _ rfl rfl rfl⟩
        exact ⟨⟨rfl, ltb rfl⟩, ⟨rfl, ltb rfl⟩, ⟨rfl, ltb rfl⟩, ⟨rfl, ltb rfl⟩, ⟨rfl, ltb rfl⟩, trivial⟩
end

/-- All lists, the shorter ones first. -/
def allS (K r : Nat) : List (List Int) := (List.range r).flatMap fun m => subsL K m 0 []
theorem allS_succ (K r : Nat) : allS K (r + 1) = allS K r ++ subsL K r 0 [] := by
  unfold allS
  rw [List.range_succ, List.flatMap_append, List.flatMap_cons, List.flatMap_nil, List.append_nil]
theorem allS_more (K : Nat) {r n : Nat} (h : r ≤ n) : ∃ b, allS K n = allS K r ++ b := by
  obtain ⟨d, rfl⟩ : ∃ d, n = r + d := ⟨n - r, by omega⟩
  unfold allS
  rw [List.range_add, List.flatMap_append]
  exact ⟨_, rfl⟩
/-- The fence. -/
noncomputable def fenceL (v : Vers) (tune : Int) (K : Nat) : List Int := (runF (goodF v tune K) (allS K (K + 1)) []).2

set_option maxHeartbeats 4000000 in
set_option maxRecDepth 100000 in
theorem c_Fence {b : Book} (hl : BLen b) (hB : BOk b) {i : Int} {v : Vers} (hi : inI i 0 (b.vs.length - 1)) (hv : b.vs[i.toNat]? = some v) {tune : Int} (ht : inI tune 0 (b.tunes - 1)) (H : List Blk) :
    ACall Tryz.prog 73 [eBook b, n' i, n' tune] H (.ret (.tup [eInts (fenceL v tune b.cues.toNat), .lit (.int .i64 0)])) H := by
  obtain ⟨hvo, hv0⟩ := (hB.2 v (List.mem_of_getElem? hv)).vers
  have hv4 := (hB.2 v (List.mem_of_getElem? hv)).2
  have hbc := hB.1.1
  unfold inI at hv4 hbc
  refine fn_rule (m := false) (fn := Tryz.f73) (c := (Tryz.f73.body).getD .skip) mixed (by kernel_rfl) (by kernel_rfl) (of_decide_eq_true (by kernel_rfl)) ?_ ?_ ?_ H
  · exact ⟨under_eBook 0 _, trivial, trivial, trivial⟩
  · exact ⟨under_eInts 0 _, trivial, trivial⟩
  · refine CallG.bool (c_isBook hl) (fun _ => ?_) (fun x => absurd hB x)
    refine CallG.bool (c_hasVersion hB.fit i) (fun _ => ?_) (fun x => absurd hi x)
    refine CallG.bool (c_hasTune hB.fit tune) (fun _ => ?_) (fun x => absurd ht x)
    refine IfB.mk (fun e => by cases e) (fun _ => ?_)
    refine Side.mk (fits64 (by omega)) ?_
    refine LoopG.at (n0 := 5) rfl ?_
    refine LoopG.box 3 [eInts []] 3 (leb rfl) (leb rfl) rfl (.cons (fun _ H _ => wk_nil H) (.nil _)) ?_
    refine loop_up mixed (m := false) (fun r => [(8, .ptr 3 0), (9, .ptr 4 0), (29, n' (b.cues + 1)), (30, n' r)]) (fun r => fenL b i tune (runF (goodF v tune b.cues.toNat) (allS b.cues.toNat r) []).2) (fun r => (runF (goodF v tune b.cues.toNat) (allS b.cues.toNat r) []).1 = false) (b.cues.toNat + 1) 3 (leb rfl) rfl ?_ ?_ ?_
    · exact ⟨⟨_, rfl, Weak.refl _ _, ltb rfl⟩, ⟨_, rfl, Weak.refl _ _, ltb rfl⟩, ⟨_, rfl, Weak.refl _ _, trivial⟩, ⟨_, rfl, Weak.refl _ _, trivial⟩, trivial⟩
    · exact ⟨⟨rfl, ltb rfl⟩, ⟨rfl, ltb rfl⟩, ⟨rfl, ltb rfl⟩, ⟨rfl, ltb rfl⟩, ⟨rfl, ltb rfl⟩, trivial⟩
    · intro r hr hI
      have hsucc := allS_succ b.cues.toNat r
      have happ := runF_append (good := goodF v tune b.cues.toNat) (a := allS b.cues.toNat r) (b := subsL b.cues.toNat r 0 []) (out := [])
      rw [hI] at happ
      simp only [Bool.false_eq_true, if_false] at happ
      refine If.mk (fun h1 => ?_) (fun h1 => ?_)
      · refine IfB.mk (fun _ => ?_) (fun e => by cases e)
        refine CallG.pre (eInts [] :: n' (0 : Nat) :: n' (r : Nat) :: srF) (fenL b i tune (runF (goodF v tune b.cues.toNat) (allS b.cues.toNat r) []).2) (fenL b i tune (runF (goodF v tune b.cues.toNat) (allS b.cues.toNat (r + 1)) []).2) (nb (runF (goodF v tune b.cues.toNat) (allS b.cues.toNat (r + 1)) []).1) 3
          (.cons (fun H => wk_nil H) (.cons (fun H => WeakH.refl _ H) (.cons (fun H => WeakH.refl _ H) (.cons (fun H => WeakH.refl _ H) (.cons (fun H => WeakH.refl _ H) (.cons (fun H => WeakH.refl _ H) (.cons (fun H => WeakH.refl _ H) (.cons (fun H => WeakH.refl _ H) .nil))))))))
          (fenL_numd _ _ _ _) (fenL_numd _ _ _ _) rfl (fenL_marks _ _ _ _ _) ?_ rfl ⟨under_eInts _ _, trivial, trivial, ltb rfl, ltb rfl, ltb rfl, ltb rfl, ltb rfl, trivial⟩ rfl (fenL_under _ _ _ _) (fenL_under _ _ _ _) ?_ ?_
        · exact ⟨⟨rfl, ltb rfl⟩, ⟨rfl, ltb rfl⟩, ⟨rfl, ltb rfl⟩, ⟨rfl, ltb rfl⟩, ⟨rfl, ltb rfl⟩, trivial⟩
        · rw [hsucc, happ]
          exact c_fen hi.1 hv hvo hv0 (by omega) hB.1.1 tune r 0 [] _ (by simp; omega) (by omega)
        · refine IfB.mk (fun hb => ?_) (fun hb => ?_)
          · obtain ⟨rest, hrest⟩ := allS_more b.cues.toNat (r := r + 1) (n := b.cues.toNat + 1) (by omega)
            have hall := runF_append (good := goodF v tune b.cues.toNat) (a := allS b.cues.toNat (r + 1)) (b := rest) (out := [])
            rw [← hrest, hb, if_pos rfl] at hall
            refine ⟨leb rfl, ?_⟩
            refine ⟨.inl rfl, FinG.mk _ rfl rfl ?_⟩
            show AV.tup [AV.freeze _ (eInts _), _] = _
            rw [freeze_eInts]
            unfold fenceL
            rw [hall]
            rfl
          · refine Side.mk (fits64 (by omega)) ?_
            refine ⟨leb rfl, rfl, by omega, hb, ⟨⟨_, rfl, Weak.refl _ _, ltb rfl⟩, ⟨_, rfl, Weak.refl _ _, ltb rfl⟩, ⟨_, rfl, Weak.refl _ _, trivial⟩, ⟨_, rfl, Weak.refl _ _, trivial⟩, trivial⟩, ?_, ⟨⟨_, rfl, under_eInts _ _, trivial⟩, ⟨_, rfl, ⟨trivial, ltb rfl, ltb rfl, ltb rfl, ltb rfl, ltb rfl, trivial⟩, trivial⟩, trivial⟩⟩
            exact ⟨⟨rfl, ltb rfl⟩, ⟨rfl, ltb rfl⟩, ⟨rfl, ltb rfl⟩, ⟨rfl, ltb rfl⟩, ⟨rfl, ltb rfl⟩, trivial⟩
      · refine IfB.mk (fun e => by cases e) (fun _ => ?_)
        refine ⟨leb rfl, ?_⟩
        have er : r = b.cues.toNat + 1 := by omega
        subst er
        refine ⟨.inl rfl, FinG.mk _ rfl rfl ?_⟩
        show AV.tup [AV.freeze _ (eInts _), _] = _
        rw [freeze_eInts]
        rfl
end Go.Vm
