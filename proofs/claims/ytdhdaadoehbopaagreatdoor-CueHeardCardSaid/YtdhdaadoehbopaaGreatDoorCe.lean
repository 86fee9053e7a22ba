/-
  Contracts of functions of packages kelirref04 and cue about cues that were misheard, by ranges over functions, for books and lists as told at each, in every heap. Conditions: at each theorem.
-/
import Derived.Test.YtdhdaadoehbopaaGreatDoorCd

/-
  Contracts: few, Misheard, Apart of package kelirref04. (Own work.)
-/
namespace Go.Vm
open Go.Proofs

theorem aop_slice1 {m : Bool} {g : Nat → Option Blk} {n : Nat} {ρ : Operand → Option AV} {o : Oper} {x i : Operand} {a : Int} {l : List Int} (ho : o.op = .slice 25 x (some i) none none) (hx : ρ x = some (eInts (a :: l))) (hi : ρ i = some (n' 1)) :
    aopF Tryz.prog m g n ρ o = some (.val (eInts l) .same) := by
  rw [aopF_fun]
  obtain ⟨dst, op, ty, pos, after, guard⟩ := o
  simp only at ho
  subst ho
  have hu : Tryz.prog.underlying 25 = some (.slice 3) := by kernel_rfl
  have hs : tsz Tryz.prog 3 = some 1 := by kernel_rfl
  have e : sliceA Tryz.prog 25 (eInts (a :: l)) (some 1) none none = some (eInts l) := by
    unfold eInts sliceA
    simp only [hu, hs]
    rw [if_pos (by simp)]
    simp [List.take_of_length_le]
  have hn : natOf (some (n' 1)) = some (some 1) := by simp [natOf, n']
  have ha : ∀ H, aop Tryz.prog m H ρ { dst := dst, op := Op.slice 25 x (some i) none none, type := ty, pos := pos, after := after, guard := guard } = some (.val (eInts l) H) := fun H => by
    simp only [aop, hx, Option.bind_some, hi, hn, Option.bind_none]
    simp only [natOf, e]
    rfl
  simp only [aopT]
  unfold plainT
  rw [ha]

theorem apartN_le : ∀ a b : List Int, apartN a b ≤ a.length
  | [], _ => Nat.zero_le _
  | _ :: _, [] => Nat.zero_le _
  | a :: l, b :: m => by
    show (if b ≠ a then 1 else 0) + apartN l m ≤ l.length + 1
    have := apartN_le l m
    split <;> omega

theorem few_le {c : Nat} {v : Vers} {s : Nat} {cues tunes : List Int} (h : cues.length = tunes.length) (ht : ∀ t ∈ tunes, -1 ≤ t) {p : List Int × Nat} (hp : fewL c v s cues tunes = some p) : p.1.length = tunes.length ∧ p.2 ≤ cues.length := by
  rw [← few_best h ht] at hp
  obtain ⟨h1, h2⟩ := best_eq hp
  refine ⟨?_, by rw [h2]; exact apartN_le _ _⟩
  unfold hitS at h1
  exact (enumT_mem.1 (List.mem_filter.1 h1).1).1

theorem ACall.weakRet {P : Program} {f : FuncId} {args : List AV} {H H' : List Blk} {v v' : AV} (h : ACall P f args H (.ret v) H') (hw : ∀ H, WeakH H v v') : ACall P f args H (.ret v') H' := by
  intro O ι w cs hR hargs
  refine (h O ι w cs hR hargs).mono ?_
  rintro e w' ⟨ι', hend, hR', hev, hnon⟩
  refine ⟨ι', ?_, hR', hev, hnon⟩
  cases e with
  | returned c => exact hw H' O ι' w' c hend
  | panicked chain => exact hend.elim
  | outgrown => exact hend.elim

/-- What few returns. -/
def fewO : Option (List Int × Nat) → List Int
  | none => []
  | some p => p.1
def fewN : Option (List Int × Nat) → Int
  | none => -1
  | some p => p.2
def fewR (o : Option (List Int × Nat)) : AV := .tup [eInts (fewO o), n' (fewN o)]

theorem few_nil {c : Nat} {v : Vers} {s : Nat} {t : List Int} : fewL c v s [] t = some ([], 0) := rfl

/-- The best of the first cues. -/
def fewS (c : Nat) (v : Vers) (s : Nat) (c0 t : Int) (cs ts : List Int) (r : Nat) : Option (List Int × Nat) := (List.range r).foldl (fun o i => better o (fewStep c0 t (mv v s i) i (fewL c v (mv v s i).1.toNat cs ts))) none
theorem fewS_succ {c : Nat} {v : Vers} {s : Nat} {c0 t : Int} {cs ts : List Int} {r : Nat} : fewS c v s c0 t cs ts (r + 1) = better (fewS c v s c0 t cs ts r) (fewStep c0 t (mv v s r) r (fewL c v (mv v s r).1.toNat cs ts)) := by
  unfold fewS
  rw [List.range_succ, List.foldl_append]
  rfl

theorem better_le {α : Type} {m : Nat} {a b : Option (α × Nat)} (ha : ∀ p, a = some p → p.2 ≤ m) (hb : ∀ p, b = some p → p.2 ≤ m) : ∀ p, better a b = some p → p.2 ≤ m := fun p h => by
  cases b with
  | none => rw [better_none'] at h; exact ha p h
  | some y =>
    cases a with
    | none => rw [better_none] at h; exact hb p h
    | some x =>
      simp only [better] at h
      split at h
      · exact hb p h
      · exact ha p h

theorem fewS_le {c : Nat} {v : Vers} {s : Nat} {c0 t : Int} {cs ts : List Int} (hl : cs.length = ts.length) (ht : ∀ t ∈ ts, -1 ≤ t) : ∀ (r : Nat) (p : List Int × Nat), fewS c v s c0 t cs ts r = some p → p.2 ≤ cs.length + 1
  | 0, p, h => by cases h
  | r + 1, p, h => by
    rw [fewS_succ] at h
    refine better_le (fewS_le hl ht r) (fun q hq => ?_) p h
    unfold fewStep at hq
    split at hq
    · cases hq
    · obtain ⟨q0, h0, rfl⟩ := Option.map_eq_some_iff.1 hq
      have := (few_le hl ht h0).2
      show q0.2 + _ ≤ _
      split <;> omega

theorem wk_tup2 {H : List Blk} {a a' b : AV} (h : WeakH H a a') : WeakH H (.tup [a, b]) (.tup [a', b]) := fun O ι w c x => by
  simp only [VRel] at x ⊢
  obtain ⟨C, hc, hr⟩ := x
  refine ⟨C, hc, ?_⟩
  generalize C.toList = cs at hr ⊢
  match cs, hr with
  | [], hr => simp [VRels] at hr
  | [_], hr => simp [VRels] at hr
  | x :: y :: cs, hr =>
    simp only [VRels] at hr ⊢
    exact ⟨h O ι w x hr.1, hr.2⟩

theorem app_cons {g : Nat → Option Blk} {n : Nat} {a : Int} {l : List Int} (h : l ≠ []) (hl : l.length ≤ 2000000) : appT Tryz.prog false g n 25 25 (.sl 1 [n' a] .full) (eInts l) = some (.sl (1 + l.length) ([n' a] ++ l.map n') (.own n 0 1), .push (.row 0)) :=
  appT_full (e := 3) (bytes := 8) (z := .int .i64 0) (by kernel_rfl) (by kernel_rfl) (by kernel_rfl) (by kernel_rfl) (by kernel_rfl) (src_ints g l) (List.length_pos_iff.2 h) rfl (by omega)
theorem wk_cons {t : Trie Blk} {a : Int} {l : List Int} {tl : Tail} : Weak t (.sl (1 + l.length) ([n' a] ++ l.map n') tl) (eInts (a :: l)) := fun _ H _ => by
  have e : eInts (a :: l) = .sl (1 + l.length) ([n' a] ++ l.map n') .unk := by
    unfold eInts
    rw [List.length_cons, Nat.add_comm, List.map_cons]; rfl
  rw [e]
  exact WeakH.tail _ _ _ H


set_option maxRecDepth 100000 in
theorem c_few0 (v : Vers) (s : Nat) (tunes : List Int) (H : List Blk) : ACall Tryz.prog 131 [eVersion v, n' s, eInts [], eInts tunes] H (.ret (fewR (some ([], 0)))) H := by
  refine ACall.weakRet (v := .tup [.lit (.slice none 0 0), n' 0]) ?_ fun H => wk_tup2 (wk_nil H)
  refine fn_rule (m := false) (fn := Tryz.f131) (c := (Tryz.f131.body).getD .skip) mixed (by kernel_rfl) (by kernel_rfl) (of_decide_eq_true (by kernel_rfl)) ?_ ?_ ?_ H
  · exact ⟨under_eVersion 0 _, trivial, under_eInts 0 _, under_eInts 0 _, trivial⟩
  · exact ⟨trivial, trivial, trivial⟩
  · refine If.mk (fun _ => ?_) (fun h => absurd (by decide) h)
    refine IfB.mk (fun _ => ?_) (fun e => by cases e)
    exact ⟨.inl rfl, FinG.mk _ rfl rfl rfl⟩

set_option maxHeartbeats 4000000 in
set_option maxRecDepth 100000 in
theorem c_few {v : Vers} {k : Nat} (hv : VersOk v k) (hk : k ≤ 1000) : ∀ (cues tunes : List Int) (s : Nat), s < v.length → cues.length = tunes.length → cues.length ≤ 1000 → (∀ t ∈ tunes, -1 ≤ t) → ∀ H : List Blk, ACall Tryz.prog 131 [eVersion v, n' s, eInts cues, eInts tunes] H (.ret (fewR (fewL k v s cues tunes))) H
  | [], tunes, s, _, _, _, _, H => c_few0 v s tunes H
  | c0 :: cs, [], s, _, h, _, _, H => by simp at h
  | c0 :: cs, t :: ts, s, hs, hl, hl2, ht, H => by
    have hl' : cs.length = ts.length := by simpa using hl
    have hl2' : cs.length ≤ 999 := by simpa using hl2
    have ht' : ∀ t ∈ ts, -1 ≤ t := fun t h => ht t (List.mem_cons_of_mem _ h)
    have hin : ∀ r, fewN (fewS k v s c0 t cs ts r) ≤ 1000 ∧ -1 ≤ fewN (fewS k v s c0 t cs ts r) := fun r => by
      cases hw : fewS k v s c0 t cs ts r with
      | none => exact ⟨by decide, by decide⟩
      | some p =>
        have := fewS_le hl' ht' r p hw
        show (p.2 : Int) ≤ 1000 ∧ -1 ≤ (p.2 : Int)
        omega
    refine fn_rule (m := false) (fn := Tryz.f131) (c := (Tryz.f131.body).getD .skip) mixed (by kernel_rfl) (by kernel_rfl) (of_decide_eq_true (by kernel_rfl)) ?_ ?_ ?_ H
    · exact ⟨under_eVersion 0 _, trivial, under_eInts 0 _, under_eInts 0 _, trivial⟩
    · exact ⟨under_eInts 0 _, trivial, trivial⟩
    · refine If.mk (fun h => absurd h (by rw [List.length_cons]; omega)) (fun _ => ?_)
      refine IfB.mk (fun e => by cases e) (fun _ => ?_)
      refine LoopG.at (n0 := 1) rfl (loop_up mixed (m := false) (fun r => [(1, n' s), (2, eInts (c0 :: cs)), (3, eInts (t :: ts)), (4, .ptr 0 0), (10, eInts (fewO (fewS k v s c0 t cs ts r))), (11, n' (fewN (fewS k v s c0 t cs ts r))), (12, n' r)]) (fun _ => [(0, vBox v)]) (fun _ => True) k 1 (leb rfl) trivial ?_ ?_ ?_)
      · exact ⟨⟨_, rfl, Weak.refl _ _, trivial⟩, ⟨_, rfl, Weak.refl _ _, under_eInts _ _⟩, ⟨_, rfl, Weak.refl _ _, under_eInts _ _⟩, ⟨_, rfl, Weak.refl _ _, ltb rfl⟩, ⟨_, rfl, fun _ H _ => wk_nil H, under_eInts _ _⟩, ⟨_, rfl, Weak.refl _ _, trivial⟩, ⟨_, rfl, Weak.refl _ _, trivial⟩, trivial⟩
      · exact ⟨⟨rfl, ltb rfl⟩, trivial⟩
      · intro r hr _
        have hS := fewS_succ (c := k) (v := v) (s := s) (c0 := c0) (t := t) (cs := cs) (ts := ts) (r := r)
        have hb := hin r
        have hlast : fewS k v s c0 t cs ts k = fewL k v s (c0 :: cs) (t :: ts) := rfl
        generalize hw : fewS k v s c0 t cs ts r = w at hS hb ⊢
        obtain ⟨x, hx1⟩ : ∃ x, v[s]? = some x := ⟨_, List.getElem?_eq_getElem hs⟩
        have hxl := (hv x (List.mem_of_getElem? hx1)).1
        refine Ex.mk _ (jx_states (r := s) rfl hx1) ?_
        refine Ex.mk _ rfl ?_
        refine If.mk (fun h1 => ?_) (fun h1 => ?_)
        · refine IfB.mk (fun _ => ?_) (fun e => by cases e)
          obtain ⟨y, hy1, hy2, hy3, hy4⟩ := mv_at (s := s) (c := r) hv hs (by omega)
          obtain rfl : x = y := Option.some.inj (hx1.symm.trans hy1)
          refine Ex.mk _ (jx_states (r := s) rfl hx1) ?_
          refine Ex.mk _ rfl ?_
          refine Ex.mk _ (jx_moves (r := r) rfl hy2) ?_
          refine Ex.mk _ rfl ?_
          refine Ex.mk _ (jx_ints (r := 0) rfl rfl) ?_
          refine Ex.mk _ rfl ?_
          refine If.mk (fun h2 => ?_) (fun h2 => ?_)
          · have hA : ¬ (t ≠ -1 ∧ t ≠ (mv v s r).2) := fun h => h.1 h2
            refine IfB.mk (fun e => by cases e) (fun _ => ?_)
            refine Ex.mk _ (aop_slice1 rfl rfl rfl) ?_
            refine Ex.mk _ (aop_slice1 rfl rfl rfl) ?_
            have ih := c_few hv hk cs ts (mv v s r).1.toNat hy3 hl' (by omega) ht'
            rw [hy4] at ih
            have hlen : ∀ p, fewL k v (mv v s r).1.toNat cs ts = some p → p.1.length = ts.length ∧ p.2 ≤ cs.length := fun p hp => few_le hl' ht' hp
            have hstep : fewStep c0 t (mv v s r) r (fewL k v (mv v s r).1.toNat cs ts) = (fewL k v (mv v s r).1.toNat cs ts).map fun p => ((r : Int) :: p.1, p.2 + if (r : Int) ≠ c0 then 1 else 0) := if_neg hA
            generalize fewL k v (mv v s r).1.toNat cs ts = o at ih hstep hlen hS
            cases o with
            | none =>
              refine CallG.pure _ (ih) ?_
              refine If.mk (fun _ => ?_) (fun h => absurd (by decide) h)
              refine IfB.mk (fun _ => ?_) (fun e => by cases e)
              have e3 : fewS k v s c0 t cs ts (r + 1) = w := by rw [hS, hstep]; exact better_none' w
              refine Side.mk (fits64 (by omega)) ?_
              exact ⟨leb rfl, rfl, by omega, trivial, ⟨⟨_, rfl, Weak.refl _ _, trivial⟩, ⟨_, rfl, Weak.refl _ _, under_eInts _ _⟩, ⟨_, rfl, Weak.refl _ _, under_eInts _ _⟩, ⟨_, rfl, Weak.refl _ _, ltb rfl⟩, ⟨_, rfl, Weak.of_eq (congrArg (fun z => eInts (fewO z)) (e3).symm), under_eInts _ _⟩, ⟨_, rfl, Weak.of_eq (congrArg (fun z => n' (fewN z)) (e3).symm), trivial⟩, ⟨_, rfl, Weak.refl _ _, trivial⟩, trivial⟩, ⟨⟨rfl, ltb rfl⟩, trivial⟩, trivial⟩
            | some p =>
              obtain ⟨hp1, hp2⟩ := hlen p rfl
              obtain ⟨pl, pn⟩ := p
              have hp1 : pl.length = ts.length := hp1
              have hp2 : pn ≤ cs.length := hp2
              have hstep : fewStep c0 t (mv v s r) r (some (pl, pn)) = some ((r : Int) :: pl, pn + if (r : Int) ≠ c0 then 1 else 0) := hstep
              refine CallG.pure _ (ih) ?_
              refine If.mk (fun h => absurd h (by show ¬ ((pn : Int) < 0); omega)) (fun _ => ?_)
              refine IfB.mk (fun e => by cases e) (fun _ => ?_)
              refine Ex.mk _ (jx_ints (r := 0) rfl rfl) ?_
              refine Ex.mk _ rfl ?_
              refine If.mk (fun h6 => ?_) (fun h6 => ?_)
              · refine IfB.mk (fun e => by cases e) (fun _ => ?_)
                have hc0 : (if (r : Int) ≠ c0 then 1 else 0) = 0 := if_neg (fun h => h h6)
                cases w with
                | none =>
                  refine If.mk (fun _ => ?_) (fun h => absurd (by decide) h)
                  refine IfB.mk (fun _ => ?_) (fun e => by cases e)
                  have e3 : fewS k v s c0 t cs ts (r + 1) = some ((r : Int) :: pl, pn + 0) := by rw [hS, hstep, better_none, hc0]
                  have e4 : n' (fewN (fewS k v s c0 t cs ts (r + 1))) = n' ((pn + 0 : Nat) : Int) := by rw [e3]; rfl
                  cases pl with
                  | nil =>
                    refine Ex.mk _ rfl ?_
                    refine Side.mk (fits64 (by omega)) ?_
                    exact ⟨leb rfl, rfl, by omega, trivial, ⟨⟨_, rfl, Weak.refl _ _, trivial⟩, ⟨_, rfl, Weak.refl _ _, under_eInts _ _⟩, ⟨_, rfl, Weak.refl _ _, under_eInts _ _⟩, ⟨_, rfl, Weak.refl _ _, ltb rfl⟩, ⟨_, rfl, fun _ H _ => by rw [e3]; exact WeakH.tail 1 [n' r] _ H, under_eInts _ _⟩, ⟨_, rfl, Weak.of_eq (e4.symm), trivial⟩, ⟨_, rfl, Weak.refl _ _, trivial⟩, trivial⟩, ⟨⟨rfl, ltb rfl⟩, trivial⟩, trivial⟩
                  | cons y0 pl =>
                    refine ex_app _ _ (app_cons (l := y0 :: pl) (by simp) (by rw [hp1]; omega)) ?_
                    refine Side.mk (fits64 (by omega)) ?_
                    exact ⟨leb rfl, rfl, by omega, trivial, ⟨⟨_, rfl, Weak.refl _ _, trivial⟩, ⟨_, rfl, Weak.refl _ _, under_eInts _ _⟩, ⟨_, rfl, Weak.refl _ _, under_eInts _ _⟩, ⟨_, rfl, Weak.refl _ _, ltb rfl⟩, ⟨_, rfl, by rw [e3]; exact wk_cons, under_eInts _ _⟩, ⟨_, rfl, Weak.of_eq (e4.symm), trivial⟩, ⟨_, rfl, Weak.refl _ _, trivial⟩, trivial⟩, ⟨⟨rfl, ltb rfl⟩, trivial⟩, trivial⟩
                | some q =>
                  have hb2 : (q.2 : Int) ≤ 1000 ∧ -1 ≤ (q.2 : Int) := hb
                  refine If.mk (fun h => absurd h (by show ¬ ((q.2 : Int) < 0); omega)) (fun _ => ?_)
                  refine If.mk (fun h7 => ?_) (fun h7 => ?_)
                  · have h7' : (pn : Int) + 0 < q.2 := h7
                    refine IfB.mk (fun _ => ?_) (fun e => by cases e)
                    have e3 : fewS k v s c0 t cs ts (r + 1) = some ((r : Int) :: pl, pn + 0) := by
                      rw [hS, hstep, hc0]
                      show (if pn + 0 < q.2 then _ else _) = _
                      rw [if_pos (by omega)]
                    have e4 : n' (fewN (fewS k v s c0 t cs ts (r + 1))) = n' ((pn + 0 : Nat) : Int) := by rw [e3]; rfl
                    cases pl with
                    | nil =>
                      refine Ex.mk _ rfl ?_
                      refine Side.mk (fits64 (by omega)) ?_
                      exact ⟨leb rfl, rfl, by omega, trivial, ⟨⟨_, rfl, Weak.refl _ _, trivial⟩, ⟨_, rfl, Weak.refl _ _, under_eInts _ _⟩, ⟨_, rfl, Weak.refl _ _, under_eInts _ _⟩, ⟨_, rfl, Weak.refl _ _, ltb rfl⟩, ⟨_, rfl, fun _ H _ => by rw [e3]; exact WeakH.tail 1 [n' r] _ H, under_eInts _ _⟩, ⟨_, rfl, Weak.of_eq (e4.symm), trivial⟩, ⟨_, rfl, Weak.refl _ _, trivial⟩, trivial⟩, ⟨⟨rfl, ltb rfl⟩, trivial⟩, trivial⟩
                    | cons y0 pl =>
                      refine ex_app _ _ (app_cons (l := y0 :: pl) (by simp) (by rw [hp1]; omega)) ?_
                      refine Side.mk (fits64 (by omega)) ?_
                      exact ⟨leb rfl, rfl, by omega, trivial, ⟨⟨_, rfl, Weak.refl _ _, trivial⟩, ⟨_, rfl, Weak.refl _ _, under_eInts _ _⟩, ⟨_, rfl, Weak.refl _ _, under_eInts _ _⟩, ⟨_, rfl, Weak.refl _ _, ltb rfl⟩, ⟨_, rfl, by rw [e3]; exact wk_cons, under_eInts _ _⟩, ⟨_, rfl, Weak.of_eq (e4.symm), trivial⟩, ⟨_, rfl, Weak.refl _ _, trivial⟩, trivial⟩, ⟨⟨rfl, ltb rfl⟩, trivial⟩, trivial⟩
                  · have h7' : ¬ ((pn : Int) + 0 < q.2) := h7
                    refine IfB.mk (fun e => by cases e) (fun _ => ?_)
                    have e3 : fewS k v s c0 t cs ts (r + 1) = some q := by
                      rw [hS, hstep, hc0]
                      show (if pn + 0 < q.2 then _ else _) = _
                      rw [if_neg (by omega)]
                    refine Side.mk (fits64 (by omega)) ?_
                    exact ⟨leb rfl, rfl, by omega, trivial, ⟨⟨_, rfl, Weak.refl _ _, trivial⟩, ⟨_, rfl, Weak.refl _ _, under_eInts _ _⟩, ⟨_, rfl, Weak.refl _ _, under_eInts _ _⟩, ⟨_, rfl, Weak.refl _ _, ltb rfl⟩, ⟨_, rfl, Weak.of_eq (congrArg (fun z => eInts (fewO z)) (e3).symm), under_eInts _ _⟩, ⟨_, rfl, Weak.of_eq (congrArg (fun z => n' (fewN z)) (e3).symm), trivial⟩, ⟨_, rfl, Weak.refl _ _, trivial⟩, trivial⟩, ⟨⟨rfl, ltb rfl⟩, trivial⟩, trivial⟩
              · refine IfB.mk (fun _ => ?_) (fun e => by cases e)
                have hc0 : (if (r : Int) ≠ c0 then 1 else 0) = 1 := if_pos h6
                refine Side.mk (fits64 (by show -9223372036854775808 ≤ (pn : Int) + 1 ∧ (pn : Int) + 1 < 9223372036854775808; omega)) ?_
                cases w with
                | none =>
                  refine If.mk (fun _ => ?_) (fun h => absurd (by decide) h)
                  refine IfB.mk (fun _ => ?_) (fun e => by cases e)
                  have e3 : fewS k v s c0 t cs ts (r + 1) = some ((r : Int) :: pl, pn + 1) := by rw [hS, hstep, better_none, hc0]
                  have e4 : n' (fewN (fewS k v s c0 t cs ts (r + 1))) = n' ((pn + 1 : Nat) : Int) := by rw [e3]; rfl
                  cases pl with
                  | nil =>
                    refine Ex.mk _ rfl ?_
                    refine Side.mk (fits64 (by omega)) ?_
                    exact ⟨leb rfl, rfl, by omega, trivial, ⟨⟨_, rfl, Weak.refl _ _, trivial⟩, ⟨_, rfl, Weak.refl _ _, under_eInts _ _⟩, ⟨_, rfl, Weak.refl _ _, under_eInts _ _⟩, ⟨_, rfl, Weak.refl _ _, ltb rfl⟩, ⟨_, rfl, fun _ H _ => by rw [e3]; exact WeakH.tail 1 [n' r] _ H, under_eInts _ _⟩, ⟨_, rfl, Weak.of_eq (e4.symm), trivial⟩, ⟨_, rfl, Weak.refl _ _, trivial⟩, trivial⟩, ⟨⟨rfl, ltb rfl⟩, trivial⟩, trivial⟩
                  | cons y0 pl =>
                    refine ex_app _ _ (app_cons (l := y0 :: pl) (by simp) (by rw [hp1]; omega)) ?_
                    refine Side.mk (fits64 (by omega)) ?_
                    exact ⟨leb rfl, rfl, by omega, trivial, ⟨⟨_, rfl, Weak.refl _ _, trivial⟩, ⟨_, rfl, Weak.refl _ _, under_eInts _ _⟩, ⟨_, rfl, Weak.refl _ _, under_eInts _ _⟩, ⟨_, rfl, Weak.refl _ _, ltb rfl⟩, ⟨_, rfl, by rw [e3]; exact wk_cons, under_eInts _ _⟩, ⟨_, rfl, Weak.of_eq (e4.symm), trivial⟩, ⟨_, rfl, Weak.refl _ _, trivial⟩, trivial⟩, ⟨⟨rfl, ltb rfl⟩, trivial⟩, trivial⟩
                | some q =>
                  have hb2 : (q.2 : Int) ≤ 1000 ∧ -1 ≤ (q.2 : Int) := hb
                  refine If.mk (fun h => absurd h (by show ¬ ((q.2 : Int) < 0); omega)) (fun _ => ?_)
                  refine If.mk (fun h7 => ?_) (fun h7 => ?_)
                  · have h7' : (pn : Int) + 1 < q.2 := h7
                    refine IfB.mk (fun _ => ?_) (fun e => by cases e)
                    have e3 : fewS k v s c0 t cs ts (r + 1) = some ((r : Int) :: pl, pn + 1) := by
                      rw [hS, hstep, hc0]
                      show (if pn + 1 < q.2 then _ else _) = _
                      rw [if_pos (by omega)]
                    have e4 : n' (fewN (fewS k v s c0 t cs ts (r + 1))) = n' ((pn + 1 : Nat) : Int) := by rw [e3]; rfl
                    cases pl with
                    | nil =>
                      refine Ex.mk _ rfl ?_
                      refine Side.mk (fits64 (by omega)) ?_
                      exact ⟨leb rfl, rfl, by omega, trivial, ⟨⟨_, rfl, Weak.refl _ _, trivial⟩, ⟨_, rfl, Weak.refl _ _, under_eInts _ _⟩, ⟨_, rfl, Weak.refl _ _, under_eInts _ _⟩, ⟨_, rfl, Weak.refl _ _, ltb rfl⟩, ⟨_, rfl, fun _ H _ => by rw [e3]; exact WeakH.tail 1 [n' r] _ H, under_eInts _ _⟩, ⟨_, rfl, Weak.of_eq (e4.symm), trivial⟩, ⟨_, rfl, Weak.refl _ _, trivial⟩, trivial⟩, ⟨⟨rfl, ltb rfl⟩, trivial⟩, trivial⟩
                    | cons y0 pl =>
                      refine ex_app _ _ (app_cons (l := y0 :: pl) (by simp) (by rw [hp1]; omega)) ?_
                      refine Side.mk (fits64 (by omega)) ?_
                      exact ⟨leb rfl, rfl, by omega, trivial, ⟨⟨_, rfl, Weak.refl _ _, trivial⟩, ⟨_, rfl, Weak.refl _ _, under_eInts _ _⟩, ⟨_, rfl, Weak.refl _ _, under_eInts _ _⟩, ⟨_, rfl, Weak.refl _ _, ltb rfl⟩, ⟨_, rfl, by rw [e3]; exact wk_cons, under_eInts _ _⟩, ⟨_, rfl, Weak.of_eq (e4.symm), trivial⟩, ⟨_, rfl, Weak.refl _ _, trivial⟩, trivial⟩, ⟨⟨rfl, ltb rfl⟩, trivial⟩, trivial⟩
                  · have h7' : ¬ ((pn : Int) + 1 < q.2) := h7
                    refine IfB.mk (fun e => by cases e) (fun _ => ?_)
                    have e3 : fewS k v s c0 t cs ts (r + 1) = some q := by
                      rw [hS, hstep, hc0]
                      show (if pn + 1 < q.2 then _ else _) = _
                      rw [if_neg (by omega)]
                    refine Side.mk (fits64 (by omega)) ?_
                    exact ⟨leb rfl, rfl, by omega, trivial, ⟨⟨_, rfl, Weak.refl _ _, trivial⟩, ⟨_, rfl, Weak.refl _ _, under_eInts _ _⟩, ⟨_, rfl, Weak.refl _ _, under_eInts _ _⟩, ⟨_, rfl, Weak.refl _ _, ltb rfl⟩, ⟨_, rfl, Weak.of_eq (congrArg (fun z => eInts (fewO z)) (e3).symm), under_eInts _ _⟩, ⟨_, rfl, Weak.of_eq (congrArg (fun z => n' (fewN z)) (e3).symm), trivial⟩, ⟨_, rfl, Weak.refl _ _, trivial⟩, trivial⟩, ⟨⟨rfl, ltb rfl⟩, trivial⟩, trivial⟩
          · refine Ex.mk _ (jx_ints (r := 0) rfl rfl) ?_
            refine Ex.mk _ rfl ?_
            refine If.mk (fun h3 => ?_) (fun h3 => ?_)
            · have hA : ¬ (t ≠ -1 ∧ t ≠ (mv v s r).2) := fun h => h.2 h3
              refine IfB.mk (fun e => by cases e) (fun _ => ?_)
              refine Ex.mk _ (aop_slice1 rfl rfl rfl) ?_
              refine Ex.mk _ (aop_slice1 rfl rfl rfl) ?_
              have ih := c_few hv hk cs ts (mv v s r).1.toNat hy3 hl' (by omega) ht'
              rw [hy4] at ih
              have hlen : ∀ p, fewL k v (mv v s r).1.toNat cs ts = some p → p.1.length = ts.length ∧ p.2 ≤ cs.length := fun p hp => few_le hl' ht' hp
              have hstep : fewStep c0 t (mv v s r) r (fewL k v (mv v s r).1.toNat cs ts) = (fewL k v (mv v s r).1.toNat cs ts).map fun p => ((r : Int) :: p.1, p.2 + if (r : Int) ≠ c0 then 1 else 0) := if_neg hA
              generalize fewL k v (mv v s r).1.toNat cs ts = o at ih hstep hlen hS
              cases o with
              | none =>
                refine CallG.pure _ (ih) ?_
                refine If.mk (fun _ => ?_) (fun h => absurd (by decide) h)
                refine IfB.mk (fun _ => ?_) (fun e => by cases e)
                have e3 : fewS k v s c0 t cs ts (r + 1) = w := by rw [hS, hstep]; exact better_none' w
                refine Side.mk (fits64 (by omega)) ?_
                exact ⟨leb rfl, rfl, by omega, trivial, ⟨⟨_, rfl, Weak.refl _ _, trivial⟩, ⟨_, rfl, Weak.refl _ _, under_eInts _ _⟩, ⟨_, rfl, Weak.refl _ _, under_eInts _ _⟩, ⟨_, rfl, Weak.refl _ _, ltb rfl⟩, ⟨_, rfl, Weak.of_eq (congrArg (fun z => eInts (fewO z)) (e3).symm), under_eInts _ _⟩, ⟨_, rfl, Weak.of_eq (congrArg (fun z => n' (fewN z)) (e3).symm), trivial⟩, ⟨_, rfl, Weak.refl _ _, trivial⟩, trivial⟩, ⟨⟨rfl, ltb rfl⟩, trivial⟩, trivial⟩
              | some p =>
                obtain ⟨hp1, hp2⟩ := hlen p rfl
                obtain ⟨pl, pn⟩ := p
                have hp1 : pl.length = ts.length := hp1
                have hp2 : pn ≤ cs.length := hp2
                have hstep : fewStep c0 t (mv v s r) r (some (pl, pn)) = some ((r : Int) :: pl, pn + if (r : Int) ≠ c0 then 1 else 0) := hstep
                refine CallG.pure _ (ih) ?_
                refine If.mk (fun h => absurd h (by show ¬ ((pn : Int) < 0); omega)) (fun _ => ?_)
                refine IfB.mk (fun e => by cases e) (fun _ => ?_)
                refine Ex.mk _ (jx_ints (r := 0) rfl rfl) ?_
                refine Ex.mk _ rfl ?_
                refine If.mk (fun h6 => ?_) (fun h6 => ?_)
                · refine IfB.mk (fun e => by cases e) (fun _ => ?_)
                  have hc0 : (if (r : Int) ≠ c0 then 1 else 0) = 0 := if_neg (fun h => h h6)
                  cases w with
                  | none =>
                    refine If.mk (fun _ => ?_) (fun h => absurd (by decide) h)
                    refine IfB.mk (fun _ => ?_) (fun e => by cases e)
                    have e3 : fewS k v s c0 t cs ts (r + 1) = some ((r : Int) :: pl, pn + 0) := by rw [hS, hstep, better_none, hc0]
                    have e4 : n' (fewN (fewS k v s c0 t cs ts (r + 1))) = n' ((pn + 0 : Nat) : Int) := by rw [e3]; rfl
                    cases pl with
                    | nil =>
                      refine Ex.mk _ rfl ?_
                      refine Side.mk (fits64 (by omega)) ?_
                      exact ⟨leb rfl, rfl, by omega, trivial, ⟨⟨_, rfl, Weak.refl _ _, trivial⟩, ⟨_, rfl, Weak.refl _ _, under_eInts _ _⟩, ⟨_, rfl, Weak.refl _ _, under_eInts _ _⟩, ⟨_, rfl, Weak.refl _ _, ltb rfl⟩, ⟨_, rfl, fun _ H _ => by rw [e3]; exact WeakH.tail 1 [n' r] _ H, under_eInts _ _⟩, ⟨_, rfl, Weak.of_eq (e4.symm), trivial⟩, ⟨_, rfl, Weak.refl _ _, trivial⟩, trivial⟩, ⟨⟨rfl, ltb rfl⟩, trivial⟩, trivial⟩
                    | cons y0 pl =>
                      refine ex_app _ _ (app_cons (l := y0 :: pl) (by simp) (by rw [hp1]; omega)) ?_
                      refine Side.mk (fits64 (by omega)) ?_
                      exact ⟨leb rfl, rfl, by omega, trivial, ⟨⟨_, rfl, Weak.refl _ _, trivial⟩, ⟨_, rfl, Weak.refl _ _, under_eInts _ _⟩, ⟨_, rfl, Weak.refl _ _, under_eInts _ _⟩, ⟨_, rfl, Weak.refl _ _, ltb rfl⟩, ⟨_, rfl, by rw [e3]; exact wk_cons, under_eInts _ _⟩, ⟨_, rfl, Weak.of_eq (e4.symm), trivial⟩, ⟨_, rfl, Weak.refl _ _, trivial⟩, trivial⟩, ⟨⟨rfl, ltb rfl⟩, trivial⟩, trivial⟩
                  | some q =>
                    have hb2 : (q.2 : Int) ≤ 1000 ∧ -1 ≤ (q.2 : Int) := hb
                    refine If.mk (fun h => absurd h (by show ¬ ((q.2 : Int) < 0); omega)) (fun _ => ?_)
                    refine If.mk (fun h7 => ?_) (fun h7 => ?_)
                    · have h7' : (pn : Int) + 0 < q.2 := h7
                      refine IfB.mk (fun _ => ?_) (fun e => by cases e)
                      have e3 : fewS k v s c0 t cs ts (r + 1) = some ((r : Int) :: pl, pn + 0) := by
                        rw [hS, hstep, hc0]
                        show (if pn + 0 < q.2 then _ else _) = _
                        rw [if_pos (by omega)]
                      have e4 : n' (fewN (fewS k v s c0 t cs ts (r + 1))) = n' ((pn + 0 : Nat) : Int) := by rw [e3]; rfl
                      cases pl with
                      | nil =>
                        refine Ex.mk _ rfl ?_
                        refine Side.mk (fits64 (by omega)) ?_
                        exact ⟨leb rfl, rfl, by omega, trivial, ⟨⟨_, rfl, Weak.refl _ _, trivial⟩, ⟨_, rfl, Weak.refl _ _, under_eInts _ _⟩, ⟨_, rfl, Weak.refl _ _, under_eInts _ _⟩, ⟨_, rfl, Weak.refl _ _, ltb rfl⟩, ⟨_, rfl, fun _ H _ => by rw [e3]; exact WeakH.tail 1 [n' r] _ H, under_eInts _ _⟩, ⟨_, rfl, Weak.of_eq (e4.symm), trivial⟩, ⟨_, rfl, Weak.refl _ _, trivial⟩, trivial⟩, ⟨⟨rfl, ltb rfl⟩, trivial⟩, trivial⟩
                      | cons y0 pl =>
                        refine ex_app _ _ (app_cons (l := y0 :: pl) (by simp) (by rw [hp1]; omega)) ?_
                        refine Side.mk (fits64 (by omega)) ?_
                        exact ⟨leb rfl, rfl, by omega, trivial, ⟨⟨_, rfl, Weak.refl _ _, trivial⟩, ⟨_, rfl, Weak.refl _ _, under_eInts _ _⟩, ⟨_, rfl, Weak.refl _ _, under_eInts _ _⟩, ⟨_, rfl, Weak.refl _ _, ltb rfl⟩, ⟨_, rfl, by rw [e3]; exact wk_cons, under_eInts _ _⟩, ⟨_, rfl, Weak.of_eq (e4.symm), trivial⟩, ⟨_, rfl, Weak.refl _ _, trivial⟩, trivial⟩, ⟨⟨rfl, ltb rfl⟩, trivial⟩, trivial⟩
                    · have h7' : ¬ ((pn : Int) + 0 < q.2) := h7
                      refine IfB.mk (fun e => by cases e) (fun _ => ?_)
                      have e3 : fewS k v s c0 t cs ts (r + 1) = some q := by
                        rw [hS, hstep, hc0]
                        show (if pn + 0 < q.2 then _ else _) = _
                        rw [if_neg (by omega)]
                      refine Side.mk (fits64 (by omega)) ?_
                      exact ⟨leb rfl, rfl, by omega, trivial, ⟨⟨_, rfl, Weak.refl _ _, trivial⟩, ⟨_, rfl, Weak.refl _ _, under_eInts _ _⟩, ⟨_, rfl, Weak.refl _ _, under_eInts _ _⟩, ⟨_, rfl, Weak.refl _ _, ltb rfl⟩, ⟨_, rfl, Weak.of_eq (congrArg (fun z => eInts (fewO z)) (e3).symm), under_eInts _ _⟩, ⟨_, rfl, Weak.of_eq (congrArg (fun z => n' (fewN z)) (e3).symm), trivial⟩, ⟨_, rfl, Weak.refl _ _, trivial⟩, trivial⟩, ⟨⟨rfl, ltb rfl⟩, trivial⟩, trivial⟩
                · refine IfB.mk (fun _ => ?_) (fun e => by cases e)
                  have hc0 : (if (r : Int) ≠ c0 then 1 else 0) = 1 := if_pos h6
                  refine Side.mk (fits64 (by show -9223372036854775808 ≤ (pn : Int) + 1 ∧ (pn : Int) + 1 < 9223372036854775808; omega)) ?_
                  cases w with
                  | none =>
                    refine If.mk (fun _ => ?_) (fun h => absurd (by decide) h)
                    refine IfB.mk (fun _ => ?_) (fun e => by cases e)
                    have e3 : fewS k v s c0 t cs ts (r + 1) = some ((r : Int) :: pl, pn + 1) := by rw [hS, hstep, better_none, hc0]
                    have e4 : n' (fewN (fewS k v s c0 t cs ts (r + 1))) = n' ((pn + 1 : Nat) : Int) := by rw [e3]; rfl
                    cases pl with
                    | nil =>
                      refine Ex.mk _ rfl ?_
                      refine Side.mk (fits64 (by omega)) ?_
                      exact ⟨leb rfl, rfl, by omega, trivial, ⟨⟨_, rfl, Weak.refl _ _, trivial⟩, ⟨_, rfl, Weak.refl _ _, under_eInts _ _⟩, ⟨_, rfl, Weak.refl _ _, under_eInts _ _⟩, ⟨_, rfl, Weak.refl _ _, ltb rfl⟩, ⟨_, rfl, fun _ H _ => by rw [e3]; exact WeakH.tail 1 [n' r] _ H, under_eInts _ _⟩, ⟨_, rfl, Weak.of_eq (e4.symm), trivial⟩, ⟨_, rfl, Weak.refl _ _, trivial⟩, trivial⟩, ⟨⟨rfl, ltb rfl⟩, trivial⟩, trivial⟩
                    | cons y0 pl =>
                      refine ex_app _ _ (app_cons (l := y0 :: pl) (by simp) (by rw [hp1]; omega)) ?_
                      refine Side.mk (fits64 (by omega)) ?_
                      exact ⟨leb rfl, rfl, by omega, trivial, ⟨⟨_, rfl, Weak.refl _ _, trivial⟩, ⟨_, rfl, Weak.refl _ _, under_eInts _ _⟩, ⟨_, rfl, Weak.refl _ _, under_eInts _ _⟩, ⟨_, rfl, Weak.refl _ _, ltb rfl⟩, ⟨_, rfl, by rw [e3]; exact wk_cons, under_eInts _ _⟩, ⟨_, rfl, Weak.of_eq (e4.symm), trivial⟩, ⟨_, rfl, Weak.refl _ _, trivial⟩, trivial⟩, ⟨⟨rfl, ltb rfl⟩, trivial⟩, trivial⟩
                  | some q =>
                    have hb2 : (q.2 : Int) ≤ 1000 ∧ -1 ≤ (q.2 : Int) := hb
                    refine If.mk (fun h => absurd h (by show ¬ ((q.2 : Int) < 0); omega)) (fun _ => ?_)
                    refine If.mk (fun h7 => ?_) (fun h7 => ?_)
                    · have h7' : (pn : Int) + 1 < q.2 := h7
                      refine IfB.mk (fun _ => ?_) (fun e => by cases e)
                      have e3 : fewS k v s c0 t cs ts (r + 1) = some ((r : Int) :: pl, pn + 1) := by
                        rw [hS, hstep, hc0]
                        show (if pn + 1 < q.2 then _ else _) = _
                        rw [if_pos (by omega)]
                      have e4 : n' (fewN (fewS k v s c0 t cs ts (r + 1))) = n' ((pn + 1 : Nat) : Int) := by rw [e3]; rfl
                      cases pl with
                      | nil =>
                        refine Ex.mk _ rfl ?_
                        refine Side.mk (fits64 (by omega)) ?_
                        exact ⟨leb rfl, rfl, by omega, trivial, ⟨⟨_, rfl, Weak.refl _ _, trivial⟩, ⟨_, rfl, Weak.refl _ _, under_eInts _ _⟩, ⟨_, rfl, Weak.refl _ _, under_eInts _ _⟩, ⟨_, rfl, Weak.refl _ _, ltb rfl⟩, ⟨_, rfl, fun _ H _ => by rw [e3]; exact WeakH.tail 1 [n' r] _ H, under_eInts _ _⟩, ⟨_, rfl, Weak.of_eq (e4.symm), trivial⟩, ⟨_, rfl, Weak.refl _ _, trivial⟩, trivial⟩, ⟨⟨rfl, ltb rfl⟩, trivial⟩, trivial⟩
                      | cons y0 pl =>
                        refine ex_app _ _ (app_cons (l := y0 :: pl) (by simp) (by rw [hp1]; omega)) ?_
                        refine Side.mk (fits64 (by omega)) ?_
                        exact ⟨leb rfl, rfl, by omega, trivial, ⟨⟨_, rfl, Weak.refl _ _, trivial⟩, ⟨_, rfl, Weak.refl _ _, under_eInts _ _⟩, ⟨_, rfl, Weak.refl _ _, under_eInts _ _⟩, ⟨_, rfl, Weak.refl _ _, ltb rfl⟩, ⟨_, rfl, by rw [e3]; exact wk_cons, under_eInts _ _⟩, ⟨_, rfl, Weak.of_eq (e4.symm), trivial⟩, ⟨_, rfl, Weak.refl _ _, trivial⟩, trivial⟩, ⟨⟨rfl, ltb rfl⟩, trivial⟩, trivial⟩
                    · have h7' : ¬ ((pn : Int) + 1 < q.2) := h7
                      refine IfB.mk (fun e => by cases e) (fun _ => ?_)
                      have e3 : fewS k v s c0 t cs ts (r + 1) = some q := by
                        rw [hS, hstep, hc0]
                        show (if pn + 1 < q.2 then _ else _) = _
                        rw [if_neg (by omega)]
                      refine Side.mk (fits64 (by omega)) ?_
                      exact ⟨leb rfl, rfl, by omega, trivial, ⟨⟨_, rfl, Weak.refl _ _, trivial⟩, ⟨_, rfl, Weak.refl _ _, under_eInts _ _⟩, ⟨_, rfl, Weak.refl _ _, under_eInts _ _⟩, ⟨_, rfl, Weak.refl _ _, ltb rfl⟩, ⟨_, rfl, Weak.of_eq (congrArg (fun z => eInts (fewO z)) (e3).symm), under_eInts _ _⟩, ⟨_, rfl, Weak.of_eq (congrArg (fun z => n' (fewN z)) (e3).symm), trivial⟩, ⟨_, rfl, Weak.refl _ _, trivial⟩, trivial⟩, ⟨⟨rfl, ltb rfl⟩, trivial⟩, trivial⟩
            · refine IfB.mk (fun _ => ?_) (fun e => by cases e)
              have e3 : fewS k v s c0 t cs ts (r + 1) = w := by
                rw [hS]
                unfold fewStep
                rw [if_pos ⟨h2, h3⟩]
                exact better_none' w
              refine Side.mk (fits64 (by omega)) ?_
              exact ⟨leb rfl, rfl, by omega, trivial, ⟨⟨_, rfl, Weak.refl _ _, trivial⟩, ⟨_, rfl, Weak.refl _ _, under_eInts _ _⟩, ⟨_, rfl, Weak.refl _ _, under_eInts _ _⟩, ⟨_, rfl, Weak.refl _ _, ltb rfl⟩, ⟨_, rfl, Weak.of_eq (congrArg (fun z => eInts (fewO z)) (e3).symm), under_eInts _ _⟩, ⟨_, rfl, Weak.of_eq (congrArg (fun z => n' (fewN z)) (e3).symm), trivial⟩, ⟨_, rfl, Weak.refl _ _, trivial⟩, trivial⟩, ⟨⟨rfl, ltb rfl⟩, trivial⟩, trivial⟩
        · refine IfB.mk (fun e => by cases e) (fun _ => ?_)
          have er : r = k := by omega
          subst er
          refine ⟨leb rfl, ?_⟩
          refine ⟨.inl rfl, FinG.mk _ rfl rfl ?_⟩
          rw [← hlast, hw]
          show AV.tup [AV.freeze _ (eInts _), _] = _
          rw [freeze_eInts]
          rfl

set_option maxRecDepth 100000 in
theorem c_refMisheard {v : Vers} {k : Nat} (hv : VersOk v k) (hk : k ≤ 1000) (hs : 0 < v.length) {cues tunes : List Int} (hl : cues.length = tunes.length) (hl2 : cues.length ≤ 1000) (ht : ∀ t ∈ tunes, -1 ≤ t) (H : List Blk) :
    ACall Tryz.prog 70 [eVersion v, eInts cues, eInts tunes] H (.ret (fewR (fewL k v 0 cues tunes))) H := by
  refine fn_rule (m := false) (fn := Tryz.f70) (c := (Tryz.f70.body).getD .skip) mixed (by kernel_rfl) (by kernel_rfl) (of_decide_eq_true (by kernel_rfl)) ?_ ?_ ?_ H
  · exact ⟨under_eVersion 0 _, under_eInts 0 _, under_eInts 0 _, trivial⟩
  · exact ⟨under_eInts 0 _, trivial, trivial⟩
  · refine CallG.pure _ (c_few hv hk cues tunes 0 hs hl hl2 ht) ?_
    refine ⟨.inl rfl, FinG.mk _ rfl rfl ?_⟩
    show AV.tup [AV.freeze _ (eInts _), _] = _
    rw [freeze_eInts]
    rfl

theorem apart_take {a b : List Int} {r : Nat} {x y : Int} (hx : a[r]? = some x) (hy : b[r]? = some y) : apartN (a.take (r + 1)) (b.take (r + 1)) = apartN (a.take r) (b.take r) + if y ≠ x then 1 else 0 := by
  induction r generalizing a b with
  | zero =>
    cases a with
    | nil => cases hx
    | cons a l =>
      cases b with
      | nil => cases hy
      | cons b m =>
        cases hx; cases hy
        show (if y ≠ x then 1 else 0) + apartN (l.take 0) (m.take 0) = 0 + _
        rw [List.take_zero, List.take_zero]
        show _ + 0 = _
        omega
  | succ r ih =>
    cases a with
    | nil => cases hx
    | cons a l =>
      cases b with
      | nil => cases hy
      | cons b m =>
        have := ih (a := l) (b := m) hx hy
        rw [List.take_succ_cons, List.take_succ_cons, List.take_succ_cons, List.take_succ_cons]
        show (if b ≠ a then 1 else 0) + apartN (l.take (r + 1)) (m.take (r + 1)) = (if b ≠ a then 1 else 0) + apartN (l.take r) (m.take r) + _
        omega

theorem apart_comm : ∀ a b : List Int, apartN a b = apartN b a
  | [], [] => rfl
  | [], _ :: _ => rfl
  | _ :: _, [] => rfl
  | a :: l, b :: m => by
    show (if b ≠ a then 1 else 0) + apartN l m = (if a ≠ b then 1 else 0) + apartN m l
    rw [apart_comm l m]
    by_cases h : a = b
    · rw [if_neg (fun x => x h.symm), if_neg (fun x => x h)]
    · rw [if_pos (fun x => h x.symm), if_pos h]

set_option maxRecDepth 100000 in
theorem c_apart {a b : List Int} (hl : a.length = b.length) (hb : a.length ≤ 1000000) (H : List Blk) : ACall Tryz.prog 71 [eInts a, eInts b] H (.ret (n' (apartN b a : Nat))) H := by
  rw [apart_comm]
  refine fn_rule (m := false) (fn := Tryz.f71) (c := (Tryz.f71.body).getD .skip) mixed (by kernel_rfl) (by kernel_rfl) (of_decide_eq_true (by kernel_rfl)) ?_ ?_ ?_ H
  · exact ⟨under_eInts 0 _, under_eInts 0 _, trivial⟩
  · trivial
  · refine LoopG.at (n0 := 0) rfl (loop_up mixed (m := false) (fun r => [(0, eInts a), (1, eInts b), (5, n' (apartN (a.take r) (b.take r) : Nat)), (6, n' r)]) (fun _ => []) (fun _ => True) a.length 0 (Nat.zero_le _) trivial ?_ trivial ?_)
    · exact ⟨⟨_, rfl, Weak.refl _ _, under_eInts _ _⟩, ⟨_, rfl, Weak.refl _ _, under_eInts _ _⟩, ⟨_, rfl, Weak.refl _ _, trivial⟩, ⟨_, rfl, Weak.refl _ _, trivial⟩, trivial⟩
    · intro r hr _
      refine If.mk (fun h1 => ?_) (fun h1 => ?_)
      · refine If.mk (fun _ => ?_) (fun h => absurd (by omega) h)
        refine IfB.mk (fun _ => ?_) (fun e => by cases e)
        obtain ⟨x, hx, _, _⟩ := at_some (l := a) (r := r) (by omega)
        obtain ⟨y, hy, _, _⟩ := at_some (l := b) (r := r) (by omega)
        have hs := apart_take hx hy
        have hle := apartN_le (a.take r) (b.take r)
        rw [List.length_take] at hle
        refine Ex.mk _ (jx_ints (r := r) rfl hx) ?_
        refine Ex.mk _ rfl ?_
        refine Ex.mk _ (jx_ints (r := r) rfl hy) ?_
        refine Ex.mk _ rfl ?_
        refine If.mk (fun h2 => ?_) (fun h2 => ?_)
        · refine IfB.mk (fun e => by cases e) (fun _ => ?_)
          refine Side.mk (fits64 (by omega)) ?_
          refine ⟨Nat.zero_le _, rfl, by omega, trivial, ⟨⟨_, rfl, Weak.refl _ _, under_eInts _ _⟩, ⟨_, rfl, Weak.refl _ _, under_eInts _ _⟩, ⟨_, rfl, Weak.of_eq (?_), trivial⟩, ⟨_, rfl, Weak.refl _ _, trivial⟩, trivial⟩, trivial, trivial⟩
          rw [hs, if_neg (fun h => h h2.symm)]
          rfl
        · refine IfB.mk (fun _ => ?_) (fun e => by cases e)
          refine Side.mk (fits64 (by omega)) ?_
          refine Side.mk (fits64 (by omega)) ?_
          refine ⟨Nat.zero_le _, rfl, by omega, trivial, ⟨⟨_, rfl, Weak.refl _ _, under_eInts _ _⟩, ⟨_, rfl, Weak.refl _ _, under_eInts _ _⟩, ⟨_, rfl, Weak.of_eq (?_), trivial⟩, ⟨_, rfl, Weak.refl _ _, trivial⟩, trivial⟩, trivial, trivial⟩
          rw [hs, if_pos (fun h => h2 h.symm)]
          rfl
      · refine IfB.mk (fun e => by cases e) (fun _ => ?_)
        have er : r = a.length := by omega
        subst er
        refine ⟨Nat.zero_le _, .inl rfl, FinG.mk _ rfl rfl ?_⟩
        rw [List.take_length, hl, List.take_length]
        rfl
end Go.Vm

/-
  Contracts: Misheard of package cue, by its ranges over functions; the best of a list. (Own work.)
-/
namespace Go.Vm
open Go.Proofs

def cH (cues l : List Int) : List AV := [eInts l, n' (apartN cues l : Nat)]
def hRow (cues : List Int) (h : List (List Int)) : List AV := h.flatMap (cH cues)
theorem hRow_length (cues : List Int) (h : List (List Int)) : (hRow cues h).length = h.length * 2 := flat2_length (fun _ => rfl) h
theorem hRow_snoc (cues : List Int) (h : List (List Int)) (l : List Int) : hRow cues (h ++ [l]) = hRow cues h ++ cH cues l := by
  unfold hRow
  rw [List.flatMap_append, List.flatMap_cons, List.flatMap_nil, List.append_nil]
theorem under_hRow (n : Nat) (cues : List Int) : ∀ h : List (List Int), AV.unders n (hRow cues h)
  | [] => by simp [hRow, AV.unders]
  | l :: h => by
    show AV.unders n (cH cues l ++ hRow cues h)
    exact unders_append ⟨under_eInts n _, trivial, trivial⟩ (under_hRow n cues h)
theorem freeze_hRow (g : Nat → Option Blk) (cues : List Int) : ∀ h : List (List Int), AV.freezes g (hRow cues h) = hRow cues h
  | [] => rfl
  | l :: h => by
    show AV.freeze g (eInts l) :: n' _ :: AV.freezes g (hRow cues h) = _
    rw [freeze_eInts, freeze_hRow g cues h]
    rfl
theorem app_heard {g : Nat → Option Blk} {n len id gen : Nat} {cells : List AV} {l : List Int} {k : Int} (h1 : cells.length = len * 2) (h2 : len < 2097152) (hg : g id = some (.row gen)) :
    appT Tryz.prog false g n 160 160 (.sl len cells (.own id gen 2)) (.sl 1 [eInts l, n' k] .full) = some (.sl (len + 1) (cells ++ [eInts l, n' k]) (.own id (gen + 1) 2), .set id (.row (gen + 1))) :=
  appT_own (e := 162) (bytes := 32) (z := .agg #[.slice none 0 0, .int .i64 0]) (by kernel_rfl) (by kernel_rfl) (by kernel_rfl) (by kernel_rfl) (by kernel_rfl) rfl (by omega) (by omega) (by omega) hg rfl

def srchM : List AV := [.ptr 11 0, .ptr 14 0, .ptr 10 0, .ptr 15 0]

/-- The heap of Misheard while it goes through the lists: those that fit so far. -/
noncomputable def misL (b : Book) (i : Int) (cues tunes : List Int) (st st2 : LoopState) (h : List (List Int)) : List (Nat × Blk) :=
  [(0, bBox b), (1, .box [eInts cues] 25), (2, .box [.sl h.length (hRow cues h) (.own 6 h.length 2)] 160), (3, bBox b), (4, .box [n' i] 3), (5, .box [eInts tunes] 25), (6, .row h.length), (7, .defd), (8, lpB Tryz.f69 st [(6, .ptr 1 0), (11, .ptr 2 0), (49, .fn (.func 162) [] [.ptr 3 0, .ptr 5 0, .ptr 4 0])] 7), (9, .box [.yld 8] 187), (10, bBox b), (11, .box [n' (tunes.length : Nat)] 3),
    (12, .defd), (13, lpB Tryz.f162 st2 [(1, .ptr 3 0), (2, .ptr 5 0), (3, .ptr 4 0), (4, .ptr 9 0), (11, .fn (.func 197) [] [.ptr 11 0, .ptr 10 0])] 12), (14, .box [.yld 13] 187), (15, .box [.fn (.func 198) [] srchM] 187)]

theorem misL_numd (b : Book) (i : Int) (cues tunes : List Int) (st st2 : LoopState) (h : List (List Int)) : Numd 0 (misL b i cues tunes st st2 h) :=
  ⟨rfl, rfl, rfl, rfl, rfl, rfl, rfl, rfl, rfl, rfl, rfl, rfl, rfl, rfl, rfl, rfl, trivial⟩

theorem misL_marks (b : Book) (i : Int) (cues tunes : List Int) (st st2 : LoopState) (h h' : List (List Int)) : MarksL (misL b i cues tunes st st2 h) (misL b i cues tunes st st2 h') :=
  .cons (fun e => e) (.cons (fun e => e) (.cons (fun e => by cases e) (.cons (fun e => e) (.cons (fun e => e) (.cons (fun e => e) (.cons (fun e => by cases e) (MarksL.same _)))))))

theorem misL_under (b : Book) (i : Int) (cues tunes : List Int) (st st2 : LoopState) (h : List (List Int)) : ∀ q ∈ misL b i cues tunes st st2 h, q.2.under 16 :=
  UnderL.mem (l := misL b i cues tunes st st2 h) ⟨bBox_under _ _, ⟨under_eInts _ _, trivial⟩, ⟨⟨under_hRow _ _ _, ltb rfl⟩, trivial⟩, bBox_under _ _, ⟨trivial, trivial⟩, ⟨under_eInts _ _, trivial⟩, trivial, trivial, under_lpB ⟨ltb rfl, ltb rfl, ⟨trivial, ltb rfl, ltb rfl, ltb rfl, trivial⟩, trivial⟩ (ltb rfl), ⟨ltb rfl, trivial⟩, bBox_under _ _, ⟨trivial, trivial⟩,
    trivial, under_lpB ⟨ltb rfl, ltb rfl, ltb rfl, ltb rfl, ⟨trivial, ltb rfl, ltb rfl, trivial⟩, trivial⟩ (ltb rfl), ⟨ltb rfl, trivial⟩, ⟨⟨trivial, ltb rfl, ltb rfl, ltb rfl, ltb rfl, trivial⟩, trivial⟩, trivial⟩


set_option maxHeartbeats 4000000 in
set_option maxRecDepth 100000 in
theorem c_searchM0 {b : Book} {v : Vers} {i : Int} (hi : 0 ≤ i) (hv : b.vs[i.toNat]? = some v) (hvo : VersOk v b.cues.toNat) (hv0 : 0 < v.length) {cues tunes : List Int} (ht : LTunes b tunes) (hct : cues.length = tunes.length) {now : List Int} {h : List (List Int)} (hn : now.length = tunes.length) (hc : CuesOk b.cues.toNat now) (hh : h.length ≤ 1000000) :
    ACall Tryz.prog 198 (eInts now :: srchM) (hp (misL b i cues tunes .ready .ready h)) (.ret (nb true)) (hp (misL b i cues tunes .ready .ready (h ++ hitL b.cues.toNat v tunes now))) := by
  have htl := ht.2
  refine fn_keep (m := false) (fn := Tryz.f198) (c := (Tryz.f198.body).getD .skip) (p := 16) mixed (by kernel_rfl) (by kernel_rfl) (of_decide_eq_true (by kernel_rfl)) rfl (misL_numd _ _ _ _ _ _ _) (misL_numd _ _ _ _ _ _ _) rfl rfl (misL_under _ _ _ _ _ _ _) ?_
  refine If.mk (fun _ => ?_) (fun h => absurd (by omega) h)
  refine IfB.mk (fun _ => ?_) (fun e => by cases e)
  rw [hitL_full hn]
  refine RoundG.intro (m := false) mixed rfl rfl (by decide) ?_
  refine ⟨rfl, _, rfl, rfl, ?_⟩
  refine Ex.mk _ (jx_versions (r := i.toNat) (by omega) hv) ?_
  refine Ex.mk _ rfl ?_
  refine CallG.pure _ (c_played hvo hv0 hc (by omega)) ?_
  refine CallG.fresh (n0 := 17) [eInts (plays v 0 now), eInts tunes] (misL b i cues tunes .ready .busy h) rfl (.cons (fun H => WeakH.refl _ H) (.cons (fun H => WeakH.refl _ H) .nil)) ?_ ?_
  · exact ⟨⟨rfl, ltb rfl⟩, ⟨rfl, ltb rfl⟩, ⟨rfl, ltb rfl⟩, ⟨rfl, ltb rfl⟩, ⟨rfl, ltb rfl⟩, ⟨rfl, ltb rfl⟩, ⟨rfl, ltb rfl⟩, ⟨rfl, ltb rfl⟩, ⟨rfl, ltb rfl⟩, ⟨rfl, ltb rfl⟩, ⟨rfl, ltb rfl⟩, ⟨rfl, ltb rfl⟩, ⟨rfl, ltb rfl⟩, ⟨rfl, ltb rfl⟩, ⟨rfl, ltb rfl⟩, ⟨rfl, ltb rfl⟩, trivial⟩
  refine CallG.bool (c_noted _ _ (by rw [plays_length]; omega) (by omega)) (fun hN => ?_) (fun hN => ?_)
  · rw [if_pos hN]
    refine RoundG.intro (m := false) mixed rfl rfl (by decide) ?_
    refine ⟨rfl, _, rfl, rfl, ?_⟩
    refine LoopG.at (n0 := 18) rfl (loop_up mixed (m := false) (fun r => [(6, .ptr 1 0), (11, .ptr 2 0), (13, .ptr 17 0), (53, eInts now), (54, n' (now.length : Nat)), (55, n' r)]) (fun r => misL b i cues tunes .busy .busy h ++ [(17, .box [eInts now, n' (apartN (cues.take r) (now.take r) : Nat)] 162)]) (fun _ => True) now.length 8 (leb rfl) trivial ?_ ?_ ?_)
    · exact ⟨⟨_, rfl, Weak.refl _ _, ltb rfl⟩, ⟨_, rfl, Weak.refl _ _, ltb rfl⟩, ⟨_, rfl, Weak.refl _ _, ltb rfl⟩, ⟨_, rfl, Weak.refl _ _, under_eInts _ _⟩, ⟨_, rfl, Weak.refl _ _, trivial⟩, ⟨_, rfl, Weak.refl _ _, trivial⟩, trivial⟩
    · exact ⟨⟨rfl, ltb rfl⟩, ⟨rfl, ltb rfl⟩, ⟨rfl, ltb rfl⟩, ⟨rfl, ltb rfl⟩, ⟨rfl, ltb rfl⟩, ⟨rfl, ltb rfl⟩, ⟨rfl, ltb rfl⟩, ⟨rfl, ltb rfl⟩, ⟨rfl, ltb rfl⟩, ⟨rfl, ltb rfl⟩, ⟨rfl, ltb rfl⟩, ⟨rfl, ltb rfl⟩, ⟨rfl, ltb rfl⟩, ⟨rfl, ltb rfl⟩, ⟨rfl, ltb rfl⟩, ⟨rfl, ltb rfl⟩, ⟨rfl, ltb rfl⟩, trivial⟩
    · intro r hr _
      refine If.mk (fun h1 => ?_) (fun h1 => ?_)
      · refine IfB.mk (fun _ => ?_) (fun e => by cases e)
        obtain ⟨y, hy, _, _⟩ := at_some (l := now) (r := r) (by omega)
        obtain ⟨x, hx, _, _⟩ := at_some (l := cues) (r := r) (by omega)
        have hs := apart_take hx hy
        have hle := apartN_le (cues.take r) (now.take r)
        rw [List.length_take] at hle
        refine Ex.mk _ (jx_ints (r := r) rfl hy) ?_
        refine Ex.mk _ rfl ?_
        refine Ex.mk _ (jx_ints (r := r) rfl hx) ?_
        refine Ex.mk _ rfl ?_
        refine If.mk (fun h2 => ?_) (fun h2 => ?_)
        · refine IfB.mk (fun e => by cases e) (fun _ => ?_)
          refine Side.mk (fits64 (by omega)) ?_
          refine ⟨leb rfl, rfl, by omega, trivial, ⟨⟨_, rfl, Weak.refl _ _, ltb rfl⟩, ⟨_, rfl, Weak.refl _ _, ltb rfl⟩, ⟨_, rfl, Weak.refl _ _, ltb rfl⟩, ⟨_, rfl, Weak.refl _ _, under_eInts _ _⟩, ⟨_, rfl, Weak.refl _ _, trivial⟩, ⟨_, rfl, Weak.refl _ _, trivial⟩, trivial⟩, ⟨⟨rfl, ltb rfl⟩, ⟨rfl, ltb rfl⟩, ⟨rfl, ltb rfl⟩, ⟨rfl, ltb rfl⟩, ⟨rfl, ltb rfl⟩, ⟨rfl, ltb rfl⟩, ⟨rfl, ltb rfl⟩, ⟨rfl, ltb rfl⟩, ⟨rfl, ltb rfl⟩, ⟨rfl, ltb rfl⟩, ⟨rfl, ltb rfl⟩, ⟨rfl, ltb rfl⟩, ⟨rfl, ltb rfl⟩, ⟨rfl, ltb rfl⟩, ⟨rfl, ltb rfl⟩, ⟨rfl, ltb rfl⟩, ⟨?_, ltb rfl⟩, trivial⟩, trivial⟩
          rw [hs, if_neg (fun h => h h2)]
          rfl
        · refine IfB.mk (fun _ => ?_) (fun e => by cases e)
          refine Side.mk (fits64 (by omega)) ?_
          refine Side.mk (fits64 (by omega)) ?_
          refine ⟨leb rfl, rfl, by omega, trivial, ⟨⟨_, rfl, Weak.refl _ _, ltb rfl⟩, ⟨_, rfl, Weak.refl _ _, ltb rfl⟩, ⟨_, rfl, Weak.refl _ _, ltb rfl⟩, ⟨_, rfl, Weak.refl _ _, under_eInts _ _⟩, ⟨_, rfl, Weak.refl _ _, trivial⟩, ⟨_, rfl, Weak.refl _ _, trivial⟩, trivial⟩, ⟨⟨rfl, ltb rfl⟩, ⟨rfl, ltb rfl⟩, ⟨rfl, ltb rfl⟩, ⟨rfl, ltb rfl⟩, ⟨rfl, ltb rfl⟩, ⟨rfl, ltb rfl⟩, ⟨rfl, ltb rfl⟩, ⟨rfl, ltb rfl⟩, ⟨rfl, ltb rfl⟩, ⟨rfl, ltb rfl⟩, ⟨rfl, ltb rfl⟩, ⟨rfl, ltb rfl⟩, ⟨rfl, ltb rfl⟩, ⟨rfl, ltb rfl⟩, ⟨rfl, ltb rfl⟩, ⟨rfl, ltb rfl⟩, ⟨?_, ltb rfl⟩, trivial⟩, ⟨_, rfl, under_eInts _ _, trivial, trivial⟩, trivial⟩
          rw [hs, if_pos h2]
          rfl
      · refine IfB.mk (fun e => by cases e) (fun _ => ?_)
        refine ⟨leb rfl, ?_⟩
        have er : r = now.length := by omega
        subst er
        refine ex_app _ _ (app_heard (hRow_length _ _) (by omega) rfl) ?_
        refine ⟨_, _, rfl, rfl, ?_⟩
        refine IfB.mk (fun e => by cases e) (fun _ => ?_)
        refine ⟨_, _, rfl, rfl, ?_⟩
        refine ⟨.inl rfl, ?_, FinF.mk _ rfl rfl rfl⟩
        have e1 : (h ++ [now]).length = h.length + 1 := List.length_append
        have e2 := hRow_snoc cues h now
        refine ⟨⟨rfl, ltb rfl⟩, ⟨rfl, ltb rfl⟩, ⟨?_, ltb rfl⟩, ⟨rfl, ltb rfl⟩, ⟨rfl, ltb rfl⟩, ⟨rfl, ltb rfl⟩, ⟨?_, ltb rfl⟩, ⟨rfl, ltb rfl⟩, ⟨rfl, ltb rfl⟩, ⟨rfl, ltb rfl⟩, ⟨rfl, ltb rfl⟩, ⟨rfl, ltb rfl⟩, ⟨rfl, ltb rfl⟩, ⟨rfl, ltb rfl⟩, ⟨rfl, ltb rfl⟩, ⟨rfl, ltb rfl⟩, trivial⟩
        · show _ = some (Blk.box [AV.sl (h ++ [now]).length (hRow cues (h ++ [now])) (.own 6 (h ++ [now]).length 2)] 160)
          rw [e1, e2]
          rw [List.take_length, show cues.take now.length = cues by rw [hn, ← hct, List.take_length]]
          rfl
        · show _ = some (Blk.row (h ++ [now]).length)
          rw [e1]
          rfl
  · rw [if_neg hN, List.append_nil]
    refine IfB.mk (fun e => by cases e) (fun _ => ?_)
    refine ⟨_, _, rfl, rfl, ?_⟩
    refine ⟨.inl rfl, ?_, FinF.mk _ rfl rfl rfl⟩
    exact ⟨⟨rfl, ltb rfl⟩, ⟨rfl, ltb rfl⟩, ⟨rfl, ltb rfl⟩, ⟨rfl, ltb rfl⟩, ⟨rfl, ltb rfl⟩, ⟨rfl, ltb rfl⟩, ⟨rfl, ltb rfl⟩, ⟨rfl, ltb rfl⟩, ⟨rfl, ltb rfl⟩, ⟨rfl, ltb rfl⟩, ⟨rfl, ltb rfl⟩, ⟨rfl, ltb rfl⟩, ⟨rfl, ltb rfl⟩, ⟨rfl, ltb rfl⟩, ⟨rfl, ltb rfl⟩, ⟨rfl, ltb rfl⟩, trivial⟩

set_option maxHeartbeats 4000000 in
set_option maxRecDepth 100000 in
theorem c_searchM {b : Book} {v : Vers} {i : Int} (hb : inI b.cues 1 4) (hi : 0 ≤ i) (hv : b.vs[i.toNat]? = some v) (hvo : VersOk v b.cues.toNat) (hv0 : 0 < v.length) {cues tunes : List Int} (ht : LTunes b tunes) (hct : cues.length = tunes.length) : ∀ (k : Nat) {now : List Int} {h : List (List Int)} (_ : now.length + k = tunes.length) (_ : CuesOk b.cues.toNat now)
    (_ : h.length + (hitL b.cues.toNat v tunes now).length ≤ 1000000), ACall Tryz.prog 198 (eInts now :: srchM) (hp (misL b i cues tunes .ready .ready h)) (.ret (nb true)) (hp (misL b i cues tunes .ready .ready (h ++ hitL b.cues.toNat v tunes now)))
  | 0, now, h, hn, hc, hh => c_searchM0 hi hv hvo hv0 ht hct (by omega) hc (by omega)
  | k + 1, now, h, hn, hc, hh => by
    have htl := ht.2
    rw [hitL_step (by omega)] at hh ⊢
    unfold inI at hb
    refine fn_keep (m := false) (fn := Tryz.f198) (c := (Tryz.f198.body).getD .skip) (p := 16) mixed (by kernel_rfl) (by kernel_rfl) (of_decide_eq_true (by kernel_rfl)) rfl (misL_numd _ _ _ _ _ _ _) (misL_numd _ _ _ _ _ _ _) rfl rfl (misL_under _ _ _ _ _ _ _) ?_
    refine If.mk (fun h => absurd h (by omega)) (fun _ => ?_)
    refine IfB.mk (fun e => by cases e) (fun _ => ?_)
    refine LoopG.at (n0 := 16) rfl (loop_up mixed (m := false) (fun r => [(0, eInts now), (1, .ptr 11 0), (2, .ptr 14 0), (3, .ptr 10 0), (4, .ptr 15 0), (16, n' b.cues), (17, n' r)]) (fun r => misL b i cues tunes .ready .ready (h ++ hitU b.cues.toNat v tunes now r)) (fun _ => True) b.cues.toNat 2 (leb rfl) trivial ?_ ?_ ?_)
    · exact ⟨⟨_, rfl, Weak.refl _ _, under_eInts _ _⟩, ⟨_, rfl, Weak.refl _ _, ltb rfl⟩, ⟨_, rfl, Weak.refl _ _, ltb rfl⟩, ⟨_, rfl, Weak.refl _ _, ltb rfl⟩, ⟨_, rfl, Weak.refl _ _, ltb rfl⟩, ⟨_, rfl, Weak.refl _ _, trivial⟩, ⟨_, rfl, Weak.refl _ _, trivial⟩, trivial⟩
    · show Blks _ _ (misL b i cues tunes .ready .ready (h ++ hitU b.cues.toNat v tunes now 0))
      rw [hitU_zero, List.append_nil]
      exact ⟨⟨rfl, ltb rfl⟩, ⟨rfl, ltb rfl⟩, ⟨rfl, ltb rfl⟩, ⟨rfl, ltb rfl⟩, ⟨rfl, ltb rfl⟩, ⟨rfl, ltb rfl⟩, ⟨rfl, ltb rfl⟩, ⟨rfl, ltb rfl⟩, ⟨rfl, ltb rfl⟩, ⟨rfl, ltb rfl⟩, ⟨rfl, ltb rfl⟩, ⟨rfl, ltb rfl⟩, ⟨rfl, ltb rfl⟩, ⟨rfl, ltb rfl⟩, ⟨rfl, ltb rfl⟩, ⟨rfl, ltb rfl⟩, trivial⟩
    · intro r hr _
      refine If.mk (fun h1 => ?_) (fun h1 => ?_)
      · refine IfB.mk (fun _ => ?_) (fun e => by cases e)
        refine CallG.cloneI (by omega) (leb rfl) ?_
        refine ex_app _ _ (app_int (List.length_map _) (by omega) rfl) ?_
        have hs := hitU_succ b.cues.toNat v tunes now r
        have hsl := congrArg List.length hs
        rw [List.length_append] at hsl
        have hle := hitU_le (c := b.cues.toNat) (v := v) (tunes := tunes) (now := now) (show r + 1 ≤ b.cues.toNat by omega)
        refine CallG.pre (eInts (now ++ [(r : Int)]) :: srchM) (misL b i cues tunes .ready .ready (h ++ hitU b.cues.toNat v tunes now r)) (misL b i cues tunes .ready .ready (h ++ hitU b.cues.toNat v tunes now (r + 1))) (nb true) 2 (.cons (fun H => wk_snoc H) (.cons (fun H => WeakH.refl _ H) (.cons (fun H => WeakH.refl _ H) (.cons (fun H => WeakH.refl _ H) (.cons (fun H => WeakH.refl _ H) .nil)))))
          (misL_numd _ _ _ _ _ _ _) (misL_numd _ _ _ _ _ _ _) rfl (misL_marks _ _ _ _ _ _ _ _) ?_ rfl ⟨under_eInts _ _, ltb rfl, ltb rfl, ltb rfl, ltb rfl, trivial⟩ rfl (misL_under _ _ _ _ _ _ _) (misL_under _ _ _ _ _ _ _) ?_ ?_
        · exact ⟨⟨rfl, ltb rfl⟩, ⟨rfl, ltb rfl⟩, ⟨rfl, ltb rfl⟩, ⟨rfl, ltb rfl⟩, ⟨rfl, ltb rfl⟩, ⟨rfl, ltb rfl⟩, ⟨rfl, ltb rfl⟩, ⟨rfl, ltb rfl⟩, ⟨rfl, ltb rfl⟩, ⟨rfl, ltb rfl⟩, ⟨rfl, ltb rfl⟩, ⟨rfl, ltb rfl⟩, ⟨rfl, ltb rfl⟩, ⟨rfl, ltb rfl⟩, ⟨rfl, ltb rfl⟩, ⟨rfl, ltb rfl⟩, trivial⟩
        · rw [hs, ← List.append_assoc]
          refine c_searchM hb hi hv hvo hv0 ht hct k (by rw [List.length_append, List.length_singleton]; omega) (fun x hx => ?_) (by rw [List.length_append]; omega)
          rcases List.mem_append.1 hx with hx | hx
          · exact hc x hx
          · rw [List.mem_singleton] at hx; omega
        · refine IfB.mk (fun e => by cases e) (fun _ => ?_)
          refine Side.mk (fits64 (by omega)) ?_
          refine ⟨leb rfl, rfl, by omega, trivial, ⟨⟨_, rfl, Weak.refl _ _, under_eInts _ _⟩, ⟨_, rfl, Weak.refl _ _, ltb rfl⟩, ⟨_, rfl, Weak.refl _ _, ltb rfl⟩, ⟨_, rfl, Weak.refl _ _, ltb rfl⟩, ⟨_, rfl, Weak.refl _ _, ltb rfl⟩, ⟨_, rfl, Weak.refl _ _, trivial⟩, ⟨_, rfl, Weak.refl _ _, trivial⟩, trivial⟩, ?_, ?_⟩
          · exact ⟨⟨rfl, ltb rfl⟩, ⟨rfl, ltb rfl⟩, ⟨rfl, ltb rfl⟩, ⟨rfl, ltb rfl⟩, ⟨rfl, ltb rfl⟩, ⟨rfl, ltb rfl⟩, ⟨rfl, ltb rfl⟩, ⟨rfl, ltb rfl⟩, ⟨rfl, ltb rfl⟩, ⟨rfl, ltb rfl⟩, ⟨rfl, ltb rfl⟩, ⟨rfl, ltb rfl⟩, ⟨rfl, ltb rfl⟩, ⟨rfl, ltb rfl⟩, ⟨rfl, ltb rfl⟩, ⟨rfl, ltb rfl⟩, trivial⟩
          · exact ⟨⟨_, rfl, ⟨under_hRow _ _ _, ltb rfl⟩, trivial⟩, ⟨_, rfl, bBox_under _ _⟩, ⟨_, rfl, trivial, trivial⟩, ⟨_, rfl, under_eInts _ _, trivial⟩, ⟨_, rfl, trivial⟩, ⟨_, rfl, trivial⟩, ⟨_, rfl, under_lpB ⟨ltb rfl, ltb rfl, ⟨trivial, ltb rfl, ltb rfl, ltb rfl, trivial⟩, trivial⟩ (ltb rfl)⟩, ⟨_, rfl, ltb rfl, trivial⟩, ⟨_, rfl, bBox_under _ _⟩, ⟨_, rfl, trivial, trivial⟩, ⟨_, rfl, trivial⟩,
              ⟨_, rfl, under_lpB ⟨ltb rfl, ltb rfl, ltb rfl, ltb rfl, ⟨trivial, ltb rfl, ltb rfl, trivial⟩, trivial⟩ (ltb rfl)⟩, ⟨_, rfl, ltb rfl, trivial⟩, ⟨_, rfl, ⟨trivial, ltb rfl, ltb rfl, ltb rfl, ltb rfl, trivial⟩, trivial⟩, trivial⟩
      · refine IfB.mk (fun e => by cases e) (fun _ => ?_)
        have er : r = b.cues.toNat := by omega
        subst er
        refine ⟨leb rfl, ?_⟩
        refine ⟨.inl rfl, ?_, FinF.mk _ rfl rfl rfl⟩
        exact ⟨⟨rfl, ltb rfl⟩, ⟨rfl, ltb rfl⟩, ⟨rfl, ltb rfl⟩, ⟨rfl, ltb rfl⟩, ⟨rfl, ltb rfl⟩, ⟨rfl, ltb rfl⟩, ⟨rfl, ltb rfl⟩, ⟨rfl, ltb rfl⟩, ⟨rfl, ltb rfl⟩, ⟨rfl, ltb rfl⟩, ⟨rfl, ltb rfl⟩, ⟨rfl, ltb rfl⟩, ⟨rfl, ltb rfl⟩, ⟨rfl, ltb rfl⟩, ⟨rfl, ltb rfl⟩, ⟨rfl, ltb rfl⟩, trivial⟩

end Go.Vm

/-
  Contracts: best of lists of cues that were heard; Misheard of package cue. (Own work.)
-/
namespace Go.Vm
open Go.Proofs

theorem jx_heard {cues : List Int} {h : List (List Int)} {tl : Tail} {i : Int} {r : Nat} {l : List Int} (hi : i = r) (hl : h[r]? = some l) : indexOp Tryz.prog 160 (.sl h.length (hRow cues h) tl) (.lit (.int .i64 i)) = some (.eptr (cH cues l)) := by
  obtain ⟨h1, rfl⟩ := List.getElem?_eq_some_iff.1 hl
  subst hi
  refine (indexOp_sl (elem := 162) (n := 2) (by kernel_rfl) (by kernel_rfl) ⟨by omega, by omega, by rw [hRow_length, Int.toNat_natCast]; omega, by omega⟩).trans ?_
  rw [Int.toNat_natCast]
  unfold hRow
  rw [flat2_at (fun _ => rfl) (List.getElem?_eq_getElem h1)]

set_option maxRecDepth 100000 in
theorem c_lessH (a c : List Int) (x y : Int) (H : List Blk) : ACall Tryz.prog 130 [.agg [eInts a, n' x], .agg [eInts c, n' y]] H (.ret (.lit (.bool (decide (x < y))))) H := by
  refine fn_rule (m := false) (fn := Tryz.f130) (c := (Tryz.f130.body).getD .skip) mixed (by kernel_rfl) (by kernel_rfl) (of_decide_eq_true (by kernel_rfl)) ?_ ?_ ?_ H
  · exact ⟨⟨under_eInts 0 _, trivial, trivial⟩, ⟨under_eInts 0 _, trivial, trivial⟩, trivial⟩
  · trivial
  · refine If.mk (fun h => ?_) (fun h => ?_)
    · exact ⟨.inl rfl, FinG.yes rfl rfl (h)⟩
    · exact ⟨.inl rfl, FinG.no rfl rfl (h)⟩


def bestC : Option (List Int × Nat) → List AV
  | none => [.lit (.slice none 0 0), n' 0]
  | some p => [eInts p.1, n' (p.2 : Nat)]
theorem under_bestC (n : Nat) (o : Option (List Int × Nat)) : AV.unders n (bestC o) := by
  cases o with
  | none => exact ⟨trivial, trivial, trivial⟩
  | some p => exact ⟨under_eInts n _, trivial, trivial⟩
def eHeard (cues : List Int) (h : List (List Int)) : AV := .sl h.length (hRow cues h) .unk
theorem under_eHeard (n : Nat) (cues : List Int) (h : List (List Int)) : (eHeard cues h).under n := ⟨under_hRow n cues h, trivial⟩
def bestV (o : Option (List Int × Nat)) : AV := .tup [.agg (bestC o), nb o.isSome]

set_option maxRecDepth 100000 in
theorem c_bestH (cues : List Int) (h : List (List Int)) (hh : h.length ≤ 1000000) (H : List Blk) : ACall Tryz.prog 129 [eHeard cues h, .lit (.func (.func 130) #[] #[])] H (.ret (bestV (bestOf (apartN cues) h))) H := by
  refine fn_rule (m := false) (fn := Tryz.f129) (c := (Tryz.f129.body).getD .skip) mixed (by kernel_rfl) (by kernel_rfl) (of_decide_eq_true (by kernel_rfl)) ?_ ?_ ?_ H
  · exact ⟨under_eHeard 0 _ _, trivial, trivial⟩
  · exact ⟨under_bestC 0 _, trivial, trivial⟩
  · refine LoopG.at (n0 := 2) rfl (loop_up mixed (m := false) (fun r => [(0, eHeard cues h), (1, .lit (.func (.func 130) #[] #[])), (4, .ptr 0 0), (5, .lit (.bool false)), (6, .ptr 1 0), (9, eHeard cues h), (10, n' (h.length : Nat)), (11, n' r)]) (fun r => [(0, .box [.lit (.slice none 0 0), n' 0] 162), (1, .box (bestC (bestOf (apartN cues) (h.take r))) 162)]) (fun _ => True) h.length 1 (leb rfl) trivial ?_ ?_ ?_)
    · exact ⟨⟨_, rfl, Weak.refl _ _, under_eHeard _ _ _⟩, ⟨_, rfl, Weak.refl _ _, trivial⟩, ⟨_, rfl, Weak.refl _ _, ltb rfl⟩, ⟨_, rfl, Weak.refl _ _, trivial⟩, ⟨_, rfl, Weak.refl _ _, ltb rfl⟩, ⟨_, rfl, Weak.refl _ _, under_eHeard _ _ _⟩, ⟨_, rfl, Weak.refl _ _, trivial⟩, ⟨_, rfl, Weak.refl _ _, trivial⟩, trivial⟩
    · exact ⟨⟨rfl, ltb rfl⟩, ⟨rfl, ltb rfl⟩, trivial⟩
    · intro r hr _
      have hw0 : bestOf (apartN cues) (h.take r) = none ↔ h.take r = [] := best_isSome _
      generalize hw : bestOf (apartN cues) (h.take r) = w at hw0 ⊢
      refine If.mk (fun h1 => ?_) (fun h1 => ?_)
      · refine IfB.mk (fun _ => ?_) (fun e => by cases e)
        obtain ⟨l, hl, htk, _⟩ := at_some (l := h) (r := r) (by omega)
        have hS : bestOf (apartN cues) (h.take (r + 1)) = better w (some (l, apartN cues l)) := by rw [htk, best_snoc, hw]
        refine Ex.mk _ (jx_heard (r := r) rfl hl) ?_
        refine Ex.mk _ rfl ?_
        cases w with
        | none =>
          have hr0 : r = 0 := by
            have := congrArg List.length (hw0.1 rfl)
            rw [List.length_take, List.length_nil] at this
            omega
          refine If.mk (fun _ => ?_) (fun h => absurd (by omega) h)
          refine IfB.mk (fun _ => ?_) (fun e => by cases e)
          refine Side.mk (fits64 (by omega)) ?_
          refine ⟨leb rfl, rfl, by omega, trivial, ⟨⟨_, rfl, Weak.refl _ _, under_eHeard _ _ _⟩, ⟨_, rfl, Weak.refl _ _, trivial⟩, ⟨_, rfl, Weak.refl _ _, ltb rfl⟩, ⟨_, rfl, Weak.refl _ _, trivial⟩, ⟨_, rfl, Weak.refl _ _, ltb rfl⟩, ⟨_, rfl, Weak.refl _ _, under_eHeard _ _ _⟩, ⟨_, rfl, Weak.refl _ _, trivial⟩, ⟨_, rfl, Weak.refl _ _, trivial⟩, trivial⟩, ⟨⟨rfl, ltb rfl⟩, ⟨?_, ltb rfl⟩, trivial⟩, ⟨_, rfl, under_eInts _ _, trivial, trivial⟩, trivial⟩
          rw [hS]
          rfl
        | some q =>
          have hr0 : r ≠ 0 := by
            rintro rfl
            cases (hw0.2 rfl)
          refine If.mk (fun h => absurd h (by omega)) (fun _ => ?_)
          refine CallG.bool (c_lessH _ _ _ _) (fun h3 => ?_) (fun h3 => ?_)
          · refine IfB.mk (fun _ => ?_) (fun e => by cases e)
            refine Side.mk (fits64 (by omega)) ?_
            refine ⟨leb rfl, rfl, by omega, trivial, ⟨⟨_, rfl, Weak.refl _ _, under_eHeard _ _ _⟩, ⟨_, rfl, Weak.refl _ _, trivial⟩, ⟨_, rfl, Weak.refl _ _, ltb rfl⟩, ⟨_, rfl, Weak.refl _ _, trivial⟩, ⟨_, rfl, Weak.refl _ _, ltb rfl⟩, ⟨_, rfl, Weak.refl _ _, under_eHeard _ _ _⟩, ⟨_, rfl, Weak.refl _ _, trivial⟩, ⟨_, rfl, Weak.refl _ _, trivial⟩, trivial⟩, ⟨⟨rfl, ltb rfl⟩, ⟨?_, ltb rfl⟩, trivial⟩, ⟨_, rfl, under_eInts _ _, trivial, trivial⟩, trivial⟩
            have e : better (some q) (some (l, apartN cues l)) = some (l, apartN cues l) := if_pos (show apartN cues l < q.2 by omega)
            rw [hS, e]
            rfl
          · refine IfB.mk (fun e => by cases e) (fun _ => ?_)
            refine Side.mk (fits64 (by omega)) ?_
            refine ⟨leb rfl, rfl, by omega, trivial, ⟨⟨_, rfl, Weak.refl _ _, under_eHeard _ _ _⟩, ⟨_, rfl, Weak.refl _ _, trivial⟩, ⟨_, rfl, Weak.refl _ _, ltb rfl⟩, ⟨_, rfl, Weak.refl _ _, trivial⟩, ⟨_, rfl, Weak.refl _ _, ltb rfl⟩, ⟨_, rfl, Weak.refl _ _, under_eHeard _ _ _⟩, ⟨_, rfl, Weak.refl _ _, trivial⟩, ⟨_, rfl, Weak.refl _ _, trivial⟩, trivial⟩, ⟨⟨rfl, ltb rfl⟩, ⟨?_, ltb rfl⟩, trivial⟩, trivial⟩
            have e : better (some q) (some (l, apartN cues l)) = some q := if_neg (show ¬ apartN cues l < q.2 by omega)
            rw [hS, e]
            rfl
      · refine IfB.mk (fun e => by cases e) (fun _ => ?_)
        refine ⟨leb rfl, ?_⟩
        have er : r = h.length := by omega
        subst er
        rw [List.take_length] at hw hw0
        rw [hw]
        cases w with
        | none =>
          have hn : h = [] := hw0.1 rfl
          refine If.mk (fun h => absurd h (by rw [hn]; exact (by decide))) (fun _ => ?_)
          exact ⟨.inl rfl, FinG.mk _ rfl rfl rfl⟩
        | some q =>
          have hn : 0 < h.length := List.length_pos_iff.2 fun e => by cases hw0.2 e
          refine If.mk (fun _ => ?_) (fun h => absurd (by omega) h)
          refine ⟨.inl rfl, FinG.mk _ rfl rfl ?_⟩
          show AV.tup [.agg [AV.freeze _ (eInts q.1), _], _] = _
          rw [freeze_eInts]
          rfl

/-- What Misheard returns for the best, if any. -/
def misR : Option (List Int × Nat) → AV
  | none => .tup [.lit (.slice none 0 0), n' 0, .lit (.int .i64 5)]
  | some p => .tup [eInts p.1, n' (p.2 : Nat), .lit (.int .i64 0)]
theorem under_misR (n : Nat) (o : Option (List Int × Nat)) : (misR o).under n := by
  cases o with
  | none => exact ⟨trivial, trivial, trivial, trivial⟩
  | some p => exact ⟨under_eInts _ _, trivial, trivial, trivial⟩

set_option maxHeartbeats 8000000 in
set_option maxRecDepth 100000 in
theorem c_misheard {b : Book} (hl : BLen b) (hB : BOk b) {i : Int} {v : Vers} (hi : 0 ≤ i) (hv : b.vs[i.toNat]? = some v) {cues tunes : List Int} (hcu : LList b cues) (ht : LTunes b tunes) (hct : cues.length = tunes.length) (H : List Blk) :
    ACall Tryz.prog 69 [eBook b, n' i, eInts cues, eInts tunes] H (.ret (misR (bestOf (apartN cues) (hitL b.cues.toNat v tunes [])))) H := by
  have hlt := (List.getElem?_eq_some_iff.1 hv).1
  have htl := ht.2
  have hvn := hB.1.2.2
  unfold inI at hvn
  obtain ⟨hvo, hv0⟩ := (hB.2 v (List.mem_of_getElem? hv)).vers
  have hsm := hitL_small (c := b.cues.toNat) (by have := hB.1.1; unfold inI at this; omega) (v := v) (tunes := tunes) (now := []) (by omega)
  refine fn_ruleM (m := false) (fn := Tryz.f69) (c := (Tryz.f69.body).getD .skip) mixed (by kernel_rfl) (by kernel_rfl) (of_decide_eq_true (by kernel_rfl)) ?_ ?_ ?_ H
  · exact ⟨under_eBook 0 _, trivial, under_eInts 0 _, under_eInts 0 _, trivial⟩
  · exact under_misR 0 _
  · refine CallG.bool (c_isBook hl) (fun _ => ?_) (fun x => absurd hB x)
    refine CallG.bool (c_hasVersion hB.fit i) (fun _ => ?_) (fun x => absurd (by unfold inI; omega) x)
    refine CallG.bool (c_areCues hB.fit _ (by omega)) (fun _ => ?_) (fun x => absurd hcu x)
    refine CallG.bool (c_areHeard hB.fit _ (by omega)) (fun _ => ?_) (fun x => absurd ht x)
    refine If.mk (fun _ => ?_) (fun h => absurd (by omega) h)
    refine IfB.mk (fun e => by cases e) (fun _ => ?_)
    refine CallG.inlineP (m := false) (fn := Tryz.f101) (c := (Tryz.f101.body).getD .skip) mixed (by kernel_rfl) (by kernel_rfl) (of_decide_eq_true (by kernel_rfl)) ?_
    refine .inl ⟨.inl rfl, _, rfl, rfl, ?_⟩
    refine RangeG.ghost ?_
    refine RangeG.fresh (n0 := 7) [(6, .ptr 1 0), (11, .ptr 2 0), (49, .fn (.func 162) [] [.ptr 3 0, .ptr 5 0, .ptr 4 0])] [(0, bBox b), (1, .box [eInts cues] 25), (2, .box [.lit (.slice none 0 0)] 160), (3, bBox b), (4, .box [n' i] 3), (5, .box [eInts tunes] 25), (6, .row 0)] rfl ?_ ?_ ?_
    · exact ⟨⟨_, rfl, Weak.refl _ _⟩, ⟨_, rfl, Weak.refl _ _⟩, ⟨_, rfl, Weak.refl _ _⟩, trivial⟩
    · exact ⟨⟨rfl, ltb rfl⟩, ⟨rfl, ltb rfl⟩, ⟨rfl, ltb rfl⟩, ⟨rfl, ltb rfl⟩, ⟨rfl, ltb rfl⟩, ⟨rfl, ltb rfl⟩, ⟨rfl, ltb rfl⟩, trivial⟩
    refine RangeG.box 2 [.sl 0 [] (.own 6 0 2)] 2 (leb rfl) (leb rfl) rfl (.cons (Weak.own (r := 6) (g := 0) 2 rfl) (.nil _)) ?_
    refine RangeG.after ?_
    refine RangeG.outer (f := 162) (first := []) (captured := [.ptr 3 0, .ptr 5 0, .ptr 4 0]) rfl rfl rfl ?_
    refine CallG.inlineM (m := false) (fn := Tryz.f162) (c := (Tryz.f162.body).getD .skip) mixed (by kernel_rfl) (by kernel_rfl) (of_decide_eq_true (by kernel_rfl)) ?_
    refine CallG.inlineP (m := false) (fn := Tryz.f163) (c := (Tryz.f163.body).getD .skip) mixed (by kernel_rfl) (by kernel_rfl) (of_decide_eq_true (by kernel_rfl)) ?_
    refine .inl ⟨.inl rfl, _, rfl, rfl, ?_⟩
    refine RangeG.fresh (n0 := 12) [(1, .ptr 3 0), (2, .ptr 5 0), (3, .ptr 4 0), (4, .ptr 9 0), (11, .fn (.func 197) [] [.ptr 11 0, .ptr 10 0])] ((misL b i cues tunes .ready .ready []).take 12) rfl ?_ ?_ ?_
    · exact ⟨⟨_, rfl, Weak.refl _ _⟩, ⟨_, rfl, Weak.refl _ _⟩, ⟨_, rfl, Weak.refl _ _⟩, ⟨_, rfl, Weak.refl _ _⟩, ⟨_, rfl, Weak.refl _ _⟩, trivial⟩
    · exact ⟨⟨rfl, ltb rfl⟩, ⟨rfl, ltb rfl⟩, ⟨rfl, ltb rfl⟩, ⟨rfl, ltb rfl⟩, ⟨rfl, ltb rfl⟩, ⟨rfl, ltb rfl⟩, ⟨rfl, ltb rfl⟩, ⟨rfl, ltb rfl⟩, ⟨rfl, ltb rfl⟩, ⟨rfl, ltb rfl⟩, ⟨rfl, ltb rfl⟩, ⟨rfl, ltb rfl⟩, trivial⟩
    refine RangeG.outer (f := 197) (first := []) (captured := [.ptr 11 0, .ptr 10 0]) rfl rfl rfl ?_
    refine CallG.inlineP (m := false) (fn := Tryz.f197) (c := (Tryz.f197.body).getD .skip) mixed (by kernel_rfl) (by kernel_rfl) (of_decide_eq_true (by kernel_rfl)) ?_
    generalize hL : hitL b.cues.toNat v tunes [] = L at hsm ⊢
    refine CallG.pre (eInts [] :: srchM) (misL b i cues tunes .ready .ready []) (misL b i cues tunes .ready .ready L) (nb true) 2 (.cons (fun H => wk_nil H) (.cons (fun H => WeakH.refl _ H) (.cons (fun H => WeakH.refl _ H) (.cons (fun H => WeakH.refl _ H) (.cons (fun H => WeakH.refl _ H) .nil)))))
      (misL_numd _ _ _ _ _ _ _) (misL_numd _ _ _ _ _ _ _) rfl (misL_marks _ _ _ _ _ _ _ _) ?_ rfl ⟨under_eInts _ _, ltb rfl, ltb rfl, ltb rfl, ltb rfl, trivial⟩ rfl (misL_under _ _ _ _ _ _ _) (misL_under _ _ _ _ _ _ _) ?_ ?_
    · exact ⟨⟨rfl, ltb rfl⟩, ⟨rfl, ltb rfl⟩, ⟨rfl, ltb rfl⟩, ⟨rfl, ltb rfl⟩, ⟨rfl, ltb rfl⟩, ⟨rfl, ltb rfl⟩, ⟨rfl, ltb rfl⟩, ⟨rfl, ltb rfl⟩, ⟨rfl, ltb rfl⟩, ⟨rfl, ltb rfl⟩, ⟨rfl, ltb rfl⟩, ⟨rfl, ltb rfl⟩, ⟨rfl, ltb rfl⟩, ⟨rfl, ltb rfl⟩, ⟨rfl, ltb rfl⟩, ⟨rfl, ltb rfl⟩, trivial⟩
    · have := c_searchM hB.1.1 hi hv hvo hv0 ht hct tunes.length (now := []) (h := []) (by simp) (fun x h => by cases h) (by rw [hL]; simp; omega)
      rw [hL, List.nil_append] at this
      exact this
    · refine .inl ⟨.inr rfl, _, rfl, rfl, ?_⟩
      refine ⟨_, _, rfl, (fun e => by cases e), rfl, ?_⟩
      refine ⟨.inr rfl, rfl, _, rfl, ?_⟩
      refine ⟨_, _, rfl, (fun e => by cases e), rfl, rfl, [(11, .ptr 2 0)], [(2, .box [.sl L.length (hRow cues L) (.own 6 L.length 2)] 160), (6, .row L.length)], 16, rfl, ⟨⟨_, rfl, Weak.refl _ _⟩, trivial⟩, ⟨⟨rfl, ltb rfl⟩, ⟨rfl, ltb rfl⟩, trivial⟩, ?_⟩
      have hbest := fun H => c_bestH cues L (by omega) H
      generalize bestOf (apartN cues) L = o at hbest ⊢
      cases o with
      | none =>
        refine CallG.weak _ (.cons (fun H => WeakH.tail _ _ _ H) (.cons (fun H => WeakH.refl _ H) (.nil))) (hbest) ?_
        refine IfB.mk (fun _ => ?_) (fun e => by cases e)
        exact ⟨.inl rfl, FinM.mk _ rfl rfl rfl⟩
      | some q =>
        refine CallG.weak _ (.cons (fun H => WeakH.tail _ _ _ H) (.cons (fun H => WeakH.refl _ H) (.nil))) (hbest) ?_
        refine IfB.mk (fun e => by cases e) (fun _ => ?_)
        refine ⟨.inl rfl, FinM.mk _ rfl rfl ?_⟩
        show AV.tup [AV.freeze _ (eInts q.1), _, _] = _
        rw [freeze_eInts]
        rfl

set_option maxHeartbeats 4000000 in
set_option maxRecDepth 100000 in
theorem c_misheard_no {b : Book} (hl : BLen b) (i : Int) (cues tunes : List Int) (hcl : cues.length < 4611686018427387904) (htl : tunes.length < 4611686018427387904) (hP : ¬ (BOk b ∧ inI i 0 (b.vs.length - 1) ∧ EvOk b (cues, tunes))) (H : List Blk) :
    ACall Tryz.prog 69 [eBook b, n' i, eInts cues, eInts tunes] H (.ret (.tup [.lit (.slice none 0 0), n' 0, .lit (.int .i64 2)])) H := by
  refine fn_rule (m := false) (fn := Tryz.f69) (c := (Tryz.f69.body).getD .skip) mixed (by kernel_rfl) (by kernel_rfl) (of_decide_eq_true (by kernel_rfl)) ?_ ?_ ?_ H
  · exact ⟨under_eBook 0 _, trivial, under_eInts 0 _, under_eInts 0 _, trivial⟩
  · exact ⟨trivial, trivial, trivial, trivial⟩
  · refine CallG.bool (c_isBook hl) (fun hB => ?_) (fun _ => ?_)
    · refine CallG.bool (c_hasVersion hB.fit i) (fun h2 => ?_) (fun _ => ?_)
      · refine CallG.bool (c_areCues hB.fit _ hcl) (fun h3 => ?_) (fun _ => ?_)
        · refine CallG.bool (c_areHeard hB.fit _ htl) (fun h4 => ?_) (fun _ => ?_)
          · refine If.mk (fun h => absurd h (fun h => hP ⟨hB, h2, ⟨h3, h4⟩, h⟩)) (fun _ => ?_)
            refine IfB.mk (fun _ => ?_) (fun e => by cases e)
            exact ⟨.inl rfl, FinG.mk _ rfl rfl rfl⟩
          · refine IfB.mk (fun _ => ?_) (fun e => by cases e)
            exact ⟨.inl rfl, FinG.mk _ rfl rfl rfl⟩
        · refine IfB.mk (fun _ => ?_) (fun e => by cases e)
          exact ⟨.inl rfl, FinG.mk _ rfl rfl rfl⟩
      · refine IfB.mk (fun _ => ?_) (fun e => by cases e)
        exact ⟨.inl rfl, FinG.mk _ rfl rfl rfl⟩
    · refine IfB.mk (fun _ => ?_) (fun e => by cases e)
      exact ⟨.inl rfl, FinG.mk _ rfl rfl rfl⟩
end Go.Vm
