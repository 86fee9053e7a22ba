/-
  Contracts of functions of packages kelirlaw04, kelirref04, kelirref02, cue and slices, for books, evenings and lists as told at each, in every heap. Conditions: at each theorem. (Fences: their order; lists of cues without some.)
-/
import Derived.Test.YtdhdaadoehbopaaGreatDoorCl
import Derived.Test.YtdhdaadoehbopaaGreatDoorCb
import Derived.Test.YtdhdaadoehbopaaGreatDoorCo
import Derived.Test.YtdhdaadoehbopaaGreatDoorCa
import Derived.Test.YtdhdaadoehbopaaGreatDoorCd
import Derived.Test.YtdhdaadoehbopaaGreatDoorCc

/-
  Fences: in which order they are tried; what is played without some cues; how soon. (Own work: plain mathematics.)
-/
namespace Go.Vm
open Go.Proofs

/-! ### The order in which fences are tried -/
def subT (K : Nat) : Nat → Nat → List (List Int)
  | 0, _ => [[]]
  | m + 1, s => (List.range (K - m - s)).flatMap fun r : Nat => (subT K m (s + r + 1)).map fun l => ((s + r : Nat) : Int) :: l

theorem subs_tails (K : Nat) : ∀ (m s : Nat) (now : List Int), subsL K m s now = (subT K m s).map fun l => now ++ l
  | 0, s, now => by simp [subsL, subT]
  | m + 1, s, now => by
    show (List.range (K - m - s)).flatMap (fun r : Nat => subsL K m (s + r + 1) (now ++ [((s + r : Nat) : Int)])) = ((List.range (K - m - s)).flatMap fun r : Nat => (subT K m (s + r + 1)).map fun l => ((s + r : Nat) : Int) :: l).map fun l => now ++ l
    have e : (fun r : Nat => subsL K m (s + r + 1) (now ++ [((s + r : Nat) : Int)])) = fun r : Nat => ((subT K m (s + r + 1)).map fun l => ((s + r : Nat) : Int) :: l).map fun l => now ++ l := funext fun r => by
      rw [subs_tails K m, List.map_map]
      exact List.map_congr_left fun l _ => by simp
    rw [e]
    generalize List.range (K - m - s) = R
    induction R with
    | nil => rfl
    | cons a R ih => rw [List.flatMap_cons, List.flatMap_cons, List.map_append, ih]

/-- Increasing numbers from one on, below another one. -/
def Incr (K : Nat) : Nat → List Int → Prop
  | _, [] => True
  | s, c :: l => (s : Int) ≤ c ∧ c < K ∧ Incr K (c.toNat + 1) l

theorem incr_length {K : Nat} : ∀ {l : List Int} {s : Nat}, Incr K s l → s ≤ K → s + l.length ≤ K
  | [], s, _, h => by simpa using h
  | c :: l, s, h, _ => by
    obtain ⟨h1, h2, h3⟩ := h
    have := incr_length h3 (by omega)
    rw [List.length_cons]; omega

theorem subT_mem {K : Nat} : ∀ {m s : Nat} {l : List Int}, s ≤ K → (l ∈ subT K m s ↔ l.length = m ∧ Incr K s l)
  | 0, s, l, _ => by
    show l ∈ [[]] ↔ _
    rw [List.mem_singleton]
    refine ⟨fun h => by subst h; exact ⟨rfl, trivial⟩, fun h => List.eq_nil_of_length_eq_zero h.1⟩
  | m + 1, s, l, hs => by
    show l ∈ (List.range (K - m - s)).flatMap (fun r : Nat => (subT K m (s + r + 1)).map fun l => ((s + r : Nat) : Int) :: l) ↔ _
    rw [List.mem_flatMap]
    refine ⟨fun h => ?_, fun h => ?_⟩
    · obtain ⟨r, hr, h1⟩ := h
      obtain ⟨t, ht, rfl⟩ := List.mem_map.1 h1
      have hr := List.mem_range.1 hr
      obtain ⟨h2, h3⟩ := (subT_mem (s := s + r + 1) (by omega)).1 ht
      refine ⟨by simp [h2], by omega, by omega, ?_⟩
      rw [Int.toNat_natCast]; exact h3
    · obtain ⟨h1, h2⟩ := h
      match l, h1, h2 with
      | c :: t, h1, h2 =>
        obtain ⟨h3, h4, h5⟩ := h2
        have hlen := incr_length h5 (by omega)
        have h1' : t.length = m := by simpa using h1
        refine ⟨c.toNat - s, List.mem_range.2 (by omega), List.mem_map.2 ⟨t, ?_, ?_⟩⟩
        · rw [show s + (c.toNat - s) + 1 = c.toNat + 1 by omega]
          exact (subT_mem (by omega)).2 ⟨h1', h5⟩
        · rw [show ((s + (c.toNat - s) : Nat) : Int) = c by omega]

theorem subT_sorted (K : Nat) : ∀ m s : Nat, (subT K m s).Pairwise LBefore
  | 0, _ => List.pairwise_singleton _ _
  | m + 1, s => by
    show ((List.range (K - m - s)).flatMap fun r : Nat => (subT K m (s + r + 1)).map fun l => ((s + r : Nat) : Int) :: l).Pairwise _
    have key : ∀ R : List Nat, R.Pairwise (· < ·) → (R.flatMap fun r : Nat => (subT K m (s + r + 1)).map fun l => ((s + r : Nat) : Int) :: l).Pairwise LBefore := by
      intro R
      induction R with
      | nil => intro _; exact List.Pairwise.nil
      | cons r R ih =>
        intro hR
        rw [List.pairwise_cons] at hR
        rw [List.flatMap_cons, List.pairwise_append]
        refine ⟨?_, ih hR.2, fun a ha b hb => ?_⟩
        · rw [List.pairwise_map]
          exact (subT_sorted K m _).imp fun h => .inr ⟨rfl, h⟩
        · obtain ⟨l, _, rfl⟩ := List.mem_map.1 ha
          obtain ⟨j, hj, hb⟩ := List.mem_flatMap.1 hb
          obtain ⟨t, _, rfl⟩ := List.mem_map.1 hb
          have := hR.1 j hj
          exact .inl (by omega)
    exact key _ List.pairwise_lt_range

/-- Shorter, or as long and before. -/
def FBefore (a b : List Int) : Prop := a.length < b.length ∨ a.length = b.length ∧ LBefore a b

theorem lbefore_trans : ∀ {a b c : List Int}, LBefore a b → LBefore b c → LBefore a c
  | x :: a, y :: b, z :: c, h, h' => by
    have h : x < y ∨ x = y ∧ LBefore a b := h
    have h' : y < z ∨ y = z ∧ LBefore b c := h'
    show x < z ∨ x = z ∧ LBefore a c
    rcases h with h | ⟨h, h2⟩ <;> rcases h' with h' | ⟨h', h2'⟩
    · exact .inl (by omega)
    · exact .inl (by omega)
    · exact .inl (by omega)
    · exact .inr ⟨by omega, lbefore_trans h2 h2'⟩
  | [], _ :: _, _ :: _, _, _ => trivial
  | [], _ :: _, [], _, h => h.elim
  | _ :: _, [], _, h, _ => h.elim
  | [], [], _, h, _ => h.elim
  | _ :: _, _ :: _, [], _, h => h.elim
theorem fbefore_asymm {a b : List Int} (h : FBefore a b) (h' : FBefore b a) : False := by
  rcases h with h | ⟨h, h2⟩ <;> rcases h' with h' | ⟨h', h2'⟩
  · omega
  · omega
  · omega
  · exact lbefore_irrefl _ (lbefore_trans h2 h2')

theorem allS_mem {K n : Nat} {l : List Int} : l ∈ allS K n ↔ l.length < n ∧ Incr K 0 l := by
  unfold allS
  rw [List.mem_flatMap]
  refine ⟨fun h => ?_, fun h => ⟨l.length, List.mem_range.2 h.1, ?_⟩⟩
  · obtain ⟨m, hm, h1⟩ := h
    have hm := List.mem_range.1 hm
    rw [subs_tails] at h1
    simp only [List.nil_append, List.map_id'] at h1
    obtain ⟨h2, h3⟩ := (subT_mem (Nat.zero_le _)).1 h1
    exact ⟨by omega, h3⟩
  · rw [subs_tails]
    simp only [List.nil_append, List.map_id']
    exact (subT_mem (Nat.zero_le _)).2 ⟨rfl, h.2⟩

theorem allS_sorted (K : Nat) : ∀ n : Nat, (allS K n).Pairwise FBefore
  | 0 => List.Pairwise.nil
  | n + 1 => by
    rw [allS_succ, List.pairwise_append]
    refine ⟨allS_sorted K n, ?_, fun a ha b hb => ?_⟩
    · rw [subs_tails]
      simp only [List.nil_append, List.map_id']
      refine (subT_sorted K n 0).imp_of_mem fun ha hb h => .inr ⟨?_, h⟩
      rw [((subT_mem (Nat.zero_le _)).1 ha).1, ((subT_mem (Nat.zero_le _)).1 hb).1]
    · rw [subs_tails] at hb
      simp only [List.nil_append, List.map_id'] at hb
      have h1 := (allS_mem.1 ha).1
      have h2 := ((subT_mem (Nat.zero_le _)).1 hb).1
      exact .inl (by omega)

theorem runF_first {good : List Int → Bool} : ∀ {L : List (List Int)} {out x : List Int}, x ∈ L → good x = true → L.Pairwise FBefore → good (runF good L out).2 = true ∧ (runF good L out).2 ∈ L ∧ ∀ y ∈ L, good y = true → y = (runF good L out).2 ∨ FBefore (runF good L out).2 y
  | [], _, _, h, _, _ => by cases h
  | z :: L, out, x, hx, hg, hp => by
    obtain ⟨hp1, hp2⟩ := List.pairwise_cons.1 hp
    cases h : good z with
    | true =>
      have e : runF good (z :: L) out = (true, z) := by unfold runF; rw [if_pos h]
      rw [e]
      refine ⟨h, by simp, fun y hy _ => ?_⟩
      rcases List.mem_cons.1 hy with rfl | hy
      · exact .inl rfl
      · exact .inr (hp1 y hy)
    | false =>
      have e : runF good (z :: L) out = runF good L z := by
        show (if good z then _ else _) = _
        rw [if_neg (by simp [h])]
      rw [e]
      have hxL : x ∈ L := by
        rcases List.mem_cons.1 hx with rfl | hx
        · rw [h] at hg; cases hg
        · exact hx
      obtain ⟨k1, k2, k3⟩ := runF_first (good := good) (out := z) hxL hg hp2
      refine ⟨k1, by simp [k2], fun y hy hgy => ?_⟩
      rcases List.mem_cons.1 hy with rfl | hy
      · rw [h] at hgy; cases hgy
      · exact k3 y hy hgy
end Go.Vm

/-
  Fences: what is played without some cues; how soon a tune is played. (Own work: plain mathematics.)
-/
namespace Go.Vm
open Go.Proofs

/-- The tune is played for the last cue. -/
def LastT (v : Vers) (tune : Int) (l : List Nat) : Prop := ∃ l0 c, l = l0 ++ [c] ∧ (mv v (after v 0 (cuesI l0)) c).2 = tune
def Avoids (wo : List Int) (l : List Nat) : Prop := ∀ c ∈ l, (c : Int) ∉ wo

theorem avoids_snoc {wo : List Int} {l : List Nat} {c : Nat} : Avoids wo (l ++ [c]) ↔ Avoids wo l ∧ (c : Int) ∉ wo := by
  unfold Avoids
  refine ⟨fun h => ⟨fun x hx => h x (by simp [hx]), h c (by simp)⟩, fun h x hx => ?_⟩
  rcases List.mem_append.1 hx with hx | hx
  · exact h.1 x hx
  · rw [List.mem_singleton] at hx; subst hx; exact h.2

theorem lastT_snoc {v : Vers} {tune : Int} {l : List Nat} {c : Nat} : LastT v tune (l ++ [c]) ↔ (mv v (after v 0 (cuesI l)) c).2 = tune := by
  refine ⟨fun ⟨l0, d, e, h⟩ => ?_, fun h => ⟨l, c, rfl, h⟩⟩
  obtain ⟨e1, e2⟩ := List.append_inj' e rfl
  injection e2 with e2
  subst e1 e2
  exact h

section
variable {v : Vers} {k : Nat} {tune : Int} {wo : List Int}

/-- A run without the cues left out, as a run of the others. -/
theorem run_filter (l : List Nat) : ∃ l', (∀ c ∈ l', c ∈ l) ∧ l'.length ≤ l.length ∧ Avoids wo l' ∧ (runB (nextD v tune wo) (0, false) l).1 = after v 0 (cuesI l') ∧ ((runB (nextD v tune wo) (0, false) l).2 = true ↔ LastT v tune l') := by
  have key : ∀ m : List Nat, ∃ l', (∀ c ∈ l', c ∈ m.reverse) ∧ l'.length ≤ m.reverse.length ∧ Avoids wo l' ∧ (runB (nextD v tune wo) (0, false) m.reverse).1 = after v 0 (cuesI l') ∧ ((runB (nextD v tune wo) (0, false) m.reverse).2 = true ↔ LastT v tune l') := fun m => by
    induction m with
    | nil =>
      refine ⟨[], fun _ h => (by cases h), Nat.le_refl _, (fun _ h => by cases h), rfl, ?_⟩
      refine ⟨(fun h => by cases h), fun ⟨l0, c, e, _⟩ => ?_⟩
      have := congrArg List.length e
      simp at this
    | cons c m ih =>
      obtain ⟨l', h1, h2, h3, h4, h5⟩ := ih
      rw [List.reverse_cons, runB_snoc]
      generalize runB (nextD v tune wo) (0, false) m.reverse = p at h4 h5 ⊢
      obtain ⟨s, f⟩ := p
      have h4 : s = after v 0 (cuesI l') := h4
      by_cases hc : (c : Int) ∈ wo
      · have e : nextD v tune wo (s, f) c = (s, f) := if_pos hc
        rw [e]
        exact ⟨l', fun x hx => by simp [h1 x hx], by simp at h2 ⊢; omega, h3, h4, h5⟩
      · have e : nextD v tune wo (s, f) c = ((mv v s c).1.toNat, decide ((mv v s c).2 = tune)) := if_neg hc
        rw [e]
        refine ⟨l' ++ [c], fun x hx => ?_, by simp at h2 ⊢; omega, avoids_snoc.2 ⟨h3, hc⟩, ?_, ?_⟩
        · rcases List.mem_append.1 hx with hx | hx
          · simp [h1 x hx]
          · simp at hx; simp [hx]
        · rw [cuesI_snoc, after_snoc, Int.toNat_natCast, ← h4]
        · rw [lastT_snoc, ← h4, decide_eq_true_iff]
  have := key l.reverse
  rwa [List.reverse_reverse] at this

theorem run_avoid {l : List Nat} (h : Avoids wo l) : (runB (nextD v tune wo) (0, false) l).1 = after v 0 (cuesI l) ∧ ((runB (nextD v tune wo) (0, false) l).2 = true ↔ LastT v tune l) := by
  have key : ∀ m : List Nat, Avoids wo m.reverse → (runB (nextD v tune wo) (0, false) m.reverse).1 = after v 0 (cuesI m.reverse) ∧ ((runB (nextD v tune wo) (0, false) m.reverse).2 = true ↔ LastT v tune m.reverse) := fun m => by
    induction m with
    | nil =>
      intro _
      refine ⟨rfl, (fun h => by cases h), fun ⟨l0, c, e, _⟩ => ?_⟩
      have := congrArg List.length e
      simp at this
    | cons c m ih =>
      intro ha
      rw [List.reverse_cons] at ha ⊢
      obtain ⟨ha1, ha2⟩ := avoids_snoc.1 ha
      obtain ⟨h4, h5⟩ := ih ha1
      rw [runB_snoc]
      generalize runB (nextD v tune wo) (0, false) m.reverse = p at h4 h5 ⊢
      obtain ⟨s, f⟩ := p
      have h4 : s = after v 0 (cuesI m.reverse) := h4
      have e : nextD v tune wo (s, f) c = ((mv v s c).1.toNat, decide ((mv v s c).2 = tune)) := if_neg ha2
      rw [e]
      refine ⟨?_, ?_⟩
      · rw [cuesI_snoc, after_snoc, Int.toNat_natCast, ← h4]
      · rw [lastT_snoc, ← h4, decide_eq_true_iff]
  have := key l.reverse
  rw [List.reverse_reverse] at this
  exact this h

theorem good_iff : goodF v tune k wo = true ↔ ∀ l, OkL k l → Avoids wo l → ¬ LastT v tune l := by
  classical
  unfold goodF
  rw [decide_eq_true_iff]
  refine ⟨fun h l h1 h2 h3 => h l h1 ((run_avoid h2).2.2 h3), fun h u hu hd => ?_⟩
  obtain ⟨l', h1, _, h3, _, h5⟩ := run_filter (v := v) (tune := tune) (wo := wo) u
  exact h l' (fun c hc => hu c (h1 c hc)) h3 (h5.1 hd)

/-- The fence: none plays the tune without it; and it is the first such one. -/
theorem fence_props (k : Nat) : Incr k 0 (fenceL v tune k) ∧ goodF v tune k (fenceL v tune k) = true ∧ ∀ F, Incr k 0 F → goodF v tune k F = true → F = fenceL v tune k ∨ FBefore (fenceL v tune k) F := by
  have full : ∃ F, Incr k 0 F ∧ goodF v tune k F = true := by
    refine ⟨(List.range k).map fun c : Nat => (c : Int), ?_, good_iff.2 fun l h1 h2 h3 => ?_⟩
    · have key : ∀ n s, s + n ≤ k → Incr k s ((List.range' s n).map fun c : Nat => (c : Int)) := fun n => by
        induction n with
        | zero => intro s _; exact trivial
        | succ n ih =>
          intro s hs
          rw [List.range'_succ, List.map_cons]
          refine ⟨by omega, by omega, ?_⟩
          rw [Int.toNat_natCast]
          exact ih (s + 1) (by omega)
      have := key k 0 (by omega)
      rwa [← List.range_eq_range'] at this
    · obtain ⟨l0, c, e, _⟩ := h3
      subst e
      have hc : c < k := h1 c (by simp)
      exact h2 c (by simp) (List.mem_map.2 ⟨c, List.mem_range.2 hc, rfl⟩)
  obtain ⟨F0, h1, h2⟩ := full
  have hlen : ∀ {F : List Int}, Incr k 0 F → F.length < k + 1 := fun h => by
    have := incr_length h (Nat.zero_le _)
    omega
  obtain ⟨k1, k2, k3⟩ := runF_first (good := goodF v tune k) (L := allS k (k + 1)) (out := []) (allS_mem.2 ⟨hlen h1, h1⟩) h2 (allS_sorted k (k + 1))
  exact ⟨(allS_mem.1 k2).2, k1, fun F hF hg => k3 F (allS_mem.2 ⟨hlen hF, hF⟩) hg⟩
end

/-- A state met twice can be cut out. -/
theorem cut_soon {v : Vers} {k : Nat} {tune : Int} (hv : VersOk v k) (hv0 : 0 < v.length) {wo : List Int} : ∀ {n : Nat} {l : List Nat}, l.length ≤ n → OkL k l → Avoids wo l → LastT v tune l → ∃ l', OkL k l' ∧ Avoids wo l' ∧ LastT v tune l' ∧ l'.length ≤ v.length
  | 0, l, hn, _, _, ⟨l0, c, e, _⟩ => by
    subst e
    simp at hn
  | n + 1, l, hn, ho, ha, ht => by
    by_cases hle : l.length ≤ v.length
    · exact ⟨l, ho, ha, ht, hle⟩
    · -- two prefixes, shorter than the list, after which the state is the same
      have hex : ∃ i j, i < j ∧ j < l.length ∧ after v 0 (cuesI (l.take i)) = after v 0 (cuesI (l.take j)) := by
        apply Classical.byContradiction
        intro hno
        have hnd : ((List.range l.length).map fun i => after v 0 (cuesI (l.take i))).Nodup := by
          unfold List.Nodup
          rw [List.pairwise_map]
          refine List.pairwise_lt_range.imp_of_mem fun {i j} _ hj hij he => hno ⟨i, j, hij, List.mem_range.1 hj, he⟩
        have := nodup_length (U := List.range v.length) hnd fun x hx => by
          obtain ⟨i, _, rfl⟩ := List.mem_map.1 hx
          exact List.mem_range.2 (after_lt hv (cuesI_ok fun c hc => ho c (List.mem_of_mem_take hc)) hv0)
        simp at this
        omega
      obtain ⟨i, j, hij, hj, he⟩ := hex
      obtain ⟨l0, c, e, ht'⟩ := ht
      subst e
      have hj0 : j ≤ l0.length := by simp at hj; omega
      have e1 : (l0 ++ [c]).take i = l0.take i := List.take_append_of_le_length (by omega)
      have e2 : (l0 ++ [c]).take j = l0.take j := List.take_append_of_le_length hj0
      rw [e1, e2] at he
      have hco : ∀ a b : List Nat, cuesI (a ++ b) = cuesI a ++ cuesI b := fun a b => List.map_append
      have haf : ∀ (a b : List Int) (s : Nat), after v s (a ++ b) = after v (after v s a) b := fun a b s => by
        induction a generalizing s with
        | nil => rfl
        | cons x a ih => exact ih _
      have hs : after v 0 (cuesI (l0.take i ++ l0.drop j)) = after v 0 (cuesI l0) := by
        rw [hco, haf, he, ← haf, ← hco, List.take_append_drop]
      have hmem : ∀ x ∈ l0.take i ++ l0.drop j ++ [c], x ∈ l0 ++ [c] := fun x hx => by
        simp only [List.mem_append] at hx ⊢
        rcases hx with (hx | hx) | hx
        · exact .inl (List.mem_of_mem_take hx)
        · exact .inl (List.mem_of_mem_drop hx)
        · exact .inr hx
      refine cut_soon hv hv0 (n := n) (l := l0.take i ++ l0.drop j ++ [c]) ?_ (fun x hx => ho x (hmem x hx)) (fun x hx => ha x (hmem x hx)) (lastT_snoc.2 (by rw [hs]; exact ht'))
      simp only [List.length_append, List.length_take, List.length_drop, List.length_singleton] at hn ⊢
      omega
end Go.Vm

/-
  Dangers and fences: what the law asks. (Own work: plain mathematics.)
-/
namespace Go.Vm
open Go.Proofs

section
variable {v : Vers} {k : Nat} {tune : Int}

theorem danger_some (hv : VersOk v k) (hv0 : 0 < v.length) {l : List Nat} (h : Found (nextD v tune []) (fun p : Pt => p.2 = true) (0, false) k (some l)) :
    OkL k l ∧ LastT v tune l ∧ l.length ≤ v.length ∧ ∀ u, OkL k u → LastT v tune u → LE l u := by
  obtain ⟨h1, h2, h3⟩ := h.yes l rfl
  have ha : ∀ u : List Nat, Avoids [] u := fun _ _ _ h => by cases h
  have h2' := (run_avoid (ha l)).2.1 h2
  have h3' : ∀ u, OkL k u → LastT v tune u → LE l u := fun u hu ht => h3 u hu ((run_avoid (ha u)).2.2 ht)
  obtain ⟨l', k1, _, k3, k4⟩ := cut_soon hv hv0 (Nat.le_refl _) h1 (ha l) h2'
  refine ⟨h1, h2', Nat.le_trans ?_ k4, h3'⟩
  rcases h3' l' k1 k3 with (h | ⟨h, _⟩) | rfl
  · omega
  · omega
  · exact Nat.le_refl _

theorem danger_none {o : Option (List Nat)} (h : Found (nextD v tune []) (fun p : Pt => p.2 = true) (0, false) k o) (e : o = none) : ∀ u, OkL k u → ¬ LastT v tune u := fun u hu ht =>
  h.no e u hu ((run_avoid (fun _ _ h => by cases h)).2.2 ht)

theorem plays_last {u : List Nat} {i : Nat} {x : Int} (h : (plays v 0 (cuesI u))[i]? = some x) : i < u.length ∧ (x = tune → LastT v tune (u.take (i + 1))) := by
  have hi : i < u.length := by
    have := (List.getElem?_eq_some_iff.1 h).1
    rwa [plays_length, cuesI_length] at this
  refine ⟨hi, fun e => ?_⟩
  subst e
  obtain ⟨c, hc, htk, _⟩ := at_some (l := u) (r := i) hi
  rw [htk]
  refine lastT_snoc.2 ?_
  have e : u = (u.take i ++ [c]) ++ u.drop (i + 1) := by rw [← htk, List.take_append_drop]
  have e2 : cuesI u = cuesI (u.take i ++ [c]) ++ cuesI (u.drop (i + 1)) := by
    unfold cuesI
    rw [← List.map_append, ← e]
  have hl : (plays v 0 (cuesI (u.take i))).length = i := by rw [plays_length, cuesI_length, List.length_take]; omega
  rw [e2, plays_append, cuesI_snoc, plays_snoc, List.append_assoc, List.getElem?_append_right (by omega), hl, Nat.sub_self, Int.toNat_natCast] at h
  exact Option.some.inj h

theorem fence_nil (h : ∀ u, OkL k u → ¬ LastT v tune u) : fenceL v tune k = [] := by
  obtain ⟨_, _, h3⟩ := fence_props (v := v) (tune := tune) k
  rcases h3 [] trivial (good_iff.2 fun l hl _ => h l hl) with e | h | ⟨h, h2⟩
  · exact e.symm
  · exact absurd h (Nat.not_lt_zero _)
  · exact List.eq_nil_of_length_eq_zero h

theorem fence_some {l : List Nat} (h1 : OkL k l) (h2 : LastT v tune l) : fenceL v tune k ≠ [] := fun e => by
  have := (fence_props (v := v) (tune := tune) k).2.1
  rw [e] at this
  exact good_iff.1 this l h1 (fun _ _ h => by cases h) h2

/-- The tune is played with the last cue alone. -/
theorem danger_own {l : List Nat} (h1 : OkL k l) (h2 : LastT v tune l) (h3 : ∀ u, OkL k u → LastT v tune u → LE l u) : ∃ P : List Int, plays v 0 (cuesI l) = P ++ [tune] ∧ tune ∉ P ∧ P.length + 1 = l.length := by
  obtain ⟨l0, c, rfl, hc⟩ := h2
  refine ⟨plays v 0 (cuesI l0), by rw [cuesI_snoc, plays_snoc, Int.toNat_natCast, hc], fun hm => ?_, by rw [plays_length, cuesI_length, List.length_append]; rfl⟩
  obtain ⟨i, hi, e⟩ := List.getElem_of_mem hm
  obtain ⟨hil, hlast⟩ := plays_last (tune := tune) (List.getElem?_eq_some_iff.2 ⟨hi, e⟩)
  have := h3 _ (fun x hx => h1 x (by simp [List.mem_of_mem_take hx])) (hlast rfl)
  have hlen : (l0.take (i + 1)).length < (l0 ++ [c]).length := by
    rw [List.length_take, List.length_append, List.length_singleton]; omega
  rcases this with (h | ⟨h, _⟩) | h
  · omega
  · omega
  · rw [← h] at hlen; omega

/-- A smaller fence is none. -/
theorem fence_less (hv : VersOk v k) (hv0 : 0 < v.length) {F : List Int} (hF : Incr k 0 F) (h : FBefore F (fenceL v tune k)) : ∃ w, OkL k w ∧ Avoids F w ∧ LastT v tune w ∧ w.length ≤ v.length := by
  obtain ⟨_, _, h3⟩ := fence_props (v := v) (tune := tune) k
  have hg : ¬ goodF v tune k F = true := fun hg => by
    rcases h3 F hF hg with e | h'
    · rw [e] at h
      rcases h with h | ⟨_, h⟩
      · omega
      · exact lbefore_irrefl _ h
    · exact fbefore_asymm h h'
  rw [good_iff] at hg
  have : ∃ l, OkL k l ∧ Avoids F l ∧ LastT v tune l := by
    apply Classical.byContradiction
    intro hno
    exact hg fun l h1 h2 h4 => hno ⟨l, h1, h2, h4⟩
  obtain ⟨l, h1, h2, h4⟩ := this
  exact cut_soon hv hv0 (Nat.le_refl _) h1 h2 h4
end
end Go.Vm

/-
  Contracts: Fenced of package kelirref04. (Own work.)
-/
namespace Go.Vm
open Go.Proofs

def FenL (b : Book) (l : List Int) : Prop := ∀ r, r < l.length → inI (l.getD r 0) 0 (b.cues - 1) ∧ (0 < r → l.getD (r - 1) 0 < l.getD r 0)
instance (b : Book) (l : List Int) : Decidable (FenL b l) := by unfold FenL; infer_instance

theorem incr_iff {K : Nat} : ∀ (l : List Int) (s : Nat), Incr K s l ↔ ∀ r, r < l.length → (s : Int) ≤ l.getD r 0 ∧ l.getD r 0 < K ∧ (0 < r → l.getD (r - 1) 0 < l.getD r 0)
  | [], _ => ⟨fun _ r h => absurd h (Nat.not_lt_zero _), fun _ => trivial⟩
  | c :: l, s => by
    have ih := incr_iff (K := K) l (c.toNat + 1)
    show ((s : Int) ≤ c ∧ c < K ∧ Incr K (c.toNat + 1) l) ↔ _
    rw [ih]
    refine ⟨fun ⟨h1, h2, h3⟩ r hr => ?_, fun h => ?_⟩
    · cases r with
      | zero => exact ⟨h1, h2, fun e => absurd e (by omega)⟩
      | succ r =>
        have hr' : r < l.length := by simpa using hr
        obtain ⟨k1, k2, k3⟩ := h3 r hr'
        refine ⟨by rw [List.getD_cons_succ]; omega, by rw [List.getD_cons_succ]; exact k2, fun _ => ?_⟩
        rw [List.getD_cons_succ]
        cases r with
        | zero => show c < _; omega
        | succ r => exact k3 (by omega)
    · obtain ⟨k1, k2, _⟩ := h 0 (by simp)
      have k1 : (s : Int) ≤ c := k1
      have k2 : c < K := k2
      -- every later one is greater
      have key : ∀ r, r < l.length → c < l.getD r 0 := fun r => by
        induction r with
        | zero =>
          intro hr
          have := (h 1 (by simp; omega)).2.2 (by omega)
          exact this
        | succ r ihr =>
          intro hr
          have := (h (r + 2) (by simp; omega)).2.2 (by omega)
          have e : (c :: l).getD (r + 2 - 1) 0 = l.getD r 0 := rfl
          have e2 : (c :: l).getD (r + 2) 0 = l.getD (r + 1) 0 := rfl
          rw [e, e2] at this
          have := ihr (by omega)
          omega
      refine ⟨k1, k2, fun r hr => ⟨?_, ?_, fun hr0 => ?_⟩⟩
      · have := key r hr; omega
      · have := (h (r + 1) (by simp; omega)).2.1
        exact this
      · have := (h (r + 1) (by simp; omega)).2.2 (by omega)
        obtain ⟨q, rfl⟩ : ∃ q, r = q + 1 := ⟨r - 1, by omega⟩
        exact this

theorem fenL_iff {b : Book} (h : 0 ≤ b.cues) {l : List Int} : FenL b l ↔ Incr b.cues.toNat 0 l := by
  rw [incr_iff]
  unfold FenL inI
  refine forall_congr' fun r => forall_congr' fun _ => ?_
  constructor
  · rintro ⟨⟨h1, h2⟩, h3⟩
    exact ⟨by omega, by omega, h3⟩
  · rintro ⟨h1, h2, h3⟩
    exact ⟨⟨by omega, by omega⟩, h3⟩

set_option maxRecDepth 100000 in
theorem c_fenced {b : Book} (hb : BFit b) (l : List Int) (hl : l.length < 4611686018427387904) (H : List Blk) : ACall Tryz.prog 79 [eBook b, eInts l] H (.ret (.lit (.bool (decide (FenL b l))))) H := by
  refine fn_rule (m := false) (fn := Tryz.f79) (c := (Tryz.f79.body).getD .skip) mixed (by kernel_rfl) (by kernel_rfl) (of_decide_eq_true (by kernel_rfl)) ?_ ?_ ?_ H
  · exact ⟨under_eBook 0 _, under_eInts 0 _, trivial⟩
  · trivial
  · refine LoopG.at (n0 := 1) rfl (loop_up mixed (m := false) (fun r => [(1, eInts l), (2, .ptr 0 0), (5, n' r)]) (fun _ => [(0, bBox b)]) (fun r => ∀ i, i < r → inI (l.getD i 0) 0 (b.cues - 1) ∧ (0 < i → l.getD (i - 1) 0 < l.getD i 0)) l.length 0 (Nat.zero_le _) (fun _ h => absurd h (Nat.not_lt_zero _)) ?_ ?_ ?_)
    · exact ⟨⟨_, rfl, Weak.refl _ _, under_eInts _ _⟩, ⟨_, rfl, Weak.refl _ _, ltb rfl⟩, ⟨_, rfl, Weak.refl _ _, trivial⟩, trivial⟩
    · exact ⟨⟨rfl, ltb rfl⟩, trivial⟩
    · intro r hr hI
      refine If.mk (fun h1 => ?_) (fun h1 => ?_)
      · refine IfB.mk (fun _ => ?_) (fun e => by cases e)
        obtain ⟨x, hx, _, _⟩ := at_some (l := l) (r := r) (by omega)
        have ex : l.getD r 0 = x := getD_of hx
        have next : inI x 0 (b.cues - 1) → (0 < r → l.getD (r - 1) 0 < x) → ∀ i, i < r + 1 → inI (l.getD i 0) 0 (b.cues - 1) ∧ (0 < i → l.getD (i - 1) 0 < l.getD i 0) := fun g1 g2 i hi => by
          rcases Nat.lt_or_ge i r with hlt | hge
          · exact hI i hlt
          · have : i = r := by omega
            subst this
            rw [ex]; exact ⟨g1, g2⟩
        refine Ex.mk _ (jx_ints (r := r) rfl hx) ?_
        refine Ex.mk _ rfl ?_
        refine CallG.bool (c_cue hb _) (fun h => ?_) (fun h => ?_)
        · refine If.mk (fun h2 => ?_) (fun h2 => ?_)
          · have hr0 : 0 < r := by omega
            obtain ⟨y, hy, _, _⟩ := at_some (l := l) (r := r - 1) (by omega)
            have ey : l.getD (r - 1) 0 = y := getD_of hy
            refine Ex.mk _ (jx_ints (r := r) rfl hx) ?_
            refine Ex.mk _ rfl ?_
            refine Side.mk (fits64 (by omega)) ?_
            refine Ex.mk _ (jx_ints (r := r - 1) (by omega) hy) ?_
            refine Ex.mk _ rfl ?_
            refine If.mk (fun h3 => ?_) (fun h3 => ?_)
            · refine IfB.mk (fun _ => ?_) (fun e => by cases e)
              exact ⟨Nat.zero_le _, .inl rfl, FinG.no rfl rfl (fun e => by have := (e r (by omega)).2 hr0; rw [ex, ey] at this; omega)⟩
            · refine IfB.mk (fun e => by cases e) (fun _ => ?_)
              refine Side.mk (fits64 (by omega)) ?_
              exact ⟨Nat.zero_le _, rfl, by omega, next h (fun _ => by rw [ey]; omega), ⟨⟨_, rfl, Weak.refl _ _, under_eInts _ _⟩, ⟨_, rfl, Weak.refl _ _, ltb rfl⟩, ⟨_, rfl, Weak.refl _ _, trivial⟩, trivial⟩, ⟨⟨rfl, ltb rfl⟩, trivial⟩, trivial⟩
          · refine IfB.mk (fun e => by cases e) (fun _ => ?_)
            refine Side.mk (fits64 (by omega)) ?_
            exact ⟨Nat.zero_le _, rfl, by omega, next h (fun e => absurd e (by omega)), ⟨⟨_, rfl, Weak.refl _ _, under_eInts _ _⟩, ⟨_, rfl, Weak.refl _ _, ltb rfl⟩, ⟨_, rfl, Weak.refl _ _, trivial⟩, trivial⟩, ⟨⟨rfl, ltb rfl⟩, trivial⟩, trivial⟩
        · refine IfB.mk (fun _ => ?_) (fun e => by cases e)
          exact ⟨Nat.zero_le _, .inl rfl, FinG.no rfl rfl (fun e => by have := (e r (by omega)).1; rw [ex] at this; exact h this)⟩
      · refine IfB.mk (fun e => by cases e) (fun _ => ?_)
        have er : r = l.length := by omega
        subst er
        exact ⟨Nat.zero_le _, .inl rfl, FinG.yes rfl rfl (hI)⟩
end Go.Vm

/-
  Contracts: Danger of package kelirref04. (Own work.)
-/
namespace Go.Vm
open Go.Proofs

theorem cuesI_inj {a b : List Nat} (h : cuesI a = cuesI b) : a = b := by
  induction a generalizing b with
  | nil =>
    cases b with
    | nil => rfl
    | cons y b => cases h
  | cons x a ih =>
    cases b with
    | nil => cases h
    | cons y b =>
      obtain ⟨h1, h2⟩ := List.cons.inj (h : (x : Int) :: cuesI a = (y : Int) :: cuesI b)
      rw [ih h2, Int.ofNat.inj h1]
def lastI (x : List Int) : Int := x.getD (x.length - 1) 0
theorem lastI_snoc (l : List Int) (c : Int) : lastI (l ++ [c]) = c := by
  unfold lastI
  simp
/-- Those whose last cue is not among these. -/
def keepL (but : List Int) (L : List (List Int)) : List (List Int) := L.filter fun x => decide (lastI x ∉ but)
/-- The lists of so many cues without these. -/
def avL (k : Nat) (but : List Int) : Nat → List (List Int)
  | 0 => [[]]
  | r + 1 => keepL but (longerL k (avL k but r))

theorem longer_in {k : Nat} {L : List (List Int)} {x : List Int} : x ∈ longerL k L ↔ ∃ l ∈ L, ∃ c, c < k ∧ x = l ++ [(c : Int)] := by
  unfold longerL ext
  rw [List.mem_flatMap]
  refine exists_congr fun l => and_congr_right fun _ => ?_
  rw [List.mem_map]
  exact exists_congr fun c => by rw [List.mem_range, eq_comm (a := x)]

theorem avL_mem {k : Nat} {but : List Int} : ∀ {r : Nat} {x : List Int}, x ∈ avL k but r ↔ ∃ y, x = cuesI y ∧ OkL k y ∧ Avoids but y ∧ y.length = r
  | 0, x => by
    show x ∈ [[]] ↔ _
    rw [List.mem_singleton]
    refine ⟨fun h => ⟨[], h, (fun _ h => by cases h), (fun _ h => by cases h), rfl⟩, fun ⟨y, h1, _, _, h4⟩ => ?_⟩
    rw [h1, List.eq_nil_of_length_eq_zero h4]
    rfl
  | r + 1, x => by
    show x ∈ (longerL k (avL k but r)).filter _ ↔ _
    rw [List.mem_filter, longer_in]
    refine ⟨fun ⟨⟨l, hl, c, hc, e⟩, h⟩ => ?_, fun ⟨y, h1, h2, h3, h4⟩ => ?_⟩
    · obtain ⟨y, rfl, h2, h3, h4⟩ := avL_mem.1 hl
      subst e
      rw [decide_eq_true_iff, lastI_snoc] at h
      refine ⟨y ++ [c], (cuesI_snoc y c).symm, fun z hz => ?_, avoids_snoc.2 ⟨h3, h⟩, by simp [h4]⟩
      rcases List.mem_append.1 hz with hz | hz
      · exact h2 z hz
      · rw [List.mem_singleton] at hz; subst hz; exact hc
    · obtain ⟨y0, c, rfl⟩ : ∃ y0 c, y = y0 ++ [c] := by
        rcases List.eq_nil_or_concat y with e | ⟨y0, c, e⟩
        · subst e; simp at h4
        · exact ⟨y0, c, by rw [e, List.concat_eq_append]⟩
      obtain ⟨h5, h6⟩ := avoids_snoc.1 h3
      subst h1
      rw [cuesI_snoc]
      refine ⟨⟨cuesI y0, avL_mem.2 ⟨y0, rfl, fun z hz => h2 z (by simp [hz]), h5, by simp at h4; omega⟩, c, h2 c (by simp), rfl⟩, ?_⟩
      rw [decide_eq_true_iff, lastI_snoc]
      exact h6

theorem avL_length {k : Nat} (hk : k ≤ 4) (but : List Int) : ∀ r, (avL k but r).length ≤ 4 ^ r
  | 0 => Nat.le_refl _
  | r + 1 => by
    have ih := avL_length hk but r
    show ((longerL k (avL k but r)).filter _).length ≤ _
    refine Nat.le_trans (List.length_filter_le _ _) ?_
    rw [longer_length, Nat.pow_succ]
    exact Nat.mul_le_mul ih hk

theorem pow4 {r : Nat} (h : r ≤ 5) : 4 ^ r ≤ 1024 := by
  have : r = 0 ∨ r = 1 ∨ r = 2 ∨ r = 3 ∨ r = 4 ∨ r = 5 := by omega
  rcases this with rfl | rfl | rfl | rfl | rfl | rfl <;> decide

theorem keep_snoc {but : List Int} {L : List (List Int)} {x : List Int} (h : lastI x ∉ but) : keepL but (L ++ [x]) = keepL but L ++ [x] := by
  unfold keepL
  rw [List.filter_append]
  simp [h]
theorem keep_drop {but : List Int} {L : List (List Int)} {x : List Int} (h : lastI x ∈ but) : keepL but (L ++ [x]) = keepL but L := by
  unfold keepL
  rw [List.filter_append]
  simp [h]

theorem wk_lists {t : Trie Blk} : Weak t (.sl 1 [.lit (.slice none 0 0)] .full) (eLists [[]]) := fun _ H _ => by
  have h1 : WeakH H (.sl 1 [.lit (.slice none 0 0)] .full) (.sl 1 [eInts []] .full) := wk_sl (.cons (fun H => wk_nil H) .nil)
  exact fun O ι w c h => WeakH.tail _ _ _ H O ι w c (h1 O ι w c h)

/-- The list that is found: without these, and the tune is played last. -/
def HitR (v : Vers) (k : Nat) (tune : Int) (but : List Int) (x : AV) : Prop :=
  ∃ y, x = .tup [eInts (cuesI y), .lit (.bool true)] ∧ OkL k y ∧ Avoids but y ∧ LastT v tune y ∧ y.length ≤ 5

set_option maxHeartbeats 4000000 in
set_option maxRecDepth 100000 in
theorem c_refDanger {b : Book} {v : Vers} (hv : VersOk v b.cues.toNat) (hv0 : 0 < v.length) (hv4 : v.length ≤ 4) (hbc : inI b.cues 1 4) (tune : Int) (but : List Int) (hbl : but.length ≤ 1000000) {w : List Nat} (hw1 : OkL b.cues.toNat w) (hw2 : Avoids but w) (hw3 : LastT v tune w) (hw4 : w.length ≤ v.length) :
    ∃ u, HitR v b.cues.toNat tune but u ∧ ∀ H2, ACall Tryz.prog 76 [eBook b, eVersion v, n' tune, eInts but] ([] ++ H2) (.ret u) ([] ++ H2) := by
  unfold inI at hbc
  refine fn_preE (m := false) (fn := Tryz.f76) (c := (Tryz.f76.body).getD .skip) (t0 := ofL []) (n0 := 0) _ mixed (by kernel_rfl) (by kernel_rfl) (of_decide_eq_true (by kernel_rfl)) (HT.full (l := []) trivial rfl) ?_ (fun _ h => by cases h) ?_
  · exact ⟨under_eBook 0 _, under_eVersion 0 _, trivial, under_eInts 0 _, trivial⟩
  · refine LoopG.at (n0 := 2) rfl (loop_up mixed (m := false) (fun r => [(2, n' tune), (3, eInts but), (4, .ptr 0 0), (5, .ptr 1 0), (10, eLists (avL b.cues.toNat but r)), (11, n' r)]) (fun _ => [(0, bBox b), (1, vBox v)]) (fun r => ∀ y, OkL b.cues.toNat y → Avoids but y → LastT v tune y → r < y.length) (v.length + 1) 0 (Nat.zero_le _) (fun y _ _ h => ?_) ?_ ?_ ?_)
    · obtain ⟨l0, c, rfl, _⟩ := h
      simp
    · exact ⟨⟨_, rfl, Weak.refl _ _, trivial⟩, ⟨_, rfl, Weak.refl _ _, under_eInts _ _⟩, ⟨_, rfl, Weak.refl _ _, ltb rfl⟩, ⟨_, rfl, Weak.refl _ _, ltb rfl⟩, ⟨_, rfl, wk_lists, under_eLists _ _⟩, ⟨_, rfl, Weak.refl _ _, trivial⟩, trivial⟩
    · exact ⟨⟨rfl, ltb rfl⟩, ⟨rfl, ltb rfl⟩, trivial⟩
    · intro r hr hI
      refine If.mk (fun h1 => ?_) (fun h1 => ?_)
      · refine IfB.mk (fun _ => ?_) (fun e => by cases e)
        have hr4 : r ≤ 4 := by omega
        have hlen : (avL b.cues.toNat but r).length ≤ 1024 := Nat.le_trans (avL_length (by omega) but r) (pow4 (by omega))
        have hlc : (avL b.cues.toNat but r).length * b.cues.toNat ≤ 4096 := Nat.mul_le_mul hlen (show b.cues.toNat ≤ 4 by omega)
        have hll : ∀ l ∈ avL b.cues.toNat but r, l.length < 1000 := fun l hl => by
          obtain ⟨y, rfl, _, _, h⟩ := avL_mem.1 hl
          show (List.map _ y).length < _
          rw [List.length_map]; omega
        refine CallG.pure _ (c_longer (by omega) (avL b.cues.toNat but r) (by omega) (by omega) hll) ?_
        have hxl := longer_length b.cues.toNat (avL b.cues.toNat but r)
        generalize hX : longerL b.cues.toNat (avL b.cues.toNat but r) = X at hxl
        refine LoopG.ghost (LoopG.at (n0 := 3) rfl ?_)
        refine loop_up mixed (m := false) (fun q => [(2, n' tune), (3, eInts but), (4, .ptr 0 0), (5, .ptr 1 0), (11, n' r), (12, rowL (keepL but (X.take q)) 2), (13, eLists X), (14, n' q)]) (fun q => [(0, bBox b), (1, vBox v), (2, .row (keepL but (X.take q)).length)]) (fun q => ∀ y, OkL b.cues.toNat y → Avoids but y → LastT v tune y → cuesI y ∉ X.take q) X.length 2 (leb rfl) (fun _ _ _ _ h => by cases h) ?_ ?_ ?_
        · exact ⟨⟨_, rfl, Weak.refl _ _, trivial⟩, ⟨_, rfl, Weak.refl _ _, under_eInts _ _⟩, ⟨_, rfl, Weak.refl _ _, ltb rfl⟩, ⟨_, rfl, Weak.refl _ _, ltb rfl⟩, ⟨_, rfl, Weak.refl _ _, trivial⟩, ⟨_, rfl, Weak.own (r := 2) (g := 0) 1 rfl, ⟨trivial, ltb rfl⟩⟩, ⟨_, rfl, Weak.refl _ _, under_eLists _ _⟩, ⟨_, rfl, Weak.refl _ _, trivial⟩, trivial⟩
        · exact ⟨⟨rfl, ltb rfl⟩, ⟨rfl, ltb rfl⟩, ⟨rfl, ltb rfl⟩, trivial⟩
        · intro q hq hJ
          refine If.mk (fun h2 => ?_) (fun h2 => ?_)
          · refine IfB.mk (fun _ => ?_) (fun e => by cases e)
            obtain ⟨x, hx, htk, hxm⟩ := at_some (l := X) (r := q) (by omega)
            have hxm' := hxm
            rw [← hX] at hxm'
            obtain ⟨l, hl, c, hc, e⟩ := longer_in.1 hxm'
            obtain ⟨y, rfl, hy1, hy2, hy3⟩ := avL_mem.1 hl
            have hyl : (cuesI y).length = r := by show (List.map _ y).length = _; rw [List.length_map, hy3]
            have hlx : x.length = r + 1 := by rw [e, List.length_append, hyl]; rfl
            have hxl : x[r]? = some (c : Int) := by
              rw [e, List.getElem?_append_right (by omega), hyl, Nat.sub_self]
              rfl
            have hla : lastI x = c := by rw [e, lastI_snoc]
            refine Ex.mk _ (jx_lists (r := q) rfl hx) ?_
            refine Ex.mk _ rfl ?_
            refine Side.mk (fits64 (by omega)) ?_
            refine Ex.mk _ (jx_lists (r := q) rfl hx) ?_
            refine Ex.mk _ rfl ?_
            refine Ex.mk _ (jx_ints (r := r) (by omega) hxl) ?_
            refine Ex.mk _ rfl ?_
            refine CallG.bool (c_listed but c (by omega)) (fun h => ?_) (fun h => ?_)
            · -- its last cue is one of these
              refine IfB.mk (fun _ => ?_) (fun e => by cases e)
              refine Side.mk (fits64 (by omega)) ?_
              refine ⟨leb rfl, rfl, by omega, fun y' ho ha ht hm => ?_, ⟨⟨_, rfl, Weak.refl _ _, trivial⟩, ⟨_, rfl, Weak.refl _ _, under_eInts _ _⟩, ⟨_, rfl, Weak.refl _ _, ltb rfl⟩, ⟨_, rfl, Weak.refl _ _, ltb rfl⟩, ⟨_, rfl, Weak.refl _ _, trivial⟩, ⟨_, rfl, Weak.of_eq (?_), under_rowL _ (ltb rfl) _⟩, ⟨_, rfl, Weak.refl _ _, under_eLists _ _⟩, ⟨_, rfl, Weak.refl _ _, trivial⟩, trivial⟩, ⟨⟨rfl, ltb rfl⟩, ⟨rfl, ltb rfl⟩, ⟨?_, ltb rfl⟩, trivial⟩, trivial⟩
              · rw [htk] at hm
                rcases List.mem_append.1 hm with hm | hm
                · exact hJ y' ho ha ht hm
                · rw [List.mem_singleton, e, ← cuesI_snoc] at hm
                  rw [cuesI_inj hm] at ha
                  exact (avoids_snoc.1 ha).2 h
              · rw [htk, keep_drop (by rw [hla]; exact h)]
              · rw [htk, keep_drop (by rw [hla]; exact h)]
                rfl
            · refine IfB.mk (fun e => by cases e) (fun _ => ?_)
              have hok : OkL b.cues.toNat (y ++ [c]) := fun z hz => by
                rcases List.mem_append.1 hz with hz | hz
                · exact hy1 z hz
                · rw [List.mem_singleton] at hz; subst hz; exact hc
              have hco : CuesOk b.cues.toNat x := by rw [e, ← cuesI_snoc]; exact cuesI_ok hok
              have hpl : (plays v 0 x)[r]? = some (mv v (after v 0 (cuesI y)) c).2 := by
                rw [e, plays_snoc, List.getElem?_append_right (by rw [plays_length]; omega), plays_length, hyl, Nat.sub_self, Int.toNat_natCast]
                rfl
              refine Ex.mk _ (jx_lists (r := q) rfl hx) ?_
              refine Ex.mk _ rfl ?_
              refine CallG.pure _ (c_refPlays hv hv0 hco (by omega)) ?_
              refine Ex.mk _ (jx_ints (r := r) (by omega) hpl) ?_
              refine Ex.mk _ rfl ?_
              refine If.mk (fun h3 => ?_) (fun h3 => ?_)
              · refine IfB.mk (fun _ => ?_) (fun e => by cases e)
                refine Ex.mk _ (jx_lists (r := q) rfl hx) ?_
                refine Ex.mk _ rfl ?_
                refine ⟨leb rfl, leb rfl, .inl rfl, leb rfl, rfl, _, _, rfl, (fun H => WeakH.refl _ H), ⟨under_eInts _ _, trivial, trivial⟩, y ++ [c], ?_, hok, avoids_snoc.2 ⟨hy2, h⟩, lastT_snoc.2 h3, by rw [List.length_append, hy3]; show r + 1 ≤ 5; omega⟩
                rw [cuesI_snoc, ← e]
                rfl
              · refine IfB.mk (fun e => by cases e) (fun _ => ?_)
                refine Ex.mk _ (jx_lists (r := q) rfl hx) ?_
                refine Ex.mk _ rfl ?_
                have hkl : (keepL but (X.take q)).length ≤ X.length := Nat.le_trans (List.length_filter_le _ _) (by rw [List.length_take]; omega)
                refine ex_app _ _ (app_list (List.length_map _) (by omega) rfl rfl) ?_
                refine Side.mk (fits64 (by omega)) ?_
                have ek : keepL but (X.take (q + 1)) = keepL but (X.take q) ++ [x] := by rw [htk, keep_snoc (by rw [hla]; exact h)]
                refine ⟨leb rfl, rfl, by omega, fun y' ho ha ht hm => ?_, ⟨⟨_, rfl, Weak.refl _ _, trivial⟩, ⟨_, rfl, Weak.refl _ _, under_eInts _ _⟩, ⟨_, rfl, Weak.refl _ _, ltb rfl⟩, ⟨_, rfl, Weak.refl _ _, ltb rfl⟩, ⟨_, rfl, Weak.refl _ _, trivial⟩, ⟨_, rfl, Weak.of_eq (?_), under_rowL _ (ltb rfl) _⟩, ⟨_, rfl, Weak.refl _ _, under_eLists _ _⟩, ⟨_, rfl, Weak.refl _ _, trivial⟩, trivial⟩, ⟨⟨rfl, ltb rfl⟩, ⟨rfl, ltb rfl⟩, ⟨?_, ltb rfl⟩, trivial⟩, ⟨_, rfl, trivial⟩, trivial⟩
                · rw [htk] at hm
                  rcases List.mem_append.1 hm with hm | hm
                  · exact hJ y' ho ha ht hm
                  · rw [List.mem_singleton, e, ← cuesI_snoc] at hm
                    rw [cuesI_inj hm] at ht
                    exact h3 (lastT_snoc.1 ht)
                · rw [ek]
                  unfold rowL
                  rw [List.length_append, List.map_append]
                  rfl
                · rw [ek, List.length_append]
                  rfl
          · refine IfB.mk (fun e => by cases e) (fun _ => ?_)
            have eq : q = X.length := by omega
            subst eq
            rw [List.take_length] at hJ
            have er : avL b.cues.toNat but (r + 1) = keepL but X := by rw [← hX]; rfl
            refine ⟨leb rfl, ?_⟩
            refine Side.mk (fits64 (by omega)) ?_
            refine ⟨leb rfl, rfl, by omega, fun y ho ha ht => ?_, ⟨⟨_, rfl, Weak.refl _ _, trivial⟩, ⟨_, rfl, Weak.refl _ _, under_eInts _ _⟩, ⟨_, rfl, Weak.refl _ _, ltb rfl⟩, ⟨_, rfl, Weak.refl _ _, ltb rfl⟩, ⟨_, rfl, ?_, under_eLists _ _⟩, ⟨_, rfl, Weak.refl _ _, trivial⟩, trivial⟩, ⟨⟨rfl, ltb rfl⟩, ⟨rfl, ltb rfl⟩, trivial⟩, trivial⟩
            · have := hI y ho ha ht
              refine Nat.lt_of_le_of_ne this fun e => hJ y ho ha ht ?_
              have hm : cuesI y ∈ avL b.cues.toNat but (r + 1) := avL_mem.2 ⟨y, rfl, ho, ha, e.symm⟩
              rw [er] at hm
              exact (List.mem_filter.1 hm).1
            · rw [er, List.take_length]
              exact Weak.tail _ _ _ _
      · refine IfB.mk (fun e => by cases e) (fun _ => ?_)
        have := hI w hw1 hw2 hw3
        omega
end Go.Vm
