/-
  Texts of the proof, part 20: the machine, contracts of functions, plain laws. (Own work.)
-/
import Derived.Test.YtkkpcbklhkfohaaGreatG19TopTurns
import Derived.Test.YtkkpcbklhkfohaaGreatG16TopTurns

namespace Go.Vm
open Go.Proofs
section
variable {ok : PoseD → Prop} [DecidablePred ok]
def nbr (now : List PoseD) : List PoseD := now.flatMap fun x => (List.range 4).map fun k => nxtI k x
theorem nbr_mem {now : List PoseD} {y : PoseD} : y ∈ nbr now ↔ ∃ x ∈ now, ∃ k, k < 4 ∧ nxtI k x = y := by
 unfold nbr
 simp only [List.mem_flatMap, List.mem_map, List.mem_range]
theorem rowI_nbr (many : Nat) : ∀ (now : List PoseD) (s : AwS), rowI ok many s now = (nbr now).foldl (extI ok many) s
 | [], _ => rfl
 | x :: now, s => by
  show rowI ok many (expI ok many s x 4) now = _
  rw [rowI_nbr many now]
  show (nbr now).foldl (extI ok many) (expI ok many s x 4) = (((List.range 4).map fun k => nxtI k x) ++ nbr now).foldl (extI ok many) s
  rw [List.foldl_append, List.foldl_map]
  rfl
def tagM (many : Nat) (A : List PoseD) : List (PoseD × Nat) := A.map fun y => (y, many)
theorem tagM_mem {many : Nat} {A : List PoseD} {e : PoseD × Nat} : e ∈ tagM many A ↔ e.1 ∈ A ∧ e.2 = many := by
 obtain ⟨y, m⟩ := e
 unfold tagM
 simp only [List.mem_map, Prod.mk.injEq]
 exact ⟨fun ⟨_, h1, h2, h3⟩ => ⟨h2 ▸ h1, h3.symm⟩, fun ⟨h1, h2⟩ => ⟨y, h1, rfl, h2.symm⟩⟩
theorem fold_ext (many : Nat) (E : List (PoseD × Nat)) : ∀ (ys A : List PoseD), ∃ B, ys.foldl (extI ok many) (E ++ tagM many A, A) = (E ++ tagM many (A ++ B), A ++ B) ∧ (∀ y ∈ B, ok y ∧ y ∈ ys) ∧ (∀ y ∈ ys, ok y → y ∈ E.map (·.1) ∨ y ∈ A ++ B) ∧ ((E.map (·.1) ++ A).Nodup → (E.map (·.1) ++ (A ++ B)).Nodup)
 | [], A => ⟨[], by simp⟩
 | y :: ys, A => by
  by_cases h : ok y ∧ ∀ e ∈ E ++ tagM many A, e.1 ≠ y
  ·obtain ⟨B, h1, h2, h3, h4⟩ := fold_ext many E ys (A ++ [y])
   have e1 : extI ok many (E ++ tagM many A, A) y = (E ++ tagM many (A ++ [y]), A ++ [y]) := by
    rw [extI_new h.1 h.2]
    unfold tagM
    rw [List.map_append, ← List.append_assoc]; rfl
   have e2 : A ++ [y] ++ B = A ++ y :: B := by simp
   refine ⟨y :: B, ?_, ?_, ?_, ?_⟩
   ·rw [List.foldl_cons, e1, h1, e2]
   ·intro z hz
    rcases List.mem_cons.1 hz with rfl | hz
    ·exact ⟨h.1, List.mem_cons_self ..⟩
    ·exact ⟨(h2 z hz).1, List.mem_cons_of_mem _ (h2 z hz).2⟩
   ·intro z hz hok
    rcases List.mem_cons.1 hz with rfl | hz
    ·exact .inr (by simp)
    ·rw [← e2]; exact h3 z hz hok
   ·intro hn
    rw [← e2]
    refine h4 ?_
    rw [← List.append_assoc]
    refine List.nodup_append.2 ⟨hn, by simp, ?_⟩
    intro a ha b hb
    rw [List.mem_singleton.1 hb]
    rcases List.mem_append.1 ha with ha | ha
    ·obtain ⟨e, he, rfl⟩ := List.mem_map.1 ha
     exact h.2 e (List.mem_append_left _ he)
    ·exact h.2 (a, many) (List.mem_append_right _ (tagM_mem.2 ⟨ha, rfl⟩))
  ·obtain ⟨B, h1, h2, h3, h4⟩ := fold_ext many E ys A
   refine ⟨B, ?_, fun z hz => ⟨(h2 z hz).1, List.mem_cons_of_mem _ (h2 z hz).2⟩, ?_, h4⟩
   ·rw [List.foldl_cons, extI_old h, h1]
   ·intro z hz hok
    rcases List.mem_cons.1 hz with rfl | hz
    ·have : ∃ e ∈ E ++ tagM many A, e.1 = z := by
      apply Classical.byContradiction
      intro hno
      exact h ⟨hok, fun e he he2 => hno ⟨e, he, he2⟩⟩
     obtain ⟨e, he, rfl⟩ := this
     rcases List.mem_append.1 he with he | he
     ·exact .inl (List.mem_map.2 ⟨e, he, rfl⟩)
     ·exact .inr (List.mem_append_left _ (tagM_mem.1 he).1)
    ·exact h3 z hz hok
end
section
variable (ok : PoseD → Prop) (to : PoseD)
structure Bfs (E : List (PoseD × Nat)) (F : List PoseD) (j : Nat) : Prop where
 nd : (E.map (·.1)).Nodup
 ok' : ∀ e ∈ E, ok e.1
 to0 : (to, 0) ∈ E
 zero : ∀ y, (y, 0) ∈ E → y = to
 le : ∀ e ∈ E, e.2 ≤ j
 fr : ∀ y, y ∈ F ↔ (y, j) ∈ E
 par : ∀ y m, (y, m + 1) ∈ E → ∃ z k, k < 4 ∧ (z, m) ∈ E ∧ nxtI k z = y
 cl : ∀ y m, (y, m) ∈ E → m < j → ∀ k, k < 4 → ok (nxtI k y) → ∃ m', m' ≤ m + 1 ∧ (nxtI k y, m') ∈ E
 len : F ≠ [] → j + 1 ≤ E.length
end
section
variable {ok : PoseD → Prop} [DecidablePred ok] {to : PoseD}
theorem bfs_inv (hto : ok to) : ∀ j, Bfs ok to (bfS ok to j).1 (bfS ok to j).2 j
 | 0 => by
  show Bfs ok to [(to, 0)] [to] 0
  refine ⟨by simp, ?_, by simp, ?_, ?_, ?_, ?_, ?_, by simp⟩
  ·intro e he; rw [List.mem_singleton.1 he]; exact hto
  ·intro y hy; exact (Prod.mk.inj (List.mem_singleton.1 hy)).1
  ·intro e he; rw [List.mem_singleton.1 he]; exact Nat.le_refl _
  ·intro y; simp
  ·intro y m h; exact absurd (Prod.mk.inj (List.mem_singleton.1 h)).2 (by omega)
  ·intro y m _ h; omega
 | j + 1 => by
  have ih := bfs_inv hto j
  obtain ⟨E, hE⟩ : ∃ E, E = (bfS ok to j).1 := ⟨_, rfl⟩
  obtain ⟨F, hF⟩ : ∃ F, F = (bfS ok to j).2 := ⟨_, rfl⟩
  rw [← hE, ← hF] at ih
  obtain ⟨B, h1, h2, h3, h4⟩ := fold_ext (ok := ok) (j + 1) E (nbr F) []
  have e1 : bfS ok to (j + 1) = (E ++ tagM (j + 1) B, B) := by
   show rowI ok (j + 1) ((bfS ok to j).1, []) (bfS ok to j).2 = _
   rw [← hE, ← hF, rowI_nbr]
   have := h1
   simp only [tagM, List.map_nil, List.append_nil, List.nil_append] at this
   exact this
  rw [e1]
  show Bfs ok to (E ++ tagM (j + 1) B) B (j + 1)
  have ek : (E ++ tagM (j + 1) B).map (·.1) = E.map (·.1) ++ B := by
   unfold tagM
   rw [List.map_append, List.map_map]
   congr 1
   exact List.map_id B
  simp only [List.append_nil, List.nil_append] at h3 h4
  refine ⟨?_, ?_, List.mem_append_left _ ih.to0, ?_, ?_, ?_, ?_, ?_, ?_⟩
  ·rw [ek]; exact h4 ih.nd
  ·intro e he
   rcases List.mem_append.1 he with he | he
   ·exact ih.ok' e he
   ·exact (h2 _ (tagM_mem.1 he).1).1
  ·intro y hy
   rcases List.mem_append.1 hy with hy | hy
   ·exact ih.zero y hy
   ·exact absurd (tagM_mem.1 hy).2 (by show ¬ (0 = j + 1); omega)
  ·intro e he
   rcases List.mem_append.1 he with he | he
   ·have := ih.le e he; omega
   ·have := (tagM_mem.1 he).2; omega
  ·intro y
   constructor
   ·intro hy; exact List.mem_append_right _ (tagM_mem.2 ⟨hy, rfl⟩)
   ·intro hy
    rcases List.mem_append.1 hy with hy | hy
    ·have : j + 1 ≤ j := ih.le _ hy
     omega
    ·exact (tagM_mem.1 hy).1
  ·intro y m hy
   rcases List.mem_append.1 hy with hy | hy
   ·obtain ⟨z, k, hk, hz, e⟩ := ih.par y m hy
    exact ⟨z, k, hk, List.mem_append_left _ hz, e⟩
   ·obtain ⟨hyB, hm⟩ := tagM_mem.1 hy
    have hm : m + 1 = j + 1 := hm
    obtain rfl : m = j := by omega
    obtain ⟨x, hx, k, hk, e⟩ := nbr_mem.1 (h2 y hyB).2
    exact ⟨x, k, hk, List.mem_append_left _ ((ih.fr x).1 hx), e⟩
  ·intro y m hy hm k hk hok
   rcases List.mem_append.1 hy with hyE | hy
   ·rcases Nat.lt_or_ge m j with hmj | hmj
    ·obtain ⟨m', h5, h6⟩ := ih.cl y m hyE hmj k hk hok
     exact ⟨m', h5, List.mem_append_left _ h6⟩
    ·have : m ≤ j := ih.le _ hyE
     obtain rfl : m = j := by omega
     rcases h3 _ (nbr_mem.2 ⟨y, (ih.fr y).2 hyE, k, hk, rfl⟩) hok with h | h
     ·obtain ⟨e, he, e2⟩ := List.mem_map.1 h
      refine ⟨e.2, ?_, List.mem_append_left _ (by rw [← e2]; exact he)⟩
      have := ih.le e he; omega
     ·exact ⟨m + 1, Nat.le_refl _, List.mem_append_right _ (tagM_mem.2 ⟨h, rfl⟩)⟩
   ·have : m = j + 1 := (tagM_mem.1 hy).2
    omega
  ·intro hB
   have hF0 : F ≠ [] := fun e => by
    obtain ⟨y, hy⟩ := List.exists_mem_of_ne_nil B hB
    have := (h2 y hy).2
    rw [e] at this
    simp [nbr] at this
   have h5 := ih.len hF0
   have h6 : 0 < B.length := List.length_pos_iff.2 hB
   rw [List.length_append]
   unfold tagM
   rw [List.length_map]
   omega
theorem bfs_end {L : List PoseD} (hto : ok to) (hL : ∀ x, ok x → x ∈ L) (hl : L.length ≤ 4) : (bfS ok to 4).2 = [] := by
 apply Classical.byContradiction
 intro h
 have hi := bfs_inv hto 4
 have h1 := hi.len h
 have h2 := nodup_length hi.nd (U := L) fun x hx => by
  obtain ⟨e, he, rfl⟩ := List.mem_map.1 hx
  exact hL _ (hi.ok' e he)
 rw [List.length_map] at h2
 omega
theorem lookD_mem {E : List (PoseD × Nat)} (hn : (E.map (·.1)).Nodup) {y : PoseD} {m : Nat} : lookD E y = some m ↔ (y, m) ∈ E := by
 unfold lookD
 induction E with
 | nil => simp
 | cons e E ih =>
  obtain ⟨z, p⟩ := e
  rw [List.map_cons, List.nodup_cons] at hn
  rw [List.find?_cons]
  by_cases h : z = y
  ·subst h
   simp only [decide_true, Option.map_some, Option.some.injEq, List.mem_cons, Prod.mk.injEq, true_and]
   refine ⟨fun h => .inl h.symm, fun h => ?_⟩
   rcases h with h | h
   ·exact h.symm
   ·exact absurd (List.mem_map.2 ⟨_, h, rfl⟩) hn.1
  ·simp only [h, decide_false, List.mem_cons, Prod.mk.injEq]
   rw [ih hn.2]
   refine ⟨fun h => .inr h, fun h' => ?_⟩
   rcases h' with ⟨h', _⟩ | h'
   ·exact absurd h'.symm h
   ·exact h'
omit [DecidablePred ok] in
theorem Bfs.near {E : List (PoseD × Nat)} {j : Nat} (h : Bfs ok to E [] j) {y : PoseD} {m : Nat} (hy : (y, m) ∈ E) {k : Nat} (hk : k < 4) (hok : ok (nxtI k y)) : ∃ m', m' ≤ m + 1 ∧ (nxtI k y, m') ∈ E := by
 refine h.cl y m hy ?_ k hk hok
 have h1 : m ≤ j := h.le _ hy
 rcases Nat.lt_or_ge m j with h2 | h2
 ·exact h2
 ·obtain rfl : m = j := by omega
  have := (h.fr y).2 hy
  cases this
def flipK (k : Nat) : Nat := if k = 0 then 1 else if k = 1 then 0 else if k = 2 then 3 else 2
theorem flipK_lt (k : Nat) : flipK k < 4 := by
 unfold flipK
 (repeat' split) <;> omega
theorem nxtI_flip {k : Nat} (hk : k < 4) (x : PoseD) : nxtI (flipK k) (nxtI k x) = x := by
 obtain ⟨a, b⟩ := x
 have : k = 0 ∨ k = 1 ∨ k = 2 ∨ k = 3 := by omega
 rcases this with rfl | rfl | rfl | rfl <;> simp [flipK, nxtI] <;> omega
def stpJ (ok : PoseD → Prop) [DecidablePred ok] (x : PoseD) (k : Nat) : PoseD := if ok (nxtI k x) then nxtI k x else x
def LastP (ok : PoseD → Prop) [DecidablePred ok] (to : PoseD) : PoseD → List Nat → Prop
 | _, [] => False
 | x, k :: l => (l = [] ∧ nxtI k x = to) ∨ LastP ok to (stpJ ok x k) l
theorem last_len {E : List (PoseD × Nat)} {j : Nat} (h : Bfs ok to E [] j) : ∀ (w : List Nat) (x : PoseD), ok x → OkL 4 w → LastP ok to x w → ∃ m, m ≤ w.length ∧ (x, m) ∈ E
 | [], _, _, _, hl => hl.elim
 | k :: l, x, hx, hw, hl => by
  have hk : k < 4 := hw k (List.mem_cons_self ..)
  have hw' : OkL 4 l := fun c hc => hw c (List.mem_cons_of_mem _ hc)
  have hfl := nxtI_flip hk x
  rcases hl with ⟨_, h2⟩ | hl
  ·rw [h2] at hfl
   obtain ⟨m', h3, h4⟩ := h.near h.to0 (flipK_lt k) (by rw [hfl]; exact hx)
   rw [hfl] at h4
   exact ⟨m', by rw [List.length_cons]; omega, h4⟩
  ·unfold stpJ at hl
   by_cases hok : ok (nxtI k x)
   ·rw [if_pos hok] at hl
    obtain ⟨m, h3, h4⟩ := last_len h l _ hok hw' hl
    obtain ⟨m', h5, h6⟩ := h.near h4 (flipK_lt k) (by rw [hfl]; exact hx)
    rw [hfl] at h6
    exact ⟨m', by rw [List.length_cons]; omega, h6⟩
   ·rw [if_neg hok] at hl
    obtain ⟨m, h3, h4⟩ := last_len h l _ hx hw' hl
    exact ⟨m, by rw [List.length_cons]; omega, h4⟩
end
section
variable (ok : PoseD → Prop) [DecidablePred ok] (E : List (PoseD × Nat))
def dI (y : PoseD) : Nat := (lookD E y).getD 0
def hitI (x : PoseD) (k : Nat) : Prop := ok (nxtI k x) ∧ ((dI E (nxtI k x) : Nat) : Int) = ((dI E x : Nat) : Int) - 1
instance (x : PoseD) (k : Nat) : Decidable (hitI ok E x k) := by unfold hitI; infer_instance
def stepI (x : PoseD) : Option Nat := (List.range 4).find? fun k => decide (hitI ok E x k)
def wS (x : PoseD) : Nat → List Nat × PoseD
 | 0 => ([], x)
 | i + 1 => match stepI ok E (wS x i).2 with
  | none => wS x i
  | some k => ((wS x i).1 ++ [k], nxtI k (wS x i).2)
end
section
variable {ok : PoseD → Prop} [DecidablePred ok] {E : List (PoseD × Nat)} {to : PoseD}
theorem stepI_some {x : PoseD} {k : Nat} (hk : k < 4) (h : hitI ok E x k) (hn : ∀ i, i < k → ¬ hitI ok E x i) : stepI ok E x = some k := by
 unfold stepI
 have : k = 0 ∨ k = 1 ∨ k = 2 ∨ k = 3 := by omega
 rw [show List.range 4 = [0, 1, 2, 3] from rfl]
 rcases this with rfl | rfl | rfl | rfl
 ·simp [h]
 ·simp [h, hn 0 (by omega)]
 ·simp [h, hn 0 (by omega), hn 1 (by omega)]
 ·simp [h, hn 0 (by omega), hn 1 (by omega), hn 2 (by omega)]
theorem stepI_none {x : PoseD} (hn : ∀ i, i < 4 → ¬ hitI ok E x i) : stepI ok E x = none := by
 unfold stepI
 rw [List.find?_eq_none]
 intro i hi
 simpa using hn i (List.mem_range.1 hi)
theorem stepI_get {x : PoseD} {k : Nat} (h : stepI ok E x = some k) : k < 4 ∧ hitI ok E x k ∧ ∀ i, i < k → ¬ hitI ok E x i := by
  by_cases h0 : hitI ok E x 0
  · rw [stepI_some (by omega) h0 (by omega)] at h; obtain rfl := Option.some.inj h; exact ⟨by omega, h0, by omega⟩
  by_cases h1 : hitI ok E x 1
  · have hn : ∀ i, i < 1 → ¬ hitI ok E x i := fun i hi => by obtain rfl : i = 0 := by omega
                                                             exact h0
    rw [stepI_some (by omega) h1 hn] at h; obtain rfl := Option.some.inj h; exact ⟨by omega, h1, hn⟩
  by_cases h2 : hitI ok E x 2
  · have hn : ∀ i, i < 2 → ¬ hitI ok E x i := fun i hi => by
      have : i = 0 ∨ i = 1 := by omega
      rcases this with rfl | rfl <;> assumption
    rw [stepI_some (by omega) h2 hn] at h; obtain rfl := Option.some.inj h; exact ⟨by omega, h2, hn⟩
  by_cases h3 : hitI ok E x 3
  · have hn : ∀ i, i < 3 → ¬ hitI ok E x i := fun i hi => by
      have : i = 0 ∨ i = 1 ∨ i = 2 := by omega
      rcases this with rfl | rfl | rfl <;> assumption
    rw [stepI_some (by omega) h3 hn] at h; obtain rfl := Option.some.inj h; exact ⟨by omega, h3, hn⟩
  · rw [stepI_none fun i hi => by
      have : i = 0 ∨ i = 1 ∨ i = 2 ∨ i = 3 := by omega
      rcases this with rfl | rfl | rfl | rfl <;> assumption] at h
    cases h
theorem wS_len (x : PoseD) : ∀ i, (wS ok E x i).1.length ≤ i
 | 0 => Nat.le_refl _
 | i + 1 => by
  have ih := wS_len x i
  unfold wS
  cases stepI ok E (wS ok E x i).2 with
  | none => show (wS ok E x i).1.length ≤ i + 1; omega
  | some k => show ((wS ok E x i).1 ++ [k]).length ≤ i + 1; rw [List.length_append]; show _ + 1 ≤ _; omega
theorem wS_lt (x : PoseD) : ∀ i, ∀ k ∈ (wS ok E x i).1, k < 4
 | 0 => fun k h => by cases h
 | i + 1 => by
  have ih := wS_lt x i
  unfold wS
  cases h : stepI ok E (wS ok E x i).2 with
  | none => exact ih
  | some k =>
   intro c hc
   rcases List.mem_append.1 hc with hc | hc
   ·exact ih c hc
   ·rw [List.mem_singleton.1 hc]; exact (stepI_get h).1
theorem wS_ok {x : PoseD} (hx : ok x) : ∀ i, ok (wS ok E x i).2
 | 0 => hx
 | i + 1 => by
  have ih := wS_ok hx i
  unfold wS
  cases h : stepI ok E (wS ok E x i).2 with
  | none => exact ih
  | some k => exact (stepI_get h).2.1.1
theorem wS_front {x : PoseD} {k : Nat} (h : stepI ok E x = some k) : ∀ i, wS ok E x (i + 1) = (k :: (wS ok E (nxtI k x) i).1, (wS ok E (nxtI k x) i).2)
 | 0 => by
  show (match stepI ok E x with | none => ([], x) | some k => ([] ++ [k], nxtI k x)) = _
  rw [h]; rfl
 | i + 1 => by
  have ih := wS_front h i
  show (match stepI ok E (wS ok E x (i + 1)).2 with | none => wS ok E x (i + 1) | some k => ((wS ok E x (i + 1)).1 ++ [k], nxtI k (wS ok E x (i + 1)).2)) = (k :: (match stepI ok E (wS ok E (nxtI k x) i).2 with | none => wS ok E (nxtI k x) i | some k' => ((wS ok E (nxtI k x) i).1 ++ [k'], nxtI k' (wS ok E (nxtI k x) i).2)).1, _)
  rw [ih]
  show (match stepI ok E (wS ok E (nxtI k x) i).2 with | none => _ | some k' => _) = _
  show _ = (_, (match stepI ok E (wS ok E (nxtI k x) i).2 with | none => wS ok E (nxtI k x) i | some k' => ((wS ok E (nxtI k x) i).1 ++ [k'], nxtI k' (wS ok E (nxtI k x) i).2)).2)
  cases stepI ok E (wS ok E (nxtI k x) i).2 <;> rfl
theorem dI_of (hn : (E.map (·.1)).Nodup) {y : PoseD} {m : Nat} (h : (y, m) ∈ E) : dI E y = m := by
 unfold dI; rw [(lookD_mem hn).2 h]; rfl
theorem Bfs.one {E : List (PoseD × Nat)} (hn : (E.map (·.1)).Nodup) {y : PoseD} {m m' : Nat} (h : (y, m) ∈ E) (h' : (y, m') ∈ E) : m = m' := (dI_of hn h).symm.trans (dI_of hn h')
theorem way_least {j : Nat} (h : Bfs ok to E [] j) : ∀ (m : Nat) (x : PoseD), (x, m + 1) ∈ E → (wS ok E x (m + 1)).1.length = m + 1 ∧ LastP ok to x (wS ok E x (m + 1)).1 ∧ ∀ w, OkL 4 w → LastP ok to x w → LE (wS ok E x (m + 1)).1 w := by
 intro m
 induction m with
 | zero => ?_
 | succ m ih => ?_
 all_goals
  intro x hx
  have dx := dI_of h.nd hx
  -- some turn leads nearer
  obtain ⟨z, k0, hk0, hz, ez⟩ := h.par x _ hx
  have hfl := nxtI_flip hk0 z
  rw [ez] at hfl
  have dz := dI_of h.nd hz
  have hz0 : ok z := h.ok' _ hz
  have hit : hitI ok E x (flipK k0) := ⟨by rw [hfl]; exact hz0, by rw [hfl, dx, dz]; omega⟩
  have hs : ∃ k, stepI ok E x = some k := by
   cases e : stepI ok E x with
   | some k => exact ⟨k, rfl⟩
   | none =>
    unfold stepI at e
    rw [List.find?_eq_none] at e
    exact absurd (decide_eq_true hit) (e _ (List.mem_range.2 (flipK_lt k0)))
  obtain ⟨k, hs⟩ := hs
  obtain ⟨hk, ⟨hkok, hkd⟩, hkn⟩ := stepI_get hs
  have hw := wS_front hs
  -- turns that lead nearer
  obtain ⟨m1, hm1, hm2⟩ := h.near hx hk hkok
  have dm1 := dI_of h.nd hm2
  rw [dm1, dx] at hkd
  have hmin : ∀ k', k' < 4 → ok (nxtI k' x) → ∀ m', (nxtI k' x, m') ∈ E → m' + 1 = dI E x → k ≤ k' := fun k' _ hok m' hm' e => by
   rcases Nat.lt_or_ge k' k with h' | h'
   ·exact absurd ⟨hok, by rw [dI_of h.nd hm']; omega⟩ (hkn k' h')
   ·exact h'
 ·have e0 : m1 = 0 := by omega
  subst e0
  have et := h.zero _ hm2
  rw [hw 0]
  refine ⟨rfl, .inl ⟨rfl, et⟩, fun w hw4 hl => ?_⟩
  show LE [k] w
  match w, hl with
  | [k'], hl =>
   rcases hl with ⟨_, e⟩ | hl
   ·have hk' : k' < 4 := hw4 k' (List.mem_cons_self ..)
    have hle := hmin k' hk' (by rw [e]; exact h.ok' _ h.to0) 0 (by rw [e]; exact h.to0) (by omega)
    exact LE.snoc (a := []) (b := []) (.inr rfl) hle
   ·exact hl.elim
  | _ :: _ :: _, _ => exact .inl (.inl (by simp))
 ·have e0 : m1 = m + 1 := by omega
  subst e0
  obtain ⟨i1, i2, i3⟩ := ih _ hm2
  rw [hw (m + 1)]
  obtain ⟨p, hp⟩ : ∃ p, p = (wS ok E (nxtI k x) (m + 1)).1 := ⟨_, rfl⟩
  show (k :: (wS ok E (nxtI k x) (m + 1)).1).length = _ ∧ LastP ok to x (k :: (wS ok E (nxtI k x) (m + 1)).1) ∧ ∀ w, OkL 4 w → LastP ok to x w → LE (k :: (wS ok E (nxtI k x) (m + 1)).1) w
  rw [← hp] at i1 i2 i3 ⊢
  refine ⟨by rw [List.length_cons, i1], .inr ?_, fun w hw4 hl => ?_⟩
  ·unfold stpJ; rw [if_pos hkok]; exact i2
  match w, hl with
  | k' :: l, hl =>
   have hk' : k' < 4 := hw4 k' (List.mem_cons_self ..)
   have hw4' : OkL 4 l := fun c hc => hw4 c (List.mem_cons_of_mem _ hc)
   have hxok : ok x := h.ok' _ hx
   obtain ⟨mm, hmm1, hmm2⟩ := last_len h _ x hxok hw4 hl
   have emm : mm = m + 1 + 1 := Bfs.one h.nd hmm2 hx
   subst emm
   rw [List.length_cons] at hmm1
   rcases Nat.lt_or_ge (m + 1) l.length with hlt | hge
   ·exact .inl (.inl (by rw [List.length_cons, List.length_cons, i1]; omega))
   have hl1 : l.length = m + 1 := by omega
   rcases hl with ⟨e, _⟩ | hl
   ·rw [e] at hl1; simp at hl1
   have hst : ok (stpJ ok x k') := by
    unfold stpJ
    by_cases hq : ok (nxtI k' x)
    ·rw [if_pos hq]; exact hq
    ·rw [if_neg hq]; exact hxok
   obtain ⟨m2, hm3, hm4⟩ := last_len h l _ hst hw4' hl
   unfold stpJ at hl hm4
   by_cases hq : ok (nxtI k' x)
   ·rw [if_pos hq] at hl hm4
    obtain ⟨m3, hm5, hm6⟩ := h.near hm4 (flipK_lt k') (by rw [nxtI_flip hk']; exact hxok)
    rw [nxtI_flip hk'] at hm6
    have e3 := Bfs.one h.nd hm6 hx
    have hle := hmin k' hk' hq m2 hm4 (by omega)
    rcases Nat.lt_or_ge k k' with hlt | hge'
    ·exact .inl (.inr ⟨by rw [List.length_cons, List.length_cons, i1, hl1], .inl hlt⟩)
    ·obtain rfl : k = k' := by omega
     rcases i3 l hw4' hl with (h5 | ⟨h5, h6⟩) | h5
     ·rw [i1, hl1] at h5; omega
     ·exact .inl (.inr ⟨by rw [List.length_cons, List.length_cons, h5], .inr ⟨rfl, h6⟩⟩)
     ·rw [h5]; exact .inr rfl
   ·rw [if_neg hq] at hm4
    have e3 := Bfs.one h.nd hm4 hx
    omega
end
section
variable {ok : PoseD → Prop} [DecidablePred ok] {L : List PoseD} {to : PoseD}
theorem place_nonneg {y : PoseD} : 0 ≤ placeI L y ↔ y ∈ L := by
 unfold placeI
 rw [idx_nonneg]
 exact ⟨fun ⟨x, h1, h2⟩ => h2 ▸ h1, fun h => ⟨y, h, rfl⟩⟩
theorem place_at {y : PoseD} (h : y ∈ L) : L[(placeI L y).toNat]? = some y := by
 unfold placeI
 induction L with
 | nil => cases h
 | cons x L ih =>
  unfold idxOf
  by_cases hx : x = y
  ·rw [if_pos hx]; show some x = _; rw [hx]
  ·rw [if_neg hx]
   have hy : y ∈ L := (List.mem_cons.1 h).resolve_left fun e => hx e.symm
   have h0 : 0 ≤ idxOf (fun x => x = y) L := place_nonneg.2 hy
   rw [if_pos h0]
   have e : (idxOf (fun x => x = y) L + 1).toNat = (idxOf (fun x => x = y) L).toNat + 1 := by omega
   rw [e, List.getElem?_cons_succ]
   exact ih hy
theorem mv_turn (to : PoseD) {i k : Nat} {x : PoseD} (hi : L[i]? = some x) (hk : k < 4) : mv (tverI L to L.length) i k = tmvI L to i x k := by
 have hlt := (List.getElem?_eq_some_iff.1 hi).1
 have e1 : (tverI L to L.length).getD i [] = trowI L to i x 4 := by
  unfold tverI
  rw [List.getD_eq_getElem?_getD, List.getElem?_map, List.getElem?_range hlt]
  show trowI L to i (L.getD i (0, 0)) 4 = _
  rw [List.getD_eq_getElem?_getD, hi]; rfl
 unfold mv
 rw [e1]
 unfold trowI
 rw [List.getD_eq_getElem?_getD, List.getElem?_map, List.getElem?_range hk]
 rfl
theorem run_turn (hL : ∀ x, x ∈ L ↔ ok x) (hto : ok to) : ∀ (w : List Nat) (i : Nat) (b : Bool) (x : PoseD), L[i]? = some x → OkL 4 w → ((runB (nextD (tverI L to L.length) 2 []) (i, b) w).2 = true ↔ (w = [] ∧ b = true) ∨ LastP ok to x w)
 | [], i, b, x, _, _ => by
  show b = true ↔ _
  exact ⟨fun h => .inl ⟨rfl, h⟩, fun h => h.elim (·.2) False.elim⟩
 | k :: l, i, b, x, hi, hw => by
  have hk : k < 4 := hw k (List.mem_cons_self ..)
  have hw' : OkL 4 l := fun c hc => hw c (List.mem_cons_of_mem _ hc)
  have e1 : nextD (tverI L to L.length) 2 [] (i, b) k = ((tmvI L to i x k).1.toNat, decide ((tmvI L to i x k).2 = 2)) := by
   unfold nextD
   rw [if_neg (by simp)]
   show ((mv _ i k).1.toNat, decide ((mv _ i k).2 = 2)) = _
   rw [mv_turn to hi hk]
  have e2 : L[(tmvI L to i x k).1.toNat]? = some (stpJ ok x k) := by
   unfold tmvI stpJ
   show L[(if 0 ≤ placeI L (nxtI k x) then placeI L (nxtI k x) else (i : Int)).toNat]? = _
   by_cases hq : ok (nxtI k x)
   ·rw [if_pos hq, if_pos (place_nonneg.2 ((hL _).2 hq))]
    exact place_at ((hL _).2 hq)
   ·rw [if_neg hq, if_neg (fun h => hq ((hL _).1 (place_nonneg.1 h)))]
    exact hi
  have e3 : decide ((tmvI L to i x k).2 = 2) = decide (nxtI k x = to) := by
   unfold tmvI
   show decide ((if nxtI k x = to then (2 : Int) else if 0 ≤ placeI L (nxtI k x) then 1 else 0) = 2) = _
   by_cases hq : nxtI k x = to
   ·simp [hq]
   ·rw [if_neg hq]
    simp only [hq, decide_false, decide_eq_false_iff_not]
    split <;> decide
  show (runB (nextD (tverI L to L.length) 2 []) (nextD (tverI L to L.length) 2 [] (i, b) k) l).2 = true ↔ _
  rw [e1, e3, run_turn hL hto l _ _ _ e2 hw', decide_eq_true_iff]
  show _ ↔ (k :: l = [] ∧ b = true) ∨ ((l = [] ∧ nxtI k x = to) ∨ LastP ok to (stpJ ok x k) l)
  constructor
  ·exact fun h => .inr h
  ·rintro (⟨h, _⟩ | h)
   ·cases h
   ·exact h
theorem turns_law {start : PoseD} (hL : ∀ x, x ∈ L ↔ ok x) (hl : L.length ≤ 4) (h0 : L[0]? = some start) (hto : ok to) (hne : start ≠ to) {o : Option (List Nat)} (hF : Found (nextD (tverI L to L.length) 2 []) (fun p : Pt => p.2 = true) (0, false) 4 o) :
  (lookD (bfS ok to 4).1 start = none → o = none) ∧ ∀ m, lookD (bfS ok to 4).1 start = some m → m ≤ 4 ∧ o = some (wS ok (bfS ok to 4).1 start m).1 := by
 have hend := bfs_end hto (fun x hx => (hL x).2 hx) hl
 have hB := bfs_inv hto 4
 rw [hend] at hB
 have hst : ok start := (hL _).1 (List.mem_of_getElem? h0)
 have key : ∀ w, OkL 4 w → ((runB (nextD (tverI L to L.length) 2 []) (0, false) w).2 = true ↔ LastP ok to start w) := fun w hw => by
  rw [run_turn hL hto w 0 false start h0 hw]
  exact ⟨fun h => h.elim (fun h => by cases h.2) id, .inr⟩
 constructor
 ·intro hn
  cases o with
  | none => rfl
  | some l =>
   obtain ⟨h1, h2, _⟩ := hF.yes l rfl
   obtain ⟨m, _, h3⟩ := last_len hB l start hst h1 ((key l h1).1 h2)
   rw [(lookD_mem hB.nd).2 h3] at hn
   cases hn
 ·intro m hm
  have hm' := (lookD_mem hB.nd).1 hm
  refine ⟨hB.le _ hm', ?_⟩
  cases m with
  | zero => exact absurd (hB.zero _ hm') hne
  | succ m =>
   obtain ⟨h1, h2, h3⟩ := way_least hB m start hm'
   have h4 : OkL 4 (wS ok (bfS ok to 4).1 start (m + 1)).1 := wS_lt _ _
   cases o with
   | none => exact absurd ((key _ h4).2 h2) (hF.no rfl _ h4)
   | some l =>
    obtain ⟨k1, k2, k3⟩ := hF.yes l rfl
    rw [LE.antisymm (k3 _ h4 ((key _ h4).2 h2)) (h3 l k1 ((key l k1).1 k2))]
end
end Go.Vm

namespace Go.Vm
open Go.Proofs
def turnC (k : Nat) : List AV := [n' (if k < 2 then 0 else 1), n' (if k % 2 = 0 then -1 else 1)]
def eTurns (l : List Nat) : AV := .sl l.length (l.flatMap turnC) .unk
def pathV (o : Option (List Nat)) : AV := match o with
 | none => .tup [.lit (.slice none 0 0), .lit (.int .i64 5)]
 | some l => .tup [eTurns l, .lit (.int .i64 0)]
theorem under_turns (n : Nat) : ∀ l : List Nat, AV.unders n (l.flatMap turnC)
 | [] => trivial
 | _ :: l => ⟨trivial, trivial, under_turns n l⟩
theorem under_eTurns (n : Nat) (l : List Nat) : (eTurns l).under n := ⟨under_turns n l, trivial⟩
theorem under_pathV (n : Nat) (o : Option (List Nat)) : (pathV o).under n := by
 cases o with
 | none => exact ⟨trivial, trivial, trivial⟩
 | some l => exact ⟨under_eTurns n l, trivial, trivial⟩
def toA (R : Nat) (l : List Nat) : AV := .sl l.length (l.flatMap turnC) (.own R l.length 2)
theorem under_toA {n R : Nat} (l : List Nat) (h : R < n) : (toA R l).under n := ⟨under_turns n l, h⟩
theorem toA_cells (l : List Nat) : (l.flatMap turnC).length = l.length * 2 := by
 induction l with
 | nil => rfl
 | cons a l ih => rw [List.flatMap_cons, List.length_append, ih, List.length_cons]; show 2 + _ = _; omega
theorem toA_snoc (R : Nat) (l : List Nat) (k : Nat) : AV.sl (l.length + 1) (l.flatMap turnC ++ turnC k) (.own R (l.length + 1) 2) = toA R (l ++ [k]) := by
 unfold toA; rw [List.length_append, List.flatMap_append]
 simp
theorem freezes_turns (g : Nat → Option Blk) : ∀ l : List Nat, AV.freezes g (l.flatMap turnC) = l.flatMap turnC
 | [] => rfl
 | k :: l => by
  have ih := freezes_turns g l
  show AV.freezes g (turnC k ++ l.flatMap turnC) = turnC k ++ l.flatMap turnC
  show n' _ :: n' _ :: AV.freezes g (l.flatMap turnC) = _
  rw [ih]; rfl
theorem freeze_turns (g : Nat → Option Blk) (R : Nat) (l : List Nat) : AV.freeze g (toA R l) = eTurns l := by
 show AV.sl l.length (AV.freezes g (l.flatMap turnC)) .unk = eTurns l
 rw [freezes_turns]; rfl
theorem under_toA' {n R : Nat} (l : List Nat) (k : Nat) (h : R < n) : (AV.sl (l.length + 1) (l.flatMap turnC ++ turnC k) (.own R (l.length + 1) 2)).under n := by
 rw [toA_snoc]; exact under_toA _ h
theorem app_turn {g : Nat → Option Blk} {n len id gen : Nat} {cells : List AV} {a b : Int} (h1 : cells.length = len * 2) (h2 : len < 2097152) (hg : g id = some (.row gen)) :
  appT Tryz.prog false g n 44 44 (.sl len cells (.own id gen 2)) (.sl 1 [n' a, n' b] .full) = some (.sl (len + 1) (cells ++ [n' a, n' b]) (.own id (gen + 1) 2), .set id (.row (gen + 1))) :=
 appT_own (e := 59) (bytes := 16) (z := .agg #[.int .i64 0, .int .i64 0]) (by kernel_rfl) (by kernel_rfl) (by kernel_rfl) (by kernel_rfl) (by kernel_rfl) rfl (by omega) h1 (by omega) hg rfl
def paH (K : List AV) (E : List (PoseD × Nat)) (l : List Nat) (x : PoseD) : List (Nat × Blk) :=
 [(2, .box K 108), (3, .map (.arr 5) (kE (awE E))), (4, .box [.mp 3] 111), (14, .box [toA 21 l] 44), (15, .box [eInts (prL x)] 30), (16, .defd), (17, .defd), (18, .defd), (19, .defd), (20, .defd), (21, .row l.length)]
noncomputable def paS (m i : Nat) : List (Nat × AV) := [(10, .ptr 2 0), (11, .ptr 4 0), (14, .ptr 14 0), (15, .ptr 15 0), (68, n' (m : Nat)), (69, n' (i : Nat)), (73, .fn (.func 101) [] [.ptr 22 0, .ptr 23 0])]
noncomputable def paB (m i : Nat) (st : LoopState) : Blk := lpB Tryz.f16 st (paS m i) 24
theorem under_paB (m i : Nat) (st : LoopState) : (paB m i st).under 26 := under_lpB ⟨ltb rfl, ltb rfl, ltb rfl, ltb rfl, trivial, trivial, ⟨trivial, ltb rfl, ltb rfl, trivial⟩, trivial⟩ (ltb rfl)
noncomputable def paT (K : List AV) (E : List (PoseD × Nat)) (l : List Nat) (x : PoseD) (m i : Nat) (st : LoopState) : List (Nat × Blk) :=
 [(2, .box K 108), (3, .map (.arr 5) (kE (awE E))), (4, .box [.mp 3] 111), (14, .box [toA 21 l] 44), (15, .box [eInts (prL x)] 30), (16, .defd), (17, .defd), (18, .defd), (19, .defd), (20, .defd), (21, .row l.length), (22, .box K 108), (23, .box [eInts (prL x)] 30), (24, .defd), (25, paB m i st)]
theorem wS_next {ok : PoseD → Prop} [DecidablePred ok] {E : List (PoseD × Nat)} {x : PoseD} {i : Nat} : wS ok E x (i + 1) = match stepI ok E (wS ok E x i).2 with
  | none => wS ok E x i
  | some k => ((wS ok E x i).1 ++ [k], nxtI k (wS ok E x i).2) := rfl
set_option maxHeartbeats 8000000 in
set_option maxRecDepth 100000 in
theorem c_Path {st : Int} {a b : LimbD} {e h0 h1 : FieldD} {r0 r1 : Int} (hf : figOk st a b) (hs : stageOk e h0 h1 r0 r1) {start to : PoseD} (hst : okI st a b e h0 h1 r0 start) (hto : okI st a b e h0 h1 r0 to) (h4 : (bfS (okI st a b e h0 h1 r0) to 4).2 = []) {E : List (PoseD × Nat)} (hE : E = (bfS (okI st a b e h0 h1 r0) to 4).1)
  (dB : ∀ x, dI E x ≤ 4) (hmB : ∀ m, lookD E start = some m → m ≤ 4) (H : List Blk) :
  ACall Tryz.prog 16 [eFig st a b, eStage e h0 h1 r0 r1, eInts (prL start), eInts (prL to)] H (.ret (pathV ((lookD E start).map fun m => (wS (okI st a b e h0 h1 r0) E start m).1))) H := by
 refine fn_rule (m := false) (fn := Tryz.f16) (c := (Tryz.f16.body).getD .skip) mixed (by kernel_rfl) (by kernel_rfl) (of_decide_eq_true (by kernel_rfl)) ?_ ?_ ?_ H
 ·exact ⟨under_eFig _ _ _ _, under_eStage _ _ _ _ _ _, under_eInts _ _, under_eInts _ _, trivial⟩
 ·exact under_pathV _ _
 ·have near : ∀ {y : PoseD}, poseOk a b y.1 y.2 → (-4 ≤ y.1 ∧ y.1 ≤ 4) ∧ (-4 ≤ y.2 ∧ y.2 ≤ 4) := fun {y} h => by
   obtain ⟨_, ⟨_, _, m3, m4, _⟩, ⟨_, _, k3, k4, _⟩⟩ := hf
   obtain ⟨p1, p2⟩ := h
   omega
  have hpar : ∀ s ∈ ((rgn (Tryz.f16.body.getD .skip)).getD (#[], .skip, .skip)).1, s < Tryz.f16.ntmps := by decide
  have hst4 := near hst.1
  have hto4 := near hto.1
  obtain ⟨es, hes, hA⟩ := c_away hf hs hto h4
  rw [← hE] at hes
  subst hes
  refine CallG.pure _ (c_jfigure hf) ?_
  refine CallG.pure _ (c_jstage st a b hs) ?_
  refine CallG.bool (c_jpose st a b start.1 start.2) (fun _ => ?_) (fun x => absurd hst.1 x)
  refine CallG.bool (c_jpose st a b to.1 to.2) (fun _ => ?_) (fun x => absurd hto.1 x)
  refine ifN ?_
  refine CallG.bool (c_jfine hf hs hst.1) (fun _ => ?_) (fun x => absurd hst.2 x)
  refine CallG.bool (c_jfine hf hs hto.1) (fun _ => ?_) (fun x => absurd hto.2 x)
  refine ifN ?_
  refine CallG.map hA ?_
  refine CallG.pure _ (c_keyOf start.1 start.2) ?_
  cases hl : lookD E start with
  | none =>
   refine Ex.mk _ (aw_none2 (y := start) (E := E) (id := 3) rfl rfl rfl rfl (shOk_key (by omega) (by omega)) hl) ?_
   refine ifY ?_
   exact ⟨.inl rfl, FinG.mk _ rfl rfl rfl⟩
  | some m =>
   refine Ex.mk _ (aw_look2 (y := start) (E := E) (id := 3) rfl rfl rfl rfl (shOk_key (by omega) (by omega)) hl) ?_
   refine ifN ?_
   refine CallG.pure _ (c_keyOf start.1 start.2) ?_
   refine Ex.mk _ (aw_look1 (y := start) (E := E) (id := 3) rfl rfl rfl rfl (shOk_key (by omega) (by omega))) ?_
   -- the way
   have hm4 : m ≤ 4 := hmB m hl
   have hgd : (((lookD E start).getD 0 : Nat) : Int) = ((m : Nat) : Int) := by rw [hl]; rfl
   refine LoopG.ghost (LoopG.at (n0 := 22) rfl (LoopG.box 14 [.sl 0 [] (.own 21 0 2)] 2 (leb rfl) (leb rfl) rfl (.cons (Weak.own (r := 21) (g := 0) 2 rfl) (.nil _)) ?_))
   refine loop_up mixed (m := false) (fun i => [(10, .ptr 2 0), (11, .ptr 4 0), (14, .ptr 14 0), (15, .ptr 15 0), (68, n' (m : Nat)), (69, n' (i : Nat))])
    (fun i => paH (kC st a b e h0 h1 r0 r1) E (wS (okI st a b e h0 h1 r0) E start i).1 (wS (okI st a b e h0 h1 r0) E start i).2) (fun _ => True) m 2 (leb rfl) trivial ?_ ?_ ?_
   ·exact ⟨wp rfl (ltb rfl), wp rfl (ltb rfl), wp rfl (ltb rfl), wp rfl (ltb rfl), ⟨_, rfl, Weak.of_eq (congrArg n' hgd), trivial⟩, wp rfl trivial, trivial⟩
   ·exact ⟨bk rfl rfl, bk rfl rfl, bk rfl rfl, bk rfl rfl, bk rfl rfl, bk rfl rfl, bk rfl rfl, bk rfl rfl, bk rfl rfl, bk rfl rfl, bk rfl rfl, trivial⟩
   intro i hi _
   refine If.mk (fun g2 => ?_) (fun g2 => ?_)
   ·refine ifY ?_
    have hi' : i < m := by omega
    have hxl := wS_ok (ok := (okI st a b e h0 h1 r0)) (E := E) hst i
    have hll := wS_len (ok := (okI st a b e h0 h1 r0)) (E := E) start i
    obtain ⟨l, hlE⟩ : ∃ l, l = (wS (okI st a b e h0 h1 r0) E start i).1 := ⟨_, rfl⟩
    obtain ⟨x, hxE⟩ : ∃ x, x = (wS (okI st a b e h0 h1 r0) E start i).2 := ⟨_, rfl⟩
    have hlx : wS (okI st a b e h0 h1 r0) E start i = (l, x) := by rw [hlE, hxE]
    rw [← hlE] at hll
    rw [← hxE] at hxl
    have hx4 := near hxl.1
    rw [hlx]
    refine CallG.inlineP (m := false) (fn := Tryz.f50) (c := (Tryz.f50.body).getD .skip) mixed (by kernel_rfl) (by kernel_rfl) (of_decide_eq_true (by kernel_rfl)) ?_
    refine .inl ⟨.inl rfl, _, rfl, rfl, ?_⟩
    refine RangeG.fresh (n0 := 24) (paS m i) ((paT (kC st a b e h0 h1 r0 r1) E l x m i .ready).take 13) rfl ?_ ?_ ?_
    ·exact ⟨⟨_, rfl, Weak.refl _ _⟩, ⟨_, rfl, Weak.refl _ _⟩, ⟨_, rfl, Weak.refl _ _⟩, ⟨_, rfl, Weak.refl _ _⟩, ⟨_, rfl, Weak.refl _ _⟩, ⟨_, rfl, Weak.refl _ _⟩, ⟨_, rfl, Weak.refl _ _⟩, trivial⟩
    ·exact ⟨bk rfl rfl, bk rfl rfl, bk rfl rfl, bk rfl rfl, bk rfl rfl, bk rfl rfl, bk rfl rfl, bk rfl rfl, bk rfl rfl, bk rfl rfl, bk rfl rfl, bk rfl rfl, bk rfl rfl, trivial⟩
    refine RangeG.outer (f := 101) (first := []) (captured := [.ptr 22 0, .ptr 23 0]) rfl rfl rfl ?_
    refine CallG.inlineP (m := false) (fn := Tryz.f101) (c := (Tryz.f101.body).getD .skip) mixed (by kernel_rfl) (by kernel_rfl) (of_decide_eq_true (by kernel_rfl)) ?_
    refine LoopG.at (n0 := 26) rfl (loop_up mixed (m := false) (fun l => [(0, .yld 25), (1, .ptr 22 0), (2, .ptr 23 0), (12, n' 2), (13, n' (l : Nat))])
     (fun _ => paT (kC st a b e h0 h1 r0 r1) E l x m i .ready) (fun r => ∀ c, c < 2 * r → ¬ hitI (okI st a b e h0 h1 r0) E x c) 2 14 (leb rfl) (fun c hc => by omega) ?_ ?_ ?_)
    ·exact ⟨wp rfl (ltb rfl), wp rfl (ltb rfl), wp rfl (ltb rfl), wp rfl trivial, wp rfl trivial, trivial⟩
    ·exact ⟨bk rfl rfl, bk rfl rfl, bk rfl rfl, bk rfl rfl, bk rfl rfl, bk rfl rfl, bk rfl rfl, bk rfl rfl, bk rfl rfl, bk rfl rfl, bk rfl rfl, bk rfl rfl, bk rfl rfl, bk rfl rfl, bk rfl rfl, trivial⟩
    ·intro lb hlb hI1
     have hl3 : lb = 0 ∨ lb = 1 ∨ lb = 2 := by omega
     rcases hl3 with rfl | rfl | rfl
     ·refine If.mk (fun _ => ?_) (fun h => absurd (by decide) h)
      refine ifY ?_
      refine LoopG.at (n0 := 26) rfl (loop_up mixed (m := false) (fun r => [(0, .yld 25), (1, .ptr 22 0), (2, .ptr 23 0), (4, n' (0 : Nat)), (12, n' 2), (13, n' (0 : Nat)), (16, .agg [n' (-1), n' 1]), (17, n' (r : Nat))])
       (fun _ => paT (kC st a b e h0 h1 r0 r1) E l x m i .ready) (fun r => ∀ c, c < 0 + r → ¬ hitI (okI st a b e h0 h1 r0) E x c) 2 14 (leb rfl) ?_ ?_ ?_ ?_)
      ·intro c hc
       exact hI1 c (by omega)
      ·exact ⟨wp rfl (ltb rfl), wp rfl (ltb rfl), wp rfl (ltb rfl), wp rfl trivial, wp rfl trivial, wp rfl trivial, ⟨_, rfl, Weak.refl _ _, ⟨trivial, trivial, trivial⟩⟩, wp rfl trivial, trivial⟩
      ·exact ⟨bk rfl rfl, bk rfl rfl, bk rfl rfl, bk rfl rfl, bk rfl rfl, bk rfl rfl, bk rfl rfl, bk rfl rfl, bk rfl rfl, bk rfl rfl, bk rfl rfl, bk rfl rfl, bk rfl rfl, bk rfl rfl, bk rfl rfl, trivial⟩
      ·intro r hr hI
       have hr3 : r = 0 ∨ r = 1 ∨ r = 2 := by omega
       rcases hr3 with rfl | rfl | rfl
       ·refine If.mk (fun _ => ?_) (fun h => absurd (by decide) h)
        refine ifY ?_
        refine Ex.mk _ rfl ?_
        refine CallG.pure _ (c_turnJ0 hx4.1) ?_
        refine CallG.bool (c_jpose st a b (nxtI 0 x).1 (nxtI 0 x).2) (fun p1 => ?_) (fun p1 => ?_)
        ·have y4 := near p1
         refine CallG.bool (c_jfine hf hs p1) (fun p2 => ?_) (fun p2 => ?_)
         ·refine RoundG.fresh (n0 := 27) (paT (kC st a b e h0 h1 r0 r1) E l x m i .ready) rfl ?_ ?_
          ·exact ⟨bk rfl rfl, bk rfl rfl, bk rfl rfl, bk rfl rfl, bk rfl rfl, bk rfl rfl, bk rfl rfl, bk rfl rfl, bk rfl rfl, bk rfl rfl, bk rfl rfl, bk rfl rfl, bk rfl rfl, bk rfl rfl, bk rfl rfl, trivial⟩
          refine RoundG.introF (m := false) mixed rfl rfl hpar ?_
          refine ⟨rfl, _, rfl, rfl, [(10, .ptr 2 0), (11, .ptr 4 0), (14, .ptr 14 0), (15, .ptr 15 0), (16, .ptr 27 0), (17, eInts (prL (nxtI 0 x)))], paT (kC st a b e h0 h1 r0 r1) E l x m i .busy ++ [(27, .box (turnC 0) 59)], 28, rfl, ?_, ?_, ?_⟩
          ·exact ⟨⟨_, rfl, Weak.refl _ _⟩, ⟨_, rfl, Weak.refl _ _⟩, ⟨_, rfl, Weak.refl _ _⟩, ⟨_, rfl, Weak.refl _ _⟩, ⟨_, rfl, Weak.refl _ _⟩, ⟨_, rfl, Weak.refl _ _⟩, trivial⟩
          ·exact ⟨bk rfl rfl, bk rfl rfl, bk rfl rfl, bk rfl rfl, bk rfl rfl, bk rfl rfl, bk rfl rfl, bk rfl rfl, bk rfl rfl, bk rfl rfl, bk rfl rfl, bk rfl rfl, bk rfl rfl, bk rfl rfl, bk rfl rfl, bk rfl rfl, trivial⟩
          refine CallG.pure _ (c_keyOf (nxtI 0 x).1 (nxtI 0 x).2) ?_
          refine Ex.mk _ (aw_look1 (y := (nxtI 0 x)) (E := E) (id := 3) rfl rfl rfl rfl (shOk_key (by omega) (by omega))) ?_
          refine CallG.pure _ (c_keyOf x.1 x.2) ?_
          refine Ex.mk _ (aw_look1 (y := x) (E := E) (id := 3) rfl rfl rfl rfl (shOk_key (by omega) (by omega))) ?_
          have hd : (lookD E x).getD 0 ≤ 4 := dB x
          refine Side.mk (fits64 (by omega)) ?_
          refine If.mk (fun g3 => ?_) (fun g3 => ?_)
          ·refine ifY ?_
           have hhit : hitI (okI st a b e h0 h1 r0) E x 0 := ⟨⟨p1, p2⟩, g3⟩
           have hsk : stepI (okI st a b e h0 h1 r0) E x = some 0 := stepI_some (by omega) hhit (fun c hc => hI c (by omega))
           refine ex_app _ _ (app_turn (toA_cells _) (by omega) rfl) ?_
           refine ⟨_, _, rfl, rfl, ?_⟩
           refine ifY ?_
           refine ⟨leb rfl, leb rfl, .inl ⟨.inl rfl, _, rfl, rfl, ?_⟩⟩
           refine ⟨_, _, rfl, (fun e => by cases e), rfl, ?_⟩
           refine Side.mk (fits64 (by omega)) ?_
           have hw : wS (okI st a b e h0 h1 r0) E start (i + 1) = (l ++ [0], nxtI 0 x) := by rw [wS_next]; rw [hlx]; show (match stepI (okI st a b e h0 h1 r0) E x with | none => _ | some k => _) = _; rw [hsk]
           refine ⟨leb rfl, rfl, hi', trivial, ⟨wp rfl (ltb rfl), wp rfl (ltb rfl), wp rfl (ltb rfl), wp rfl (ltb rfl), wp rfl trivial, ⟨_, rfl, Weak.of_eq (congrArg n' (by omega)), trivial⟩, trivial⟩, ?_, ⟨⟨_, rfl, under_toA' _ _ (ltb rfl), trivial⟩, ⟨_, rfl, under_eInts _ _, trivial⟩, ⟨_, rfl, trivial⟩, ⟨_, rfl, trivial⟩, ⟨_, rfl, trivial⟩, ⟨_, rfl, trivial⟩, ⟨_, rfl, trivial⟩, ⟨_, rfl, trivial⟩, trivial⟩⟩
           show Blks _ _ (paH (kC st a b e h0 h1 r0 r1) E (wS (okI st a b e h0 h1 r0) E start (i + 1)).1 (wS (okI st a b e h0 h1 r0) E start (i + 1)).2)
           rw [hw]
           exact ⟨bk rfl rfl, bk rfl rfl, bk rfl rfl, ⟨congrArg (fun z => some (Blk.box [z] 44)) (toA_snoc _ _ _), ltb rfl⟩, bk rfl rfl, bk rfl rfl, bk rfl rfl, bk rfl rfl, bk rfl rfl, bk rfl rfl, ⟨by rw [List.length_append]; rfl, ltb rfl⟩, trivial⟩
          ·refine ifN ?_
           have hno : ¬ hitI (okI st a b e h0 h1 r0) E x 0 := fun z => g3 z.2
           refine ⟨_, _, rfl, rfl, ?_⟩
           refine ifN ?_
           refine Side.mk (by unfold fitsK; kernel_rfl) ?_
           refine ⟨leb rfl, rfl, by decide, ?_, ⟨wp rfl (ltb rfl), wp rfl (ltb rfl), wp rfl (ltb rfl), wp rfl trivial, wp rfl trivial, wp rfl trivial, ⟨_, rfl, Weak.refl _ _, ⟨trivial, trivial, trivial⟩⟩, wp rfl trivial, trivial⟩, ⟨bk rfl rfl, bk rfl rfl, bk rfl rfl, bk rfl rfl, bk rfl rfl, bk rfl rfl, bk rfl rfl, bk rfl rfl, bk rfl rfl, bk rfl rfl, bk rfl rfl, bk rfl rfl, bk rfl rfl, bk rfl rfl, bk rfl rfl, trivial⟩, ⟨⟨_, rfl, under_paB _ _ _⟩, trivial⟩⟩
           intro c hc
           rcases Nat.lt_or_ge c 0 with hck | hck
           ·exact hI c (by omega)
           ·obtain rfl : c = 0 := by omega
            exact hno
         ·refine ifN ?_
          have hno : ¬ hitI (okI st a b e h0 h1 r0) E x 0 := fun z => p2 z.1.2
          refine Side.mk (by unfold fitsK; kernel_rfl) ?_
          refine ⟨leb rfl, rfl, by decide, ?_, ⟨wp rfl (ltb rfl), wp rfl (ltb rfl), wp rfl (ltb rfl), wp rfl trivial, wp rfl trivial, wp rfl trivial, ⟨_, rfl, Weak.refl _ _, ⟨trivial, trivial, trivial⟩⟩, wp rfl trivial, trivial⟩, ⟨bk rfl rfl, bk rfl rfl, bk rfl rfl, bk rfl rfl, bk rfl rfl, bk rfl rfl, bk rfl rfl, bk rfl rfl, bk rfl rfl, bk rfl rfl, bk rfl rfl, bk rfl rfl, bk rfl rfl, bk rfl rfl, bk rfl rfl, trivial⟩, trivial⟩
          intro c hc
          rcases Nat.lt_or_ge c 0 with hck | hck
          ·exact hI c (by omega)
          ·obtain rfl : c = 0 := by omega
           exact hno
        ·refine ifN ?_
         have hno : ¬ hitI (okI st a b e h0 h1 r0) E x 0 := fun z => p1 z.1.1
         refine Side.mk (by unfold fitsK; kernel_rfl) ?_
         refine ⟨leb rfl, rfl, by decide, ?_, ⟨wp rfl (ltb rfl), wp rfl (ltb rfl), wp rfl (ltb rfl), wp rfl trivial, wp rfl trivial, wp rfl trivial, ⟨_, rfl, Weak.refl _ _, ⟨trivial, trivial, trivial⟩⟩, wp rfl trivial, trivial⟩, ⟨bk rfl rfl, bk rfl rfl, bk rfl rfl, bk rfl rfl, bk rfl rfl, bk rfl rfl, bk rfl rfl, bk rfl rfl, bk rfl rfl, bk rfl rfl, bk rfl rfl, bk rfl rfl, bk rfl rfl, bk rfl rfl, bk rfl rfl, trivial⟩, trivial⟩
         intro c hc
         rcases Nat.lt_or_ge c 0 with hck | hck
         ·exact hI c (by omega)
         ·obtain rfl : c = 0 := by omega
          exact hno
       ·refine If.mk (fun _ => ?_) (fun h => absurd (by decide) h)
        refine ifY ?_
        refine Ex.mk _ rfl ?_
        refine CallG.pure _ (c_turnJ1 hx4.1) ?_
        refine CallG.bool (c_jpose st a b (nxtI 1 x).1 (nxtI 1 x).2) (fun p1 => ?_) (fun p1 => ?_)
        ·have y4 := near p1
         refine CallG.bool (c_jfine hf hs p1) (fun p2 => ?_) (fun p2 => ?_)
         ·refine RoundG.fresh (n0 := 27) (paT (kC st a b e h0 h1 r0 r1) E l x m i .ready) rfl ?_ ?_
          ·exact ⟨bk rfl rfl, bk rfl rfl, bk rfl rfl, bk rfl rfl, bk rfl rfl, bk rfl rfl, bk rfl rfl, bk rfl rfl, bk rfl rfl, bk rfl rfl, bk rfl rfl, bk rfl rfl, bk rfl rfl, bk rfl rfl, bk rfl rfl, trivial⟩
          refine RoundG.introF (m := false) mixed rfl rfl hpar ?_
          refine ⟨rfl, _, rfl, rfl, [(10, .ptr 2 0), (11, .ptr 4 0), (14, .ptr 14 0), (15, .ptr 15 0), (16, .ptr 27 0), (17, eInts (prL (nxtI 1 x)))], paT (kC st a b e h0 h1 r0 r1) E l x m i .busy ++ [(27, .box (turnC 1) 59)], 28, rfl, ?_, ?_, ?_⟩
          ·exact ⟨⟨_, rfl, Weak.refl _ _⟩, ⟨_, rfl, Weak.refl _ _⟩, ⟨_, rfl, Weak.refl _ _⟩, ⟨_, rfl, Weak.refl _ _⟩, ⟨_, rfl, Weak.refl _ _⟩, ⟨_, rfl, Weak.refl _ _⟩, trivial⟩
          ·exact ⟨bk rfl rfl, bk rfl rfl, bk rfl rfl, bk rfl rfl, bk rfl rfl, bk rfl rfl, bk rfl rfl, bk rfl rfl, bk rfl rfl, bk rfl rfl, bk rfl rfl, bk rfl rfl, bk rfl rfl, bk rfl rfl, bk rfl rfl, bk rfl rfl, trivial⟩
          refine CallG.pure _ (c_keyOf (nxtI 1 x).1 (nxtI 1 x).2) ?_
          refine Ex.mk _ (aw_look1 (y := (nxtI 1 x)) (E := E) (id := 3) rfl rfl rfl rfl (shOk_key (by omega) (by omega))) ?_
          refine CallG.pure _ (c_keyOf x.1 x.2) ?_
          refine Ex.mk _ (aw_look1 (y := x) (E := E) (id := 3) rfl rfl rfl rfl (shOk_key (by omega) (by omega))) ?_
          have hd : (lookD E x).getD 0 ≤ 4 := dB x
          refine Side.mk (fits64 (by omega)) ?_
          refine If.mk (fun g3 => ?_) (fun g3 => ?_)
          ·refine ifY ?_
           have hhit : hitI (okI st a b e h0 h1 r0) E x 1 := ⟨⟨p1, p2⟩, g3⟩
           have hsk : stepI (okI st a b e h0 h1 r0) E x = some 1 := stepI_some (by omega) hhit (fun c hc => hI c (by omega))
           refine ex_app _ _ (app_turn (toA_cells _) (by omega) rfl) ?_
           refine ⟨_, _, rfl, rfl, ?_⟩
           refine ifY ?_
           refine ⟨leb rfl, leb rfl, .inl ⟨.inl rfl, _, rfl, rfl, ?_⟩⟩
           refine ⟨_, _, rfl, (fun e => by cases e), rfl, ?_⟩
           refine Side.mk (fits64 (by omega)) ?_
           have hw : wS (okI st a b e h0 h1 r0) E start (i + 1) = (l ++ [1], nxtI 1 x) := by rw [wS_next]; rw [hlx]; show (match stepI (okI st a b e h0 h1 r0) E x with | none => _ | some k => _) = _; rw [hsk]
           refine ⟨leb rfl, rfl, hi', trivial, ⟨wp rfl (ltb rfl), wp rfl (ltb rfl), wp rfl (ltb rfl), wp rfl (ltb rfl), wp rfl trivial, ⟨_, rfl, Weak.of_eq (congrArg n' (by omega)), trivial⟩, trivial⟩, ?_, ⟨⟨_, rfl, under_toA' _ _ (ltb rfl), trivial⟩, ⟨_, rfl, under_eInts _ _, trivial⟩, ⟨_, rfl, trivial⟩, ⟨_, rfl, trivial⟩, ⟨_, rfl, trivial⟩, ⟨_, rfl, trivial⟩, ⟨_, rfl, trivial⟩, ⟨_, rfl, trivial⟩, trivial⟩⟩
           show Blks _ _ (paH (kC st a b e h0 h1 r0 r1) E (wS (okI st a b e h0 h1 r0) E start (i + 1)).1 (wS (okI st a b e h0 h1 r0) E start (i + 1)).2)
           rw [hw]
           exact ⟨bk rfl rfl, bk rfl rfl, bk rfl rfl, ⟨congrArg (fun z => some (Blk.box [z] 44)) (toA_snoc _ _ _), ltb rfl⟩, bk rfl rfl, bk rfl rfl, bk rfl rfl, bk rfl rfl, bk rfl rfl, bk rfl rfl, ⟨by rw [List.length_append]; rfl, ltb rfl⟩, trivial⟩
          ·refine ifN ?_
           have hno : ¬ hitI (okI st a b e h0 h1 r0) E x 1 := fun z => g3 z.2
           refine ⟨_, _, rfl, rfl, ?_⟩
           refine ifN ?_
           refine Side.mk (by unfold fitsK; kernel_rfl) ?_
           refine ⟨leb rfl, rfl, by decide, ?_, ⟨wp rfl (ltb rfl), wp rfl (ltb rfl), wp rfl (ltb rfl), wp rfl trivial, wp rfl trivial, wp rfl trivial, ⟨_, rfl, Weak.refl _ _, ⟨trivial, trivial, trivial⟩⟩, wp rfl trivial, trivial⟩, ⟨bk rfl rfl, bk rfl rfl, bk rfl rfl, bk rfl rfl, bk rfl rfl, bk rfl rfl, bk rfl rfl, bk rfl rfl, bk rfl rfl, bk rfl rfl, bk rfl rfl, bk rfl rfl, bk rfl rfl, bk rfl rfl, bk rfl rfl, trivial⟩, ⟨⟨_, rfl, under_paB _ _ _⟩, trivial⟩⟩
           intro c hc
           rcases Nat.lt_or_ge c 1 with hck | hck
           ·exact hI c (by omega)
           ·obtain rfl : c = 1 := by omega
            exact hno
         ·refine ifN ?_
          have hno : ¬ hitI (okI st a b e h0 h1 r0) E x 1 := fun z => p2 z.1.2
          refine Side.mk (by unfold fitsK; kernel_rfl) ?_
          refine ⟨leb rfl, rfl, by decide, ?_, ⟨wp rfl (ltb rfl), wp rfl (ltb rfl), wp rfl (ltb rfl), wp rfl trivial, wp rfl trivial, wp rfl trivial, ⟨_, rfl, Weak.refl _ _, ⟨trivial, trivial, trivial⟩⟩, wp rfl trivial, trivial⟩, ⟨bk rfl rfl, bk rfl rfl, bk rfl rfl, bk rfl rfl, bk rfl rfl, bk rfl rfl, bk rfl rfl, bk rfl rfl, bk rfl rfl, bk rfl rfl, bk rfl rfl, bk rfl rfl, bk rfl rfl, bk rfl rfl, bk rfl rfl, trivial⟩, trivial⟩
          intro c hc
          rcases Nat.lt_or_ge c 1 with hck | hck
          ·exact hI c (by omega)
          ·obtain rfl : c = 1 := by omega
           exact hno
        ·refine ifN ?_
         have hno : ¬ hitI (okI st a b e h0 h1 r0) E x 1 := fun z => p1 z.1.1
         refine Side.mk (by unfold fitsK; kernel_rfl) ?_
         refine ⟨leb rfl, rfl, by decide, ?_, ⟨wp rfl (ltb rfl), wp rfl (ltb rfl), wp rfl (ltb rfl), wp rfl trivial, wp rfl trivial, wp rfl trivial, ⟨_, rfl, Weak.refl _ _, ⟨trivial, trivial, trivial⟩⟩, wp rfl trivial, trivial⟩, ⟨bk rfl rfl, bk rfl rfl, bk rfl rfl, bk rfl rfl, bk rfl rfl, bk rfl rfl, bk rfl rfl, bk rfl rfl, bk rfl rfl, bk rfl rfl, bk rfl rfl, bk rfl rfl, bk rfl rfl, bk rfl rfl, bk rfl rfl, trivial⟩, trivial⟩
         intro c hc
         rcases Nat.lt_or_ge c 1 with hck | hck
         ·exact hI c (by omega)
         ·obtain rfl : c = 1 := by omega
          exact hno
       ·refine If.mk (fun h => absurd h (by decide)) (fun _ => ?_)
        refine ifN ?_
        refine ⟨leb rfl, ?_⟩
        refine Side.mk (by unfold fitsK; kernel_rfl) ?_
        exact ⟨leb rfl, rfl, by decide, (fun c hc => hI c (by omega)), ⟨wp rfl (ltb rfl), wp rfl (ltb rfl), wp rfl (ltb rfl), wp rfl trivial, wp rfl trivial, trivial⟩, ⟨bk rfl rfl, bk rfl rfl, bk rfl rfl, bk rfl rfl, bk rfl rfl, bk rfl rfl, bk rfl rfl, bk rfl rfl, bk rfl rfl, bk rfl rfl, bk rfl rfl, bk rfl rfl, bk rfl rfl, bk rfl rfl, bk rfl rfl, trivial⟩, ⟨⟨_, rfl, under_toA _ (ltb rfl), trivial⟩, ⟨_, rfl, under_eInts _ _, trivial⟩, ⟨_, rfl, trivial⟩, ⟨_, rfl, trivial⟩, ⟨_, rfl, trivial⟩, ⟨_, rfl, trivial⟩, ⟨_, rfl, trivial⟩, ⟨_, rfl, trivial⟩, ⟨_, rfl, under_kC _ _ _ _ _ _ _ _ _⟩, ⟨_, rfl, under_eInts _ _, trivial⟩, ⟨_, rfl, trivial⟩, ⟨_, rfl, under_paB _ _ _⟩, trivial⟩⟩
     ·refine If.mk (fun _ => ?_) (fun h => absurd (by decide) h)
      refine ifY ?_
      refine LoopG.at (n0 := 26) rfl (loop_up mixed (m := false) (fun r => [(0, .yld 25), (1, .ptr 22 0), (2, .ptr 23 0), (4, n' (1 : Nat)), (12, n' 2), (13, n' (1 : Nat)), (16, .agg [n' (-1), n' 1]), (17, n' (r : Nat))])
       (fun _ => paT (kC st a b e h0 h1 r0 r1) E l x m i .ready) (fun r => ∀ c, c < 2 + r → ¬ hitI (okI st a b e h0 h1 r0) E x c) 2 14 (leb rfl) ?_ ?_ ?_ ?_)
      ·intro c hc
       exact hI1 c (by omega)
      ·exact ⟨wp rfl (ltb rfl), wp rfl (ltb rfl), wp rfl (ltb rfl), wp rfl trivial, wp rfl trivial, wp rfl trivial, ⟨_, rfl, Weak.refl _ _, ⟨trivial, trivial, trivial⟩⟩, wp rfl trivial, trivial⟩
      ·exact ⟨bk rfl rfl, bk rfl rfl, bk rfl rfl, bk rfl rfl, bk rfl rfl, bk rfl rfl, bk rfl rfl, bk rfl rfl, bk rfl rfl, bk rfl rfl, bk rfl rfl, bk rfl rfl, bk rfl rfl, bk rfl rfl, bk rfl rfl, trivial⟩
      ·intro r hr hI
       have hr3 : r = 0 ∨ r = 1 ∨ r = 2 := by omega
       rcases hr3 with rfl | rfl | rfl
       ·refine If.mk (fun _ => ?_) (fun h => absurd (by decide) h)
        refine ifY ?_
        refine Ex.mk _ rfl ?_
        refine CallG.pure _ (c_turnJ2 hx4.2) ?_
        refine CallG.bool (c_jpose st a b (nxtI 2 x).1 (nxtI 2 x).2) (fun p1 => ?_) (fun p1 => ?_)
        ·have y4 := near p1
         refine CallG.bool (c_jfine hf hs p1) (fun p2 => ?_) (fun p2 => ?_)
         ·refine RoundG.fresh (n0 := 27) (paT (kC st a b e h0 h1 r0 r1) E l x m i .ready) rfl ?_ ?_
          ·exact ⟨bk rfl rfl, bk rfl rfl, bk rfl rfl, bk rfl rfl, bk rfl rfl, bk rfl rfl, bk rfl rfl, bk rfl rfl, bk rfl rfl, bk rfl rfl, bk rfl rfl, bk rfl rfl, bk rfl rfl, bk rfl rfl, bk rfl rfl, trivial⟩
          refine RoundG.introF (m := false) mixed rfl rfl hpar ?_
          refine ⟨rfl, _, rfl, rfl, [(10, .ptr 2 0), (11, .ptr 4 0), (14, .ptr 14 0), (15, .ptr 15 0), (16, .ptr 27 0), (17, eInts (prL (nxtI 2 x)))], paT (kC st a b e h0 h1 r0 r1) E l x m i .busy ++ [(27, .box (turnC 2) 59)], 28, rfl, ?_, ?_, ?_⟩
          ·exact ⟨⟨_, rfl, Weak.refl _ _⟩, ⟨_, rfl, Weak.refl _ _⟩, ⟨_, rfl, Weak.refl _ _⟩, ⟨_, rfl, Weak.refl _ _⟩, ⟨_, rfl, Weak.refl _ _⟩, ⟨_, rfl, Weak.refl _ _⟩, trivial⟩
          ·exact ⟨bk rfl rfl, bk rfl rfl, bk rfl rfl, bk rfl rfl, bk rfl rfl, bk rfl rfl, bk rfl rfl, bk rfl rfl, bk rfl rfl, bk rfl rfl, bk rfl rfl, bk rfl rfl, bk rfl rfl, bk rfl rfl, bk rfl rfl, bk rfl rfl, trivial⟩
          refine CallG.pure _ (c_keyOf (nxtI 2 x).1 (nxtI 2 x).2) ?_
          refine Ex.mk _ (aw_look1 (y := (nxtI 2 x)) (E := E) (id := 3) rfl rfl rfl rfl (shOk_key (by omega) (by omega))) ?_
          refine CallG.pure _ (c_keyOf x.1 x.2) ?_
          refine Ex.mk _ (aw_look1 (y := x) (E := E) (id := 3) rfl rfl rfl rfl (shOk_key (by omega) (by omega))) ?_
          have hd : (lookD E x).getD 0 ≤ 4 := dB x
          refine Side.mk (fits64 (by omega)) ?_
          refine If.mk (fun g3 => ?_) (fun g3 => ?_)
          ·refine ifY ?_
           have hhit : hitI (okI st a b e h0 h1 r0) E x 2 := ⟨⟨p1, p2⟩, g3⟩
           have hsk : stepI (okI st a b e h0 h1 r0) E x = some 2 := stepI_some (by omega) hhit (fun c hc => hI c (by omega))
           refine ex_app _ _ (app_turn (toA_cells _) (by omega) rfl) ?_
           refine ⟨_, _, rfl, rfl, ?_⟩
           refine ifY ?_
           refine ⟨leb rfl, leb rfl, .inl ⟨.inl rfl, _, rfl, rfl, ?_⟩⟩
           refine ⟨_, _, rfl, (fun e => by cases e), rfl, ?_⟩
           refine Side.mk (fits64 (by omega)) ?_
           have hw : wS (okI st a b e h0 h1 r0) E start (i + 1) = (l ++ [2], nxtI 2 x) := by rw [wS_next]; rw [hlx]; show (match stepI (okI st a b e h0 h1 r0) E x with | none => _ | some k => _) = _; rw [hsk]
           refine ⟨leb rfl, rfl, hi', trivial, ⟨wp rfl (ltb rfl), wp rfl (ltb rfl), wp rfl (ltb rfl), wp rfl (ltb rfl), wp rfl trivial, ⟨_, rfl, Weak.of_eq (congrArg n' (by omega)), trivial⟩, trivial⟩, ?_, ⟨⟨_, rfl, under_toA' _ _ (ltb rfl), trivial⟩, ⟨_, rfl, under_eInts _ _, trivial⟩, ⟨_, rfl, trivial⟩, ⟨_, rfl, trivial⟩, ⟨_, rfl, trivial⟩, ⟨_, rfl, trivial⟩, ⟨_, rfl, trivial⟩, ⟨_, rfl, trivial⟩, trivial⟩⟩
           show Blks _ _ (paH (kC st a b e h0 h1 r0 r1) E (wS (okI st a b e h0 h1 r0) E start (i + 1)).1 (wS (okI st a b e h0 h1 r0) E start (i + 1)).2)
           rw [hw]
           exact ⟨bk rfl rfl, bk rfl rfl, bk rfl rfl, ⟨congrArg (fun z => some (Blk.box [z] 44)) (toA_snoc _ _ _), ltb rfl⟩, bk rfl rfl, bk rfl rfl, bk rfl rfl, bk rfl rfl, bk rfl rfl, bk rfl rfl, ⟨by rw [List.length_append]; rfl, ltb rfl⟩, trivial⟩
          ·refine ifN ?_
           have hno : ¬ hitI (okI st a b e h0 h1 r0) E x 2 := fun z => g3 z.2
           refine ⟨_, _, rfl, rfl, ?_⟩
           refine ifN ?_
           refine Side.mk (by unfold fitsK; kernel_rfl) ?_
           refine ⟨leb rfl, rfl, by decide, ?_, ⟨wp rfl (ltb rfl), wp rfl (ltb rfl), wp rfl (ltb rfl), wp rfl trivial, wp rfl trivial, wp rfl trivial, ⟨_, rfl, Weak.refl _ _, ⟨trivial, trivial, trivial⟩⟩, wp rfl trivial, trivial⟩, ⟨bk rfl rfl, bk rfl rfl, bk rfl rfl, bk rfl rfl, bk rfl rfl, bk rfl rfl, bk rfl rfl, bk rfl rfl, bk rfl rfl, bk rfl rfl, bk rfl rfl, bk rfl rfl, bk rfl rfl, bk rfl rfl, bk rfl rfl, trivial⟩, ⟨⟨_, rfl, under_paB _ _ _⟩, trivial⟩⟩
           intro c hc
           rcases Nat.lt_or_ge c 2 with hck | hck
           ·exact hI c (by omega)
           ·obtain rfl : c = 2 := by omega
            exact hno
         ·refine ifN ?_
          have hno : ¬ hitI (okI st a b e h0 h1 r0) E x 2 := fun z => p2 z.1.2
          refine Side.mk (by unfold fitsK; kernel_rfl) ?_
          refine ⟨leb rfl, rfl, by decide, ?_, ⟨wp rfl (ltb rfl), wp rfl (ltb rfl), wp rfl (ltb rfl), wp rfl trivial, wp rfl trivial, wp rfl trivial, ⟨_, rfl, Weak.refl _ _, ⟨trivial, trivial, trivial⟩⟩, wp rfl trivial, trivial⟩, ⟨bk rfl rfl, bk rfl rfl, bk rfl rfl, bk rfl rfl, bk rfl rfl, bk rfl rfl, bk rfl rfl, bk rfl rfl, bk rfl rfl, bk rfl rfl, bk rfl rfl, bk rfl rfl, bk rfl rfl, bk rfl rfl, bk rfl rfl, trivial⟩, trivial⟩
          intro c hc
          rcases Nat.lt_or_ge c 2 with hck | hck
          ·exact hI c (by omega)
          ·obtain rfl : c = 2 := by omega
           exact hno
        ·refine ifN ?_
         have hno : ¬ hitI (okI st a b e h0 h1 r0) E x 2 := fun z => p1 z.1.1
         refine Side.mk (by unfold fitsK; kernel_rfl) ?_
         refine ⟨leb rfl, rfl, by decide, ?_, ⟨wp rfl (ltb rfl), wp rfl (ltb rfl), wp rfl (ltb rfl), wp rfl trivial, wp rfl trivial, wp rfl trivial, ⟨_, rfl, Weak.refl _ _, ⟨trivial, trivial, trivial⟩⟩, wp rfl trivial, trivial⟩, ⟨bk rfl rfl, bk rfl rfl, bk rfl rfl, bk rfl rfl, bk rfl rfl, bk rfl rfl, bk rfl rfl, bk rfl rfl, bk rfl rfl, bk rfl rfl, bk rfl rfl, bk rfl rfl, bk rfl rfl, bk rfl rfl, bk rfl rfl, trivial⟩, trivial⟩
         intro c hc
         rcases Nat.lt_or_ge c 2 with hck | hck
         ·exact hI c (by omega)
         ·obtain rfl : c = 2 := by omega
          exact hno
       ·refine If.mk (fun _ => ?_) (fun h => absurd (by decide) h)
        refine ifY ?_
        refine Ex.mk _ rfl ?_
        refine CallG.pure _ (c_turnJ3 hx4.2) ?_
        refine CallG.bool (c_jpose st a b (nxtI 3 x).1 (nxtI 3 x).2) (fun p1 => ?_) (fun p1 => ?_)
        ·have y4 := near p1
         refine CallG.bool (c_jfine hf hs p1) (fun p2 => ?_) (fun p2 => ?_)
         ·refine RoundG.fresh (n0 := 27) (paT (kC st a b e h0 h1 r0 r1) E l x m i .ready) rfl ?_ ?_
          ·exact ⟨bk rfl rfl, bk rfl rfl, bk rfl rfl, bk rfl rfl, bk rfl rfl, bk rfl rfl, bk rfl rfl, bk rfl rfl, bk rfl rfl, bk rfl rfl, bk rfl rfl, bk rfl rfl, bk rfl rfl, bk rfl rfl, bk rfl rfl, trivial⟩
          refine RoundG.introF (m := false) mixed rfl rfl hpar ?_
          refine ⟨rfl, _, rfl, rfl, [(10, .ptr 2 0), (11, .ptr 4 0), (14, .ptr 14 0), (15, .ptr 15 0), (16, .ptr 27 0), (17, eInts (prL (nxtI 3 x)))], paT (kC st a b e h0 h1 r0 r1) E l x m i .busy ++ [(27, .box (turnC 3) 59)], 28, rfl, ?_, ?_, ?_⟩
          ·exact ⟨⟨_, rfl, Weak.refl _ _⟩, ⟨_, rfl, Weak.refl _ _⟩, ⟨_, rfl, Weak.refl _ _⟩, ⟨_, rfl, Weak.refl _ _⟩, ⟨_, rfl, Weak.refl _ _⟩, ⟨_, rfl, Weak.refl _ _⟩, trivial⟩
          ·exact ⟨bk rfl rfl, bk rfl rfl, bk rfl rfl, bk rfl rfl, bk rfl rfl, bk rfl rfl, bk rfl rfl, bk rfl rfl, bk rfl rfl, bk rfl rfl, bk rfl rfl, bk rfl rfl, bk rfl rfl, bk rfl rfl, bk rfl rfl, bk rfl rfl, trivial⟩
          refine CallG.pure _ (c_keyOf (nxtI 3 x).1 (nxtI 3 x).2) ?_
          refine Ex.mk _ (aw_look1 (y := (nxtI 3 x)) (E := E) (id := 3) rfl rfl rfl rfl (shOk_key (by omega) (by omega))) ?_
          refine CallG.pure _ (c_keyOf x.1 x.2) ?_
          refine Ex.mk _ (aw_look1 (y := x) (E := E) (id := 3) rfl rfl rfl rfl (shOk_key (by omega) (by omega))) ?_
          have hd : (lookD E x).getD 0 ≤ 4 := dB x
          refine Side.mk (fits64 (by omega)) ?_
          refine If.mk (fun g3 => ?_) (fun g3 => ?_)
          ·refine ifY ?_
           have hhit : hitI (okI st a b e h0 h1 r0) E x 3 := ⟨⟨p1, p2⟩, g3⟩
           have hsk : stepI (okI st a b e h0 h1 r0) E x = some 3 := stepI_some (by omega) hhit (fun c hc => hI c (by omega))
           refine ex_app _ _ (app_turn (toA_cells _) (by omega) rfl) ?_
           refine ⟨_, _, rfl, rfl, ?_⟩
           refine ifY ?_
           refine ⟨leb rfl, leb rfl, .inl ⟨.inl rfl, _, rfl, rfl, ?_⟩⟩
           refine ⟨_, _, rfl, (fun e => by cases e), rfl, ?_⟩
           refine Side.mk (fits64 (by omega)) ?_
           have hw : wS (okI st a b e h0 h1 r0) E start (i + 1) = (l ++ [3], nxtI 3 x) := by rw [wS_next]; rw [hlx]; show (match stepI (okI st a b e h0 h1 r0) E x with | none => _ | some k => _) = _; rw [hsk]
           refine ⟨leb rfl, rfl, hi', trivial, ⟨wp rfl (ltb rfl), wp rfl (ltb rfl), wp rfl (ltb rfl), wp rfl (ltb rfl), wp rfl trivial, ⟨_, rfl, Weak.of_eq (congrArg n' (by omega)), trivial⟩, trivial⟩, ?_, ⟨⟨_, rfl, under_toA' _ _ (ltb rfl), trivial⟩, ⟨_, rfl, under_eInts _ _, trivial⟩, ⟨_, rfl, trivial⟩, ⟨_, rfl, trivial⟩, ⟨_, rfl, trivial⟩, ⟨_, rfl, trivial⟩, ⟨_, rfl, trivial⟩, ⟨_, rfl, trivial⟩, trivial⟩⟩
           show Blks _ _ (paH (kC st a b e h0 h1 r0 r1) E (wS (okI st a b e h0 h1 r0) E start (i + 1)).1 (wS (okI st a b e h0 h1 r0) E start (i + 1)).2)
           rw [hw]
           exact ⟨bk rfl rfl, bk rfl rfl, bk rfl rfl, ⟨congrArg (fun z => some (Blk.box [z] 44)) (toA_snoc _ _ _), ltb rfl⟩, bk rfl rfl, bk rfl rfl, bk rfl rfl, bk rfl rfl, bk rfl rfl, bk rfl rfl, ⟨by rw [List.length_append]; rfl, ltb rfl⟩, trivial⟩
          ·refine ifN ?_
           have hno : ¬ hitI (okI st a b e h0 h1 r0) E x 3 := fun z => g3 z.2
           refine ⟨_, _, rfl, rfl, ?_⟩
           refine ifN ?_
           refine Side.mk (by unfold fitsK; kernel_rfl) ?_
           refine ⟨leb rfl, rfl, by decide, ?_, ⟨wp rfl (ltb rfl), wp rfl (ltb rfl), wp rfl (ltb rfl), wp rfl trivial, wp rfl trivial, wp rfl trivial, ⟨_, rfl, Weak.refl _ _, ⟨trivial, trivial, trivial⟩⟩, wp rfl trivial, trivial⟩, ⟨bk rfl rfl, bk rfl rfl, bk rfl rfl, bk rfl rfl, bk rfl rfl, bk rfl rfl, bk rfl rfl, bk rfl rfl, bk rfl rfl, bk rfl rfl, bk rfl rfl, bk rfl rfl, bk rfl rfl, bk rfl rfl, bk rfl rfl, trivial⟩, ⟨⟨_, rfl, under_paB _ _ _⟩, trivial⟩⟩
           intro c hc
           rcases Nat.lt_or_ge c 3 with hck | hck
           ·exact hI c (by omega)
           ·obtain rfl : c = 3 := by omega
            exact hno
         ·refine ifN ?_
          have hno : ¬ hitI (okI st a b e h0 h1 r0) E x 3 := fun z => p2 z.1.2
          refine Side.mk (by unfold fitsK; kernel_rfl) ?_
          refine ⟨leb rfl, rfl, by decide, ?_, ⟨wp rfl (ltb rfl), wp rfl (ltb rfl), wp rfl (ltb rfl), wp rfl trivial, wp rfl trivial, wp rfl trivial, ⟨_, rfl, Weak.refl _ _, ⟨trivial, trivial, trivial⟩⟩, wp rfl trivial, trivial⟩, ⟨bk rfl rfl, bk rfl rfl, bk rfl rfl, bk rfl rfl, bk rfl rfl, bk rfl rfl, bk rfl rfl, bk rfl rfl, bk rfl rfl, bk rfl rfl, bk rfl rfl, bk rfl rfl, bk rfl rfl, bk rfl rfl, bk rfl rfl, trivial⟩, trivial⟩
          intro c hc
          rcases Nat.lt_or_ge c 3 with hck | hck
          ·exact hI c (by omega)
          ·obtain rfl : c = 3 := by omega
           exact hno
        ·refine ifN ?_
         have hno : ¬ hitI (okI st a b e h0 h1 r0) E x 3 := fun z => p1 z.1.1
         refine Side.mk (by unfold fitsK; kernel_rfl) ?_
         refine ⟨leb rfl, rfl, by decide, ?_, ⟨wp rfl (ltb rfl), wp rfl (ltb rfl), wp rfl (ltb rfl), wp rfl trivial, wp rfl trivial, wp rfl trivial, ⟨_, rfl, Weak.refl _ _, ⟨trivial, trivial, trivial⟩⟩, wp rfl trivial, trivial⟩, ⟨bk rfl rfl, bk rfl rfl, bk rfl rfl, bk rfl rfl, bk rfl rfl, bk rfl rfl, bk rfl rfl, bk rfl rfl, bk rfl rfl, bk rfl rfl, bk rfl rfl, bk rfl rfl, bk rfl rfl, bk rfl rfl, bk rfl rfl, trivial⟩, trivial⟩
         intro c hc
         rcases Nat.lt_or_ge c 3 with hck | hck
         ·exact hI c (by omega)
         ·obtain rfl : c = 3 := by omega
          exact hno
       ·refine If.mk (fun h => absurd h (by decide)) (fun _ => ?_)
        refine ifN ?_
        refine ⟨leb rfl, ?_⟩
        refine Side.mk (by unfold fitsK; kernel_rfl) ?_
        exact ⟨leb rfl, rfl, by decide, (fun c hc => hI c (by omega)), ⟨wp rfl (ltb rfl), wp rfl (ltb rfl), wp rfl (ltb rfl), wp rfl trivial, wp rfl trivial, trivial⟩, ⟨bk rfl rfl, bk rfl rfl, bk rfl rfl, bk rfl rfl, bk rfl rfl, bk rfl rfl, bk rfl rfl, bk rfl rfl, bk rfl rfl, bk rfl rfl, bk rfl rfl, bk rfl rfl, bk rfl rfl, bk rfl rfl, bk rfl rfl, trivial⟩, ⟨⟨_, rfl, under_toA _ (ltb rfl), trivial⟩, ⟨_, rfl, under_eInts _ _, trivial⟩, ⟨_, rfl, trivial⟩, ⟨_, rfl, trivial⟩, ⟨_, rfl, trivial⟩, ⟨_, rfl, trivial⟩, ⟨_, rfl, trivial⟩, ⟨_, rfl, trivial⟩, ⟨_, rfl, under_kC _ _ _ _ _ _ _ _ _⟩, ⟨_, rfl, under_eInts _ _, trivial⟩, ⟨_, rfl, trivial⟩, ⟨_, rfl, under_paB _ _ _⟩, trivial⟩⟩
     ·refine If.mk (fun h => absurd h (by decide)) (fun _ => ?_)
      refine ifN ?_
      refine ⟨leb rfl, .inl ⟨.inr rfl, _, rfl, rfl, ?_⟩⟩
      refine ⟨_, _, rfl, (fun e => by cases e), rfl, ?_⟩
      refine Side.mk (fits64 (by omega)) ?_
      have hsn : stepI (okI st a b e h0 h1 r0) E x = none := stepI_none (fun c hc => hI1 c (by omega))
      have hw : wS (okI st a b e h0 h1 r0) E start (i + 1) = (l, x) := by rw [wS_next, hlx]; show (match stepI (okI st a b e h0 h1 r0) E x with | none => _ | some k => _) = _; rw [hsn]
      refine ⟨leb rfl, rfl, hi', trivial, ⟨wp rfl (ltb rfl), wp rfl (ltb rfl), wp rfl (ltb rfl), wp rfl (ltb rfl), wp rfl trivial, ⟨_, rfl, Weak.of_eq (congrArg n' (by omega)), trivial⟩, trivial⟩, ?_, ⟨⟨_, rfl, under_toA _ (ltb rfl), trivial⟩, ⟨_, rfl, under_eInts _ _, trivial⟩, ⟨_, rfl, trivial⟩, ⟨_, rfl, trivial⟩, ⟨_, rfl, trivial⟩, ⟨_, rfl, trivial⟩, ⟨_, rfl, trivial⟩, ⟨_, rfl, trivial⟩, trivial⟩⟩
      show Blks _ _ (paH (kC st a b e h0 h1 r0 r1) E (wS (okI st a b e h0 h1 r0) E start (i + 1)).1 (wS (okI st a b e h0 h1 r0) E start (i + 1)).2)
      rw [hw]
      exact ⟨bk rfl rfl, bk rfl rfl, bk rfl rfl, bk rfl rfl, bk rfl rfl, bk rfl rfl, bk rfl rfl, bk rfl rfl, bk rfl rfl, bk rfl rfl, bk rfl rfl, trivial⟩
   ·refine ifN ?_
    obtain rfl : i = m := by omega
    refine ⟨leb rfl, .inl rfl, FinG.mk _ rfl rfl ?_⟩
    show AV.tup [AV.freeze _ (toA 21 (wS (okI st a b e h0 h1 r0) E start i).1), _] = _
    rw [freeze_turns]
    rfl
end Go.Vm
