/-
  Texts of the proof, part 12: the machine, contracts of functions, plain laws. (Own work.)
-/
import Derived.Test.YtkkpcbklhkfohaaGreatG11TopChorus
import Derived.Test.YtkkpcbklhkfohaaGreatG07TopChorus
import Derived.KernelRfl

namespace Go.Vm
inductive Edt : Nat → List Int → List Int → Prop
 | nil : Edt 0 [] []
 | keep {n : Nat} {a b : List Int} (x : Int) (h : Edt n a b) : Edt n (x :: a) (x :: b)
 | change {n : Nat} {a b : List Int} (x y : Int) (h : Edt n a b) : Edt (n + 1) (x :: a) (y :: b)
 | drop {n : Nat} {a b : List Int} (x : Int) (h : Edt n a b) : Edt (n + 1) (x :: a) b
 | add {n : Nat} {a b : List Int} (y : Int) (h : Edt n a b) : Edt (n + 1) a (y :: b)
theorem Edt.refl : ∀ a : List Int, Edt 0 a a
 | [] => .nil
 | x :: a => .keep x (Edt.refl a)
theorem Edt.symm {n : Nat} {a b : List Int} (h : Edt n a b) : Edt n b a := by
 induction h with
 | nil => exact .nil
 | keep x _ ih => exact .keep x ih
 | change x y _ ih => exact .change y x ih
 | drop x _ ih => exact .add x ih
 | add y _ ih => exact .drop y ih
theorem Edt.zero {a b : List Int} (h : Edt 0 a b) : a = b := by
 generalize hn : 0 = n at h
 induction h with
 | nil => rfl
 | keep x _ ih => rw [ih hn]
 | change x y _ _ => omega
 | drop x _ _ => omega
 | add y _ _ => omega
theorem Edt.less {n : Nat} {a c : List Int} (h : Edt n a c) : ∀ {y : Int} {b : List Int}, c = y :: b → ∃ m, m ≤ n + 1 ∧ Edt m a b := by
 induction h with
 | nil => intro y b e; cases e
 | keep x h _ => intro y b e; cases e; exact ⟨_, Nat.le_refl _, .drop x h⟩
 | change x y h _ => intro y b e; cases e; exact ⟨_, Nat.le_succ _, .drop x h⟩
 | drop x h ih =>
  intro y b e
  obtain ⟨m, hm, k⟩ := ih e
  exact ⟨m + 1, by omega, .drop x k⟩
 | add y h _ => intro z b e; cases e; exact ⟨_, by omega, h⟩
theorem Edt.trans : ∀ {b a c : List Int} {m n : Nat}, Edt m a b → Edt n b c → ∃ k, k ≤ m + n ∧ Edt k a c := by
 have key : ∀ s : Nat, ∀ {b a c : List Int} {m n : Nat}, a.length + b.length + c.length ≤ s → Edt m a b → Edt n b c → ∃ k, k ≤ m + n ∧ Edt k a c := by
  intro s
  induction s with
  | zero =>
   intro b a c m n hs h1 h2
   have ha : a = [] := List.length_eq_zero_iff.1 (by omega)
   have hc : c = [] := List.length_eq_zero_iff.1 (by omega)
   subst ha hc
   exact ⟨0, Nat.zero_le _, .nil⟩
  | succ s ih =>
   intro b a c m n hs h1 h2
   cases h1 with
   | nil => exact ⟨n, by omega, h2⟩
   | drop x h =>
    simp only [List.length_cons] at hs
    obtain ⟨k, hk, h3⟩ := ih (by omega) h h2
    exact ⟨k + 1, by omega, .drop x h3⟩
   | keep x h =>
    rename_i a1 b1
    cases h2 with
    | keep _ h2 =>
     simp only [List.length_cons] at hs
     obtain ⟨k, hk, h3⟩ := ih (by omega) h h2
     exact ⟨k, hk, .keep x h3⟩
    | change _ z h2 =>
     simp only [List.length_cons] at hs
     obtain ⟨k, hk, h3⟩ := ih (by omega) h h2
     exact ⟨k + 1, by omega, .change x z h3⟩
    | drop _ h2 =>
     simp only [List.length_cons] at hs
     obtain ⟨k, hk, h3⟩ := ih (by omega) h h2
     exact ⟨k + 1, by omega, .drop x h3⟩
    | add z h2 =>
     simp only [List.length_cons] at hs
     obtain ⟨k, hk, h3⟩ := ih (by simp only [List.length_cons]; omega) (Edt.keep x h) h2
     exact ⟨k + 1, by omega, .add z h3⟩
   | change x y h =>
    rename_i m1 a1 b1
    cases h2 with
    | keep _ h2 =>
     simp only [List.length_cons] at hs
     obtain ⟨k, hk, h3⟩ := ih (by omega) h h2
     exact ⟨k + 1, by omega, .change x y h3⟩
    | change _ z h2 =>
     simp only [List.length_cons] at hs
     obtain ⟨k, hk, h3⟩ := ih (by omega) h h2
     exact ⟨k + 1, by omega, .change x z h3⟩
    | drop _ h2 =>
     simp only [List.length_cons] at hs
     obtain ⟨k, hk, h3⟩ := ih (by omega) h h2
     exact ⟨k + 1, by omega, .drop x h3⟩
    | add z h2 =>
     simp only [List.length_cons] at hs
     obtain ⟨k, hk, h3⟩ := ih (by simp only [List.length_cons]; omega) (Edt.change x y h) h2
     exact ⟨k + 1, by omega, .add z h3⟩
   | add y h =>
    rename_i m1 b1
    cases h2 with
    | keep _ h2 =>
     simp only [List.length_cons] at hs
     obtain ⟨k, hk, h3⟩ := ih (by omega) h h2
     exact ⟨k + 1, by omega, .add y h3⟩
    | change _ z h2 =>
     simp only [List.length_cons] at hs
     obtain ⟨k, hk, h3⟩ := ih (by omega) h h2
     exact ⟨k + 1, by omega, .add z h3⟩
    | drop _ h2 =>
     simp only [List.length_cons] at hs
     obtain ⟨k, hk, h3⟩ := ih (by omega) h h2
     exact ⟨k, by omega, h3⟩
    | add z h2 =>
     simp only [List.length_cons] at hs
     obtain ⟨k, hk, h3⟩ := ih (by simp only [List.length_cons]; omega) (Edt.add y h) h2
     exact ⟨k + 1, by omega, .add z h3⟩
 intro b a c m n h1 h2
 exact key _ (Nat.le_refl _) h1 h2
def edD : List Int → List Int → Nat
 | [], b => b.length
 | a, [] => a.length
 | x :: a, y :: b => if x = y then edD a b else 1 + min (edD a b) (min (edD a (y :: b)) (edD (x :: a) b))
termination_by a b => a.length + b.length
theorem ed_nil (b : List Int) : edD [] b = b.length := by rw [edD]
theorem ed_nil2 (a : List Int) : edD a [] = a.length := by
 cases a with
 | nil => rw [edD]
 | cons x a => rw [edD]; exact fun h => by cases h
theorem ed_cons (x y : Int) (a b : List Int) : edD (x :: a) (y :: b) = if x = y then edD a b else 1 + min (edD a b) (min (edD a (y :: b)) (edD (x :: a) b)) := by
 conv => lhs; rw [edD]
theorem Edt.adds : ∀ b : List Int, Edt b.length [] b
 | [] => .nil
 | y :: b => .add y (Edt.adds b)
theorem Edt.drops (a : List Int) : Edt a.length a [] := (Edt.adds a).symm
theorem ed_is : ∀ (s : Nat) (a b : List Int), a.length + b.length ≤ s → Edt (edD a b) a b
 | _, [], b, _ => by rw [ed_nil]; exact Edt.adds b
 | _, x :: a, [], _ => by rw [ed_nil2]; exact Edt.drops _
 | 0, x :: a, y :: b, h => by simp at h
 | s + 1, x :: a, y :: b, h => by
  simp only [List.length_cons] at h
  rw [ed_cons]
  split
  ·rename_i e
   subst e
   exact .keep x (ed_is s a b (by omega))
  ·have h1 := ed_is s a b (by omega)
   have h2 := ed_is s a (y :: b) (by simp only [List.length_cons]; omega)
   have h3 := ed_is s (x :: a) b (by simp only [List.length_cons]; omega)
   rcases Nat.le_total (edD a b) (min (edD a (y :: b)) (edD (x :: a) b)) with h4 | h4
   ·rw [Nat.min_eq_left h4, Nat.add_comm]
    exact .change x y h1
   ·rw [Nat.min_eq_right h4]
    rcases Nat.le_total (edD a (y :: b)) (edD (x :: a) b) with h5 | h5
    ·rw [Nat.min_eq_left h5, Nat.add_comm]
     exact .drop x h2
    ·rw [Nat.min_eq_right h5, Nat.add_comm]
     exact .add y h3
theorem Edt.long {n : Nat} {a b : List Int} (h : Edt n a b) : b.length ≤ a.length + n ∧ a.length ≤ b.length + n := by
 induction h with
 | nil => simp
 | keep _ _ ih => simp only [List.length_cons]; omega
 | change _ _ _ ih => simp only [List.length_cons]; omega
 | drop _ _ ih => simp only [List.length_cons]; omega
 | add _ _ ih => simp only [List.length_cons]; omega
theorem ed_least : ∀ (s : Nat) {a b : List Int} {n : Nat}, a.length + b.length ≤ s → Edt n a b → edD a b ≤ n
 | s, [], b, n, _, h => by
  rw [ed_nil]
  have := h.long.1
  simp at this
  exact this
 | s, x :: a, [], n, _, h => by
  rw [ed_nil2]
  have := h.long.2
  simp at this
  exact this
 | 0, x :: a, y :: b, n, hs, _ => by simp at hs
 | s + 1, x :: a, y :: b, n, hs, h => by
  simp only [List.length_cons] at hs
  rw [ed_cons]
  have i1 : ∀ {m}, Edt m a b → edD a b ≤ m := fun h => ed_least s (by omega) h
  have i2 : ∀ {m}, Edt m a (y :: b) → edD a (y :: b) ≤ m := fun h => ed_least s (by simp only [List.length_cons]; omega) h
  have i3 : ∀ {m}, Edt m (x :: a) b → edD (x :: a) b ≤ m := fun h => ed_least s (by simp only [List.length_cons]; omega) h
  split
  ·rename_i e
   subst e
   cases h with
   | keep _ h => exact i1 h
   | change _ _ h => exact Nat.le_succ_of_le (i1 h)
   | drop _ h =>
    obtain ⟨m, hm, k⟩ := h.less rfl
    exact Nat.le_trans (i1 k) hm
   | add _ h =>
    obtain ⟨m, hm, k⟩ := h.symm.less rfl
    exact Nat.le_trans (i1 k.symm) hm
  ·rename_i hne
   cases h with
   | keep _ h => exact absurd rfl hne
   | change _ _ h =>
    have := i1 h
    have := Nat.min_le_left (edD a b) (min (edD a (y :: b)) (edD (x :: a) b))
    omega
   | drop _ h =>
    have := i2 h
    have := Nat.min_le_right (edD a b) (min (edD a (y :: b)) (edD (x :: a) b))
    have := Nat.min_le_left (edD a (y :: b)) (edD (x :: a) b)
    omega
   | add _ h =>
    have := i3 h
    have := Nat.min_le_right (edD a b) (min (edD a (y :: b)) (edD (x :: a) b))
    have := Nat.min_le_right (edD a (y :: b)) (edD (x :: a) b)
    omega
def edL (a b : List Int) : Nat := edD a.reverse b.reverse
theorem ed_tri (a b c : List Int) : edL a c ≤ edL a b + edL b c := by
 obtain ⟨k, hk, h⟩ := (ed_is _ a.reverse b.reverse (Nat.le_refl _)).trans (ed_is _ b.reverse c.reverse (Nat.le_refl _))
 exact Nat.le_trans (ed_least _ (Nat.le_refl _) h) hk
theorem ed_zero {a b : List Int} : edL a b = 0 ↔ a = b := by
 constructor
 ·intro h
  have h1 := ed_is _ a.reverse b.reverse (Nat.le_refl _)
  unfold edL at h
  rw [h] at h1
  exact List.reverse_inj.1 h1.zero
 ·rintro rfl
  exact Nat.le_zero.1 (ed_least _ (Nat.le_refl _) (Edt.refl _))
theorem ed_symm (a b : List Int) : edL a b = edL b a :=
 Nat.le_antisymm (ed_least _ (Nat.le_refl _) (ed_is _ b.reverse a.reverse (Nat.le_refl _)).symm) (ed_least _ (Nat.le_refl _) (ed_is _ a.reverse b.reverse (Nat.le_refl _)).symm)
theorem ed_snoc (a b : List Int) (x y : Int) : edL (a ++ [x]) (b ++ [y]) = if x = y then edL a b else 1 + min (edL a b) (min (edL a (b ++ [y])) (edL (a ++ [x]) b)) := by
 unfold edL
 rw [List.reverse_append, List.reverse_append]
 exact ed_cons x y a.reverse b.reverse
theorem ed_left (b : List Int) : edL [] b = b.length := by
 unfold edL
 rw [List.reverse_nil, ed_nil, List.length_reverse]
theorem ed_right (a : List Int) : edL a [] = a.length := by
 unfold edL
 rw [List.reverse_nil, ed_nil2, List.length_reverse]
end Go.Vm

namespace Go.Vm
def srchW (W : Nat) : Nat → List Int → List (List Int)
 | 0, now => [now]
 | d + 1, now => (List.range W).flatMap fun w : Nat => srchW W d (now ++ [(w : Int)])
def linesW (W : Nat) : List (List Int) := (List.range 5).flatMap fun long => srchW W long []
theorem mem_srchW {W : Nat} {l : List Int} : ∀ {d : Nat} {now : List Int}, l ∈ srchW W d now ↔ ∃ u, l = now ++ u ∧ u.length = d ∧ ∀ x ∈ u, 0 ≤ x ∧ x < W
 | 0, now => by
  unfold srchW
  rw [List.mem_singleton]
  constructor
  ·rintro rfl
   exact ⟨[], by simp, rfl, fun x hx => by cases hx⟩
  ·rintro ⟨u, e, hu, _⟩
   rw [e, List.length_eq_zero_iff.1 hu, List.append_nil]
 | d + 1, now => by
  unfold srchW
  rw [List.mem_flatMap]
  constructor
  ·rintro ⟨w, hw, h⟩
   obtain ⟨u, e, hu, hx⟩ := mem_srchW.1 h
   have hw := List.mem_range.1 hw
   refine ⟨(w : Int) :: u, by rw [e]; simp, by simp [hu], fun x hx' => ?_⟩
   rcases List.mem_cons.1 hx' with rfl | h
   ·omega
   ·exact hx x h
  ·rintro ⟨u, e, hu, hx⟩
   match u, hu with
   | x :: u, hu =>
    have h0 := hx x (by simp)
    obtain ⟨w, rfl⟩ : ∃ w : Nat, x = w := ⟨x.toNat, by omega⟩
    exact ⟨w, List.mem_range.2 (by omega), mem_srchW.2 ⟨u, by rw [e]; simp, by simpa using hu, fun y hy => hx y (by simp [hy])⟩⟩
theorem mem_linesW {W : Nat} {l : List Int} : l ∈ linesW W ↔ l.length ≤ 4 ∧ ∀ x ∈ l, 0 ≤ x ∧ x < W := by
 unfold linesW
 rw [List.mem_flatMap]
 constructor
 ·rintro ⟨d, hd, h⟩
  obtain ⟨u, e, hu, hx⟩ := mem_srchW.1 h
  have hd := List.mem_range.1 hd
  rw [List.nil_append] at e
  subst e
  exact ⟨by omega, hx⟩
 ·rintro ⟨h1, h2⟩
  exact ⟨l.length, List.mem_range.2 (by omega), mem_srchW.2 ⟨l, by simp, rfl, h2⟩⟩
theorem srchW_pre {W d : Nat} {now l : List Int} (h : l ∈ srchW W d now) : l.take now.length = now ∧ l.length = now.length + d := by
 obtain ⟨u, e, hu, _⟩ := mem_srchW.1 h
 rw [e]
 exact ⟨List.take_left' rfl, by rw [List.length_append, hu]⟩
theorem nodup_flat {α β : Type} {f : α → List β} : ∀ {l : List α}, l.Nodup → (∀ a ∈ l, (f a).Nodup) → (∀ a ∈ l, ∀ b ∈ l, a ≠ b → ∀ x, x ∈ f a → x ∉ f b) → (l.flatMap f).Nodup
 | [], _, _, _ => List.nodup_nil
 | a :: l, hl, hn, hd => by
  rw [List.flatMap_cons, List.nodup_append]
  rw [List.nodup_cons] at hl
  refine ⟨hn a (by simp), nodup_flat hl.2 (fun b hb => hn b (by simp [hb])) (fun b hb c hc => hd b (by simp [hb]) c (by simp [hc])), fun x hx y hy e => ?_⟩
  subst e
  obtain ⟨b, hb, hxb⟩ := List.mem_flatMap.1 hy
  exact hd a (by simp) b (by simp [hb]) (by rintro rfl; exact hl.1 hb) x hx hxb
theorem srchW_nodup {W : Nat} : ∀ (d : Nat) (now : List Int), (srchW W d now).Nodup
 | 0, now => by unfold srchW; simp
 | d + 1, now => by
  unfold srchW
  refine nodup_flat List.nodup_range (fun w _ => srchW_nodup d _) fun a _ b _ hab x hx hy => ?_
  have h1 := (srchW_pre hx).1
  have h2 := (srchW_pre hy).1
  simp only [List.length_append, List.length_cons, List.length_nil] at h1 h2
  rw [h1] at h2
  have := List.append_cancel_left h2
  simp at this
  omega
theorem linesW_nodup (W : Nat) : (linesW W).Nodup := by
 unfold linesW
 refine nodup_flat List.nodup_range (fun d _ => srchW_nodup d _) fun a _ b _ hab x hx hy => ?_
 have h1 := (srchW_pre hx).2
 have h2 := (srchW_pre hy).2
 omega
def fewS (o : Option (List (List Int) × Int)) (p : List Int × Int) : Option (List (List Int) × Int) := match o with
 | none => some ([p.1], p.2)
 | some q => if p.2 < q.2 then some ([p.1], p.2) else if p.2 = q.2 then some (q.1 ++ [p.1], q.2) else some q
def fewW (l : List (List Int × Int)) : Option (List (List Int) × Int) := l.foldl fewS none
theorem fewW_snoc (l : List (List Int × Int)) (p : List Int × Int) : fewW (l ++ [p]) = fewS (fewW l) p := by
 unfold fewW
 rw [List.foldl_append]
 rfl
structure FewOk (l : List (List Int × Int)) (q : List (List Int) × Int) : Prop where
 low : ∀ p ∈ l, q.2 ≤ p.2
 met : ∃ p ∈ l, p.2 = q.2
 out : q.1 = (l.filter fun p => p.2 == q.2).map (·.1)
theorem few_ok : ∀ n (l : List (List Int × Int)), l.length = n → l ≠ [] → ∃ q, fewW l = some q ∧ FewOk l q := by
 intro n
 induction n with
 | zero => intro l hl hne; exact absurd (List.length_eq_zero_iff.1 hl) hne
 | succ n ih =>
  intro l hl hne
  obtain ⟨l, p, rfl⟩ : ∃ l' p, l = l' ++ [p] := ⟨l.dropLast, l.getLast hne, (List.dropLast_concat_getLast hne).symm⟩
  rw [fewW_snoc]
  by_cases h0 : l = []
  ·subst h0
   refine ⟨([p.1], p.2), rfl, fun x hx => ?_, ⟨p, by simp, rfl⟩, by simp⟩
   simp at hx
   rw [hx]
   exact Int.le_refl _
  ·obtain ⟨q, e, hq⟩ := ih l (by simpa using hl) h0
   rw [e]
   obtain ⟨p0, hp0, e0⟩ := hq.met
   show ∃ r, (if p.2 < q.2 then some ([p.1], p.2) else if p.2 = q.2 then some (q.1 ++ [p.1], q.2) else some q) = some r ∧ _
   by_cases h1 : p.2 < q.2
   ·rw [if_pos h1]
    refine ⟨_, rfl, fun x hx => ?_, ⟨p, by simp, rfl⟩, ?_⟩
    ·rcases List.mem_append.1 hx with h | h
     ·have := hq.low x h
      show p.2 ≤ x.2
      omega
     ·simp at h
      rw [h]
      exact Int.le_refl _
    ·have hnone : l.filter (fun x => x.2 == p.2) = [] := List.filter_eq_nil_iff.2 fun x hx h => by
      have := hq.low x hx
      have := eq_of_beq h
      omega
     show [p.1] = ((l ++ [p]).filter fun x => x.2 == p.2).map (·.1)
     rw [List.filter_append, hnone]
     simp
   ·rw [if_neg h1]
    by_cases h2 : p.2 = q.2
    ·rw [if_pos h2]
     refine ⟨_, rfl, fun x hx => ?_, ⟨p0, by simp [hp0], e0⟩, ?_⟩
     ·rcases List.mem_append.1 hx with h | h
      ·exact hq.low x h
      ·simp at h
       rw [h, h2]
       exact Int.le_refl _
     ·show q.1 ++ [p.1] = ((l ++ [p]).filter fun x => x.2 == q.2).map (·.1)
      rw [List.filter_append, hq.out]
      simp [h2]
    ·rw [if_neg h2]
     refine ⟨_, rfl, fun x hx => ?_, ⟨p0, by simp [hp0], e0⟩, ?_⟩
     ·rcases List.mem_append.1 hx with h | h
      ·exact hq.low x h
      ·simp at h
       rw [h]
       omega
     ·rw [List.filter_append]
      simp [h2]
      exact hq.out
def sumE (C : List (List Int)) (l : List Int) : Nat := (C.map (edL l)).sum
def withE (C : List (List Int)) (L : List (List Int)) : List (List Int × Int) := L.map fun l => (l, (sumE C l : Nat))
theorem sumE_zero {C : List (List Int)} {l : List Int} : sumE C l = 0 ↔ ∀ c ∈ C, l = c := by
 unfold sumE
 induction C with
 | nil => simp
 | cons c C ih =>
  rw [List.map_cons, List.sum_cons]
  constructor
  ·intro h x hx
   rcases List.mem_cons.1 hx with rfl | hx
   ·exact ed_zero.1 (by omega)
   ·exact ih.1 (by omega) x hx
  ·intro h
   have h1 := ed_zero.2 (h c (by simp))
   have h2 := ih.2 fun x hx => h x (by simp [hx])
   omega
theorem filter_one {l : List (List Int)} {c : List Int} (hn : l.Nodup) (hc : c ∈ l) {p : List Int → Bool} (hp : ∀ x, p x = true ↔ x = c) : l.filter p = [c] := by
 induction l with
 | nil => cases hc
 | cons x l ih =>
  rw [List.nodup_cons] at hn
  by_cases hx : x = c
  ·subst hx
   rw [List.filter_cons_of_pos ((hp x).2 rfl)]
   rw [List.filter_eq_nil_iff.2 fun y hy h => hn.1 (by rw [(hp y).1 h] at hy; exact hy)]
  ·rw [List.filter_cons_of_neg fun h => hx ((hp x).1 h)]
   exact ih hn.2 (by rcases List.mem_cons.1 hc with h | h; exact absurd h.symm hx; exact h)
theorem few_law {W : Nat} {C : List (List Int)} (hC : ∀ c ∈ C, c ∈ linesW W) (hne : C ≠ []) {q : List (List Int) × Int} (h : FewOk (withE C (linesW W)) q) :
  (q.2 = 0 ↔ ∀ c ∈ C, ∀ d ∈ C, c = d) ∧ (q.2 = 0 → ∀ c ∈ C, q.1 = [c]) ∧ q.1 ≠ [] ∧
  ∀ a b, C = [a, b] → q.2 = (edL a b : Nat) ∧ q.1 = (linesW W).filter fun l => decide (edL a l + edL l b = edL a b) := by
 obtain ⟨c0, hc0⟩ : ∃ c, c ∈ C := by
  cases C with
  | nil => exact absurd rfl hne
  | cons c C => exact ⟨c, by simp⟩
 have hout : q.1 = (linesW W).filter fun l => decide (((sumE C l : Nat) : Int) = q.2) := by
  rw [h.out]
  unfold withE
  rw [List.filter_map, List.map_map]
  rw [show ((fun x : List Int × Int => x.1) ∘ fun l => (l, ((sumE C l : Nat) : Int))) = id from rfl, List.map_id]
  congr 1
 have hlow : ∀ l ∈ linesW W, q.2 ≤ (sumE C l : Nat) := fun l hl => h.low (l, _) (List.mem_map.2 ⟨l, hl, rfl⟩)
 obtain ⟨l0, hl0, e0⟩ : ∃ l ∈ linesW W, ((sumE C l : Nat) : Int) = q.2 := by
  obtain ⟨p, hp, e⟩ := h.met
  obtain ⟨l, hl, rfl⟩ := List.mem_map.1 hp
  exact ⟨l, hl, e⟩
 have hz : q.2 = 0 ↔ ∀ c ∈ C, ∀ d ∈ C, c = d := by
  constructor
  ·intro hq c hc d hd
   have hs := sumE_zero.1 (show sumE C l0 = 0 by omega)
   rw [← hs c hc, ← hs d hd]
  ·intro hq
   have h1 := hlow c0 (hC c0 hc0)
   have h2 := sumE_zero.2 (fun d hd => hq c0 hc0 d hd)
   omega
 refine ⟨hz, fun hq c hc => ?_, fun e => ?_, fun a b hab => ?_⟩
 ·rw [hout, hq]
  refine filter_one (linesW_nodup W) (hC c hc) fun x => ?_
  rw [decide_eq_true_iff]
  constructor
  ·intro e
   exact sumE_zero.1 (by omega) c hc
  ·rintro rfl
   have := sumE_zero.2 (fun d hd => hz.1 hq x hc d hd)
   omega
 ·rw [hout] at e
  exact List.filter_eq_nil_iff.1 e l0 hl0 (decide_eq_true e0)
 ·subst hab
  have hs : ∀ l, sumE [a, b] l = edL a l + edL l b := fun l => by
   unfold sumE
   simp only [List.map_cons, List.map_nil, List.sum_cons, List.sum_nil]
   rw [ed_symm l a]
   omega
  have h1 := hlow a (hC a (by simp))
  rw [hs, ed_zero.2 rfl] at h1
  have h2 := ed_tri a l0 b
  rw [hs] at e0
  have hq : q.2 = (edL a b : Nat) := by omega
  refine ⟨hq, ?_⟩
  rw [hout]
  refine List.filter_congr fun l _ => ?_
  rw [hs, hq]
  exact decide_eq_decide.2 (by omega)
end Go.Vm

namespace Go.Vm
open Go.Proofs Go.RowKit
def nobody (k : Int) : AV := .iface 253 (.agg [n' k])
theorem ACall.try_nobody {fv : AV} {g : FuncId} {first captured : List AV} {H H' : List Blk} {cell : AV} {k : Int} (hf : fnOf fv = some (g, first, captured)) (hc : callable Tryz.prog g = true)
  (h : ACall Tryz.prog g (first ++ captured) (H ++ [.box [.lit (.int .i64 0)] 40]) (.pan (nobody k)) H') (hb : H'[H.length]? = some (.box [cell] 40)) :
  ACall Tryz.prog 124 [fv] H (.ret (.lit (.int .i64 7))) (H'.set H.length (.box [.lit (.int .i64 7)] 40)) := by
 intro O ι w cs hR hargs
 obtain ⟨l⟩ := cs
 match l, hargs with
 | [], hargs => simp [VRels] at hargs
 | _ :: _ :: _, hargs => simp [VRels] at hargs
 | [c], hargs =>
  simp only [VRels] at hargs
  obtain ⟨F, C, rfl, h1, h2⟩ := fnOf_sound hf hargs.1
  have hev1 := Ev.alloc hR (w' := w.alloc (.cells #[.int .i64 0] 40)) (.box [.lit (.int .i64 0)] 40) 0 rfl
  have hR1 := Rel.alloc hR (w' := w.alloc (.cells #[.int .i64 0] 40)) (.box [.lit (.int .i64 0)] 40) 0 rfl ⟨#[.int .i64 0], World.alloc_heap_new _ _, by simp [VRels, VRel]⟩
  have hcall := h O _ _ (F ++ C) hR1 (by
   have := (h1.ev hev1).append (h2.ev hev1)
   simpa using this)
  refine callsIn_wide.2 (Go.Proofs.try_nobody g F C k w _ (fun w => run_callFunc hc _ w) ((callsIn_wide.1 hcall).mono ?_))
  rintro e w' ⟨ι', hend, hR', hev, hnon⟩
  cases e with
  | returned r => exact hend.elim
  | outgrown => exact hend.elim
  | panicked chain =>
   obtain ⟨pc, rfl, hpc⟩ := hend
   have hpc' : pc = .iface 253 (.agg #[.int .i64 k]) := by
    simp only [nobody, VRel, n'] at hpc
    obtain ⟨c0, rfl, l0, rfl, hl⟩ := hpc
    obtain ⟨l0⟩ := l0
    match l0, hl with
    | [], hl => simp [VRels] at hl
    | _ :: _ :: _, hl => simp [VRels] at hl
    | [x], hl => simp [VRels, VRel] at hl; rw [hl]
   subst hpc'
   have hn : notRow (H ++ [Blk.box [.lit (.int .i64 0)] 40]) H.length := ⟨.box [.lit (.int .i64 0)] 40, by simp, rfl⟩
   obtain ⟨_, e2⟩ := hev.ptr H.length hn
   obtain ⟨wm, hi⟩ := e2 w.heap.size 0 (upd_same ..)
   have hi' : ι' H.length = some (w.heap.size, wm) := hi
   obtain ⟨B, hB, hrel⟩ := hR'.blk H.length _ _ hi'
   have hB' : H'[H.length]? = some B := hB
   rw [hb] at hB'; cases hB'
   have hlt := hrel.block
   obtain ⟨D, hD, hcells⟩ := hrel
   have hD' : w'.heap[w.heap.size]? = some (.cells D 40 (0, 0)) := hD
   have hDl := hcells.length
   have hDs : D.size = 1 := by simpa using hDl.symm
   have hcell : w'.cell? ⟨w.heap.size, 0, none⟩ = some D[0] := by rw [cell_eq, hD']; simp [hDs]
   have hfr : w'.frozen? ⟨w.heap.size, 0, none⟩ = false := by simp [World.frozen?, hD']
   -- the block of the message
   have hmore : ∀ b, b < w'.heap.size → (w'.alloc (.cells #[.int .i64 k] 253)).heap[b]? = w'.heap[b]? := fun b hb => by
    simp only [World.alloc]
    rw [Array.getElem?_push, if_neg (by omega)]
   have hevm : Ev ⟨H', ι', w'⟩ ⟨H', ι', w'.alloc (.cells #[.int .i64 k] 253)⟩ := by
    have := Ev.fresh hR' (w' := w'.alloc (.cells #[.int .i64 k] 253)) (H2 := []) hmore ⟨rfl, rfl⟩
    simpa using this
   have hRm : Rel ⟨H', ι', w'.alloc (.cells #[.int .i64 k] 253)⟩ := by
    have := Rel.fresh hR' (w' := w'.alloc (.cells #[.int .i64 k] 253)) (H2 := []) hmore ⟨rfl, rfl⟩
    simpa using this
   have hDm : (w'.alloc (.cells #[.int .i64 k] 253)).heap[w.heap.size]? = some (.cells D 40 (0, 0)) := by rw [hmore _ hlt]; exact hD'
   generalize w'.alloc (.cells #[.int .i64 k] 253) = wm1 at hevm hRm hDm
   have hw : ∀ b', b' ≠ w.heap.size → (wm1.setCell ⟨w.heap.size, 0, none⟩ (.int .i64 7)).heap[b']? = wm1.heap[b']? := fun b' hne => Below.heap_setCell _ _ _ _ hne
   have hnew : (wm1.setCell ⟨w.heap.size, 0, none⟩ (.int .i64 7)).heap[w.heap.size]? = some (.cells (D.setIfInBounds 0 (.int .i64 7)) 40 (0, 0)) := by
    simp only [World.setCell]
    rw [Array.getElem?_modify]
    simp [hDm]
   have h7 : (wm1.setCell ⟨w.heap.size, 0, none⟩ (.int .i64 7)).cell? ⟨w.heap.size, 0, none⟩ = some (.int .i64 7) := by
    rw [cell_eq, hnew]; simp [hDs]
   refine ⟨_, rfl, hcell, hfr, hlt, h7, ι', by simp [EndRel, VRel], ?_⟩
   have hev3 := Ev.write hRm (w' := wm1.setCell ⟨w.heap.size, 0, none⟩ (.int .i64 7)) (B' := .box [.lit (.int .i64 7)] 40) hi' hb rfl rfl hw
   have hR3 := Rel.write hRm (w' := wm1.setCell ⟨w.heap.size, 0, none⟩ (.int .i64 7)) (B' := .box [.lit (.int .i64 7)] 40) hi' hb rfl rfl hw ⟨_, hnew, by
    have : (D.setIfInBounds 0 (.int .i64 7)).toList = [.int .i64 7] := by
     obtain ⟨dl⟩ := D
     match dl, hDs with
     | [x], _ => rfl
    rw [this]; simp [VRels, VRel]⟩
   refine ⟨hR3, ((hev1.trans hev).trans hevm).trans hev3, fun id hn0 hnone => ?_⟩
   have hn1 := (hev1.ptr id hn0).1
   have : ι' id = none := hnon id hn1 (by
    show upd ι H.length _ id = none
    rw [upd_other _ _ _ _ (by have := hn0.lt; have : id < H.length := this; omega)]; exact hnone)
   exact this
theorem CallG.inlineP {P : Program} {m : Bool} {f : FuncId} {fn : Func} {c : Code} {args : List AV} {t : Trie Blk} {n : Nat} {K Kp : AV → Trie Blk → Nat → Nat → Prop} (hm : P.follows .mixedOrders = true) (hf : P.funcs[f]? = some fn) (hb : fn.body = some c) (hn : args.length ≤ fn.ntmps)
  (h : gCode P m fn.ntmps none c (initVars 0 args) t n [] noLo fun x e lo => ((x = .ret ∨ x = .normal) ∧ ∃ vs, resT P (get e.t) e.vars fn.results.toList = some vs ∧ e.defs = [] ∧ K (resV vs) e.t e.n lo) ∨ ∃ v, x = .pan v ∧ e.defs = [] ∧ Kp v e.t e.n lo) : CallG P f args t n K Kp := by
 refine ⟨fun H hH => ?_⟩
 obtain ⟨x, e, lo, H', hH', hk', hrun, hx⟩ := gCode_spec hm c _ _ _ _ _ _ h H H hH (Keep.refl _ _)
 rcases hx with ⟨hx, vs, hres, hd, hK⟩ | ⟨v, rfl, hd, hK⟩
 ·rw [hd] at hrun
  exact .inl ⟨resV vs, e.t, e.n, lo, H', hH', ACall.intro_marks hf hb hn hrun hx List.nodup_nil (resT_sound hH' hres), hk', hK⟩
 ·exact .inr ⟨v, e.t, e.n, lo, H', hH', ACall.intro_pan hf hb hn hrun hd, hk', hK⟩
theorem CallG.try {fv : AV} {g : FuncId} {first captured : List AV} {t : Trie Blk} {n : Nat} {K Kp : AV → Trie Blk → Nat → Nat → Prop} (hf : fnOf fv = some (g, first, captured)) (hc : callable Tryz.prog g = true)
  (h : CallG Tryz.prog g (first ++ captured) (set t n (.box [.lit (.int .i64 0)] 40)) (n + 1) (fun _ t' n' lo => (∃ cell, get t' n = some (.box [cell] 40)) ∧ K (.lit (.int .i64 0)) (set t' n (.box [.lit (.int .i64 0)] 40)) n' lo)
   (fun v t' n' lo => (∃ k, v = nobody k) ∧ (∃ cell, get t' n = some (.box [cell] 40)) ∧ K (.lit (.int .i64 7)) (set t' n (.box [.lit (.int .i64 7)] 40)) n' lo)) : CallG Tryz.prog 124 [fv] t n K Kp := by
 refine .ret fun H hH => ?_
 obtain ⟨h⟩ := h
 have hl := hH.len
 have keep : ∀ {H' : List Blk} {lo : Nat} {B : Blk}, Keep (H ++ [.box [.lit (.int .i64 0)] 40]) H' lo → H'[n]? = some B → Keep H (H'.set n (.box [.lit (.int .i64 0)] 40)) lo ∧ Keep H (H'.set n (.box [.lit (.int .i64 7)] 40)) lo := fun {H' lo B} hk hB => by
  have key : ∀ C, Keep H (H'.set n C) lo := fun C => by
   refine ⟨by have := hk.le; simp at this ⊢; omega, fun id h1 h2 => ?_, fun id hid => ?_⟩
   ·rw [List.getElem?_set_ne (by omega), hk.low id h1 (by simp; omega), List.getElem?_append_left h2]
   ·have hlt := (List.getElem?_eq_some_iff.1 hid).1
    rw [List.getElem?_set_ne (by omega)]
    exact hk.marks id (keepsD_append _ _ id hid)
  exact ⟨key _, key _⟩
 rcases h _ (hH.push _) with ⟨v, t', n', lo, H', hH', hca, hk, ⟨cell, hg⟩, hK⟩ | ⟨v, t', n', lo, H', hH', hca, hk, ⟨k, rfl⟩, ⟨cell, hg⟩, hK⟩
 ·have hB := hH'.blk _ _ hg
  have hB2 := hB
  rw [← hl] at hB
  exact ⟨.lit (.int .i64 0), _, n', lo, _, hH'.set (hH'.lt hg) _, by rw [← hl]; exact ACall.try_fine hf hc hca hB, (keep hk hB2).1, hK⟩
 ·have hB := hH'.blk _ _ hg
  have hB2 := hB
  rw [← hl] at hB
  exact ⟨.lit (.int .i64 7), _, n', lo, _, hH'.set (hH'.lt hg) _, by rw [← hl]; exact ACall.try_nobody hf hc hca hB, (keep hk hB2).2, hK⟩
end Go.Vm

namespace Go.Vm
open Go.Proofs Go.RowKit
theorem RoundG.intro {P : Program} {m : Bool} {id : Nat} {args : List AV} {t : Trie Blk} {n : Nat} {K : AV → Trie Blk → Nat → Nat → Prop} {l : ALoop} (hm : P.follows .mixedOrders = true) (hl : get t id = some (.loop l)) (hlen : args.length = l.params.size) (hp : ∀ s ∈ l.params, s < l.n)
  (h : gCode P m l.n (some id) l.assign (putParams l.vars l.params.toList args) t n [] noLo fun x e lo => x = .normal ∧ ∃ l1, get e.t id = some (.loop l1) ∧ l1.state = .ready ∧
   gCode P m l.n (some id) l.body e.vars (set e.t id (.loop { l1 with state := .busy })) e.n e.defs (min lo id) fun x2 e2 lo2 => ∃ j l2, jumpOf x2 = some j ∧ get e2.t id = some (.loop l2) ∧
    K (.lit (.bool j.isNone)) (set e2.t id (.loop { l2 with state := if j.isNone then .ready else .done, pending := j })) e2.n (min lo2 id)) : RoundG P id args t n K := by
 refine ⟨fun H hH => ?_⟩
 obtain ⟨x, ⟨vars1, t1, n1, d1⟩, lo, H1, hH1, hk1, r1, rfl, l1, hl1, hst, h⟩ := gCode_spec hm _ _ _ _ _ _ _ h H H hH (Keep.refl _ _)
 have hb1 := hH1.blk _ _ hl1
 have hlt1 : id < n1 := hH1.lt hl1
 have hkset : ∀ {H2 : List Blk} {lo2 : Nat} {l3 : ALoop} {B : Blk}, Keep H H2 lo2 → H2[id]? = some (.loop l3) → Keep H (H2.set id B) (min lo2 id) := fun hk hb =>
  hk.trans (Keep.set hb (by intro e; cases e)) (Nat.min_le_left _ _) (Nat.min_le_right _ _)
 obtain ⟨x2, ⟨vars2, t2, n2, d2⟩, lo2, H2, hH2, hk2, r2, j, l2, hj, hl2, hK⟩ := gCode_spec hm _ _ _ _ _ _ _ h (H1.set id (.loop { l1 with state := .busy })) H (hH1.set hlt1 _) (hkset hk1 hb1)
 have hb2 := hH2.blk _ _ hl2
 exact ⟨_, _, _, _, _, hH2.set (hH2.lt hl2) _, ARound.intro (hH.blk _ _ hl) hlen hp r1 hb1 hst r2 hb2 hj, hkset hk2 hb2, hK⟩
theorem RangeG.outer {P : Program} {g : Operand} {ps : Array Tmp} {assign body : Code} {k : Nat} {vars : Trie AV} {t : Trie Blk} {n : Nat} {d : List Nat} {lo : Nat} {Q : CodeQ} {fv : AV} {f : FuncId} {first captured : List AV}
    (hg : evalT vars g = some fv) (hf : fnOf fv = some (f, first, captured)) (hc : callable P f = true)
    (h : CallG P f (first ++ [.yld (n + 1)] ++ captured) (set (set t n .defd) (n + 1) (.loop (loop0 ⟨k, vars, [], []⟩ ps assign body n))) (n + 2)
      (fun _ t' n' l => ∃ l' e, get t' (n + 1) = some (.loop l') ∧ l'.state ≠ .busy ∧ jumpTo l'.pending = some e ∧ Q e ⟨vars, set t' (n + 1) (.loop { l' with state := .exhausted }), n', n :: d⟩ (min lo l)) (fun _ _ _ _ => False)) :
    RangeG P none (.rangeFunc g ps assign body) k vars t n d lo Q := by
  refine ⟨fun H H0 hH hk => ?_⟩
  obtain ⟨h⟩ := h
  have hlen := hH.len
  have e0 : H ++ [Blk.defd, .loop (loop0 ⟨k, vars, [], []⟩ ps assign body n)] = (H ++ [.defd]) ++ [.loop (loop0 ⟨k, vars, [], []⟩ ps assign body n)] := by simp
  have hH2 : HT (set (set t n .defd) (n + 1) (.loop (loop0 ⟨k, vars, [], []⟩ ps assign body n))) (n + 2) (H ++ [Blk.defd, .loop (loop0 ⟨k, vars, [], []⟩ ps assign body n)]) := by
    rw [e0]; exact (hH.push _).push _
  obtain ⟨v, t', n', l, H', hH', hca, hkc, l', e, hl', hb, hj, hQ⟩ := (h _ hH2).resolve_right (fun ⟨_, _, _, _, _, _, _, _, x⟩ => x)
  have hbl := hH'.blk _ _ hl'
  have hrun := Run.rangeFunc_outer (P := P) (σ := ⟨k, vars, H, d⟩) (ps := ps) (assign := assign) (body := body) (g := g) (v := v) (H2 := H') (l' := l') (e := e) (by rw [← evalT_eq k vars H d]; exact hg) hf hc
    (by show ACall P f (first ++ [.yld (H.length + 1)] ++ captured) (H ++ [.defd, .loop (loop0 ⟨k, vars, H, d⟩ ps assign body H.length)]) (.ret v) H'
        rw [hlen]; exact hca) (by show H'[H.length + 1]? = _; rw [hlen]; exact hbl) hb (fun id hid => hkc.marks id (by rw [e0]; exact keepsD_append _ _ id hid)) hj
  have hrun' : Run P none (.rangeFunc g ps assign body) ⟨k, vars, H, d⟩ e ⟨k, vars, H'.set (n + 1) (.loop { l' with state := .exhausted }), n :: d⟩ := by
    have := hrun
    simp only [hlen] at this
    exact this
  refine ⟨e, _, _, _, hH'.set (hH'.lt hl') _, ?_, hrun', hQ⟩
  have hk2 : Keep H H' l := (Keep.append H _ l).trans hkc (Nat.le_refl _) (Nat.le_refl _)
  have hk3 : Keep H (H'.set (n + 1) (.loop { l' with state := .exhausted })) l := by
    refine ⟨by have := hk2.le; simp; omega, fun id h1 h2 => ?_, fun id hid => ?_⟩
    · rw [List.getElem?_set_ne (by omega)]; exact hk2.low id h1 h2
    · have hlt := (List.getElem?_eq_some_iff.1 hid).1
      rw [List.getElem?_set_ne (by omega)]
      exact hk2.marks id hid
  exact hk.trans hk3 (Nat.min_le_left _ _) (Nat.min_le_right _ _)
theorem CallG.inlineM {P : Program} {m : Bool} {f : FuncId} {fn : Func} {c : Code} {args : List AV} {t : Trie Blk} {n : Nat} {K Kp : AV → Trie Blk → Nat → Nat → Prop} (hm : P.follows .mixedOrders = true) (hf : P.funcs[f]? = some fn) (hb : fn.body = some c) (hn : args.length ≤ fn.ntmps)
  (h : gCode P m fn.ntmps none c (initVars 0 args) t n [] noLo fun x e lo => (x = .ret ∨ x = .normal) ∧ (e.defs.all (fun d => Nat.ble n d && Nat.blt d e.n) && nodupB e.defs) = true ∧
   ∃ vs, resT P (get (spendT e.defs e.t)) e.vars fn.results.toList = some vs ∧ K (resV vs) (spendT e.defs e.t) e.n lo) : CallG P f args t n K Kp := by
 refine .ret fun H hH => ?_
 obtain ⟨x, e, lo, H', hH', hk', hrun, hx, hd, vs, hres, hK⟩ := gCode_spec hm c _ _ _ _ _ _ h H H hH (Keep.refl _ _)
 rw [Bool.and_eq_true, List.all_eq_true] at hd
 have hdn : ∀ d ∈ e.defs, n ≤ d ∧ d < e.n := fun d hdm => by
  have := hd.1 d hdm
  rw [Bool.and_eq_true] at this
  exact ⟨Nat.le_of_ble_eq_true this.1, Nat.le_of_ble_eq_true this.2⟩
 have hs := spendT_sound e.defs hH' fun d hdm => (hdn d hdm).2
 have hl := hH.len
 have hk2 : Keep H (spend e.defs H') lo := by
  refine ⟨by rw [spend_length]; exact hk'.le, fun id a b => ?_, fun id hid => ?_⟩
  ·rw [spend_other _ _ _ fun hm => by have := (hdn id hm).1; omega]; exact hk'.low id a b
  ·have hlt := (List.getElem?_eq_some_iff.1 hid).1
   rw [spend_other _ _ _ fun hm => by have := (hdn id hm).1; omega]; exact hk'.marks id hid
 exact ⟨resV vs, _, e.n, lo, _, hs, ACall.intro_marks hf hb hn hrun hx (nodupB_sound hd.2) (resT_sound hs hres), hk2, hK⟩
end Go.Vm

namespace Go.Vm
open Go.Proofs Go.RowKit
theorem Run.fewer {P : Program} {ro : Option Nat} {c : Code} {k : Nat} {V V0 : Trie AV} {H : List Blk} {d : List Nat} {x : AExit} {σ' : St} (h : Run P ro c ⟨k, V0, H, d⟩ x σ') (hv : ∀ s v, get V0 s = some v → ∃ v1, get V s = some v1 ∧ WeakH H v1 v) : Run P ro c ⟨k, V, H, d⟩ x σ' := by
 intro O ι a w cro hro hs
 refine h O ι a w cro hro ⟨hs.rel, hs.size, fun s v hg => ?_, hs.defs⟩
 obtain ⟨v1, hg1, hw⟩ := hv s v hg
 obtain ⟨c, hc, hr⟩ := hs.vars s v1 hg1
 exact ⟨c, hc, hw O ι w c hr⟩
theorem HT.subN {t : Trie Blk} {n m : Nat} {H : List Blk} {L0 : List (Nat × Blk)} (hH : HT t n H) (h : Blks (get t) m L0) : HT (ofL L0) n H :=
 ⟨hH.len, fun _ _ hg => hH.blk _ _ (h.mem _ (get_ofL hg)).1⟩
theorem RangeG.fresh {P : Program} {ro : Option Nat} {c : Code} {k : Nat} {vars : Trie AV} {t : Trie Blk} {n n0 : Nat} {d : List Nat} {lo : Nat} {Q : CodeQ} (S : List (Nat × AV)) (T : List (Nat × Blk)) (hn : n = n0) (hS : SlotsW (get vars) t S) (hT : Blks (get t) noLo T)
  (h : RangeG P ro c k (ofL S) (ofL T) n0 d lo Q) : RangeG P ro c k vars t n d lo Q := by
 subst hn
 obtain ⟨h⟩ := h
 refine ⟨fun H H0 hH hk => ?_⟩
 obtain ⟨x, e, lo', H', h1, h2, h3, h4⟩ := h H H0 (hH.subN hT) hk
 exact ⟨x, e, lo', H', h1, h2, h3.fewer fun s v hg => by
  obtain ⟨v1, g1, g2⟩ := hS.mem _ (get_ofL hg)
  exact ⟨v1, g1, g2 _ _ hH⟩, h4⟩
theorem RangeG.ghost {P : Program} {ro : Option Nat} {c : Code} {k : Nat} {vars : Trie AV} {t : Trie Blk} {n : Nat} {d : List Nat} {lo : Nat} {Q : CodeQ} (h : RangeG P ro c k vars (set t n (.row 0)) (n + 1) d lo Q) : RangeG P ro c k vars t n d lo Q := by
 obtain ⟨h⟩ := h
 refine ⟨fun H H0 hH hk => ?_⟩
 obtain ⟨x, e, lo', H', h1, h2, h3, h4⟩ := h (H ++ [.row 0]) H0 (hH.push _) (hk.trans (Keep.append H _ lo) (Nat.le_refl _) (Nat.le_refl _))
 exact ⟨x, e, lo', H', h1, h2, h3.ghost, h4⟩
theorem Run.box {P : Program} {ro : Option Nat} {c : Code} {k : Nat} {V : Trie AV} {H : List Blk} {d : List Nat} {x : AExit} {σ' : St} {id : Nat} {cells cells' : List AV} {ty : TypeId} (hid : H[id]? = some (.box cells ty))
  (hw : ∀ (_ : Outer) ι w cs, VRels ⟨H, ι, w⟩ cells cs → VRels ⟨H, ι, w⟩ cells' cs) (h : Run P ro c ⟨k, V, H.set id (.box cells' ty), d⟩ x σ') : Run P ro c ⟨k, V, H, d⟩ x σ' := by
 intro O ι a w cro hro hs
 have hev : Ev ⟨H, ι, w⟩ ⟨H.set id (.box cells' ty), ι, w⟩ := ev_box hid
 have hR : Rel ⟨H.set id (.box cells' ty), ι, w⟩ := rel_box hs.rel hid (hw O ι w)
 have hnon : Non ⟨H, ι, w⟩ ⟨H.set id (.box cells' ty), ι, w⟩ := fun _ _ h => h
 exact wpIn_mono (h O ι a w cro (hro.ev hev) ⟨hR, hs.size, hs.vars.ev hev, hs.defs.ev hev (Keep.set (B := .box cells' ty) hid (by simp)).marks⟩) (Post.trans hev hnon)
theorem RangeG.box {P : Program} {ro : Option Nat} {c : Code} {k : Nat} {vars : Trie AV} {t : Trie Blk} {n : Nat} {d : List Nat} {lo : Nat} {Q : CodeQ} (id : Nat) {cells : List AV} (cells' : List AV) {ty : TypeId} (lo' : Nat) (hlo : lo' ≤ lo) (hlo2 : lo' ≤ id) (hg : get t id = some (.box cells ty)) (hw : Weaks' t cells cells')
  (h : RangeG P ro c k vars (set t id (.box cells' ty)) n d lo' Q) : RangeG P ro c k vars t n d lo Q := by
 obtain ⟨h⟩ := h
 refine ⟨fun H H0 hH hk => ?_⟩
 have hid := hH.blk _ _ hg
 obtain ⟨x, e, l2, H', h1, h2, h3, h4⟩ := h (H.set id (.box cells' ty)) H0 (hH.set (hH.lt hg) _) (hk.trans (Keep.set (B := .box cells' ty) hid (by simp)) hlo hlo2)
 exact ⟨x, e, l2, H', h1, h2, h3.box hid (fun O ι w => hw n H hH O ι w), h4⟩
theorem RangeG.after {P : Program} {ro : Option Nat} {c : Code} {k : Nat} {vars : Trie AV} {t : Trie Blk} {n : Nat} {d : List Nat} {lo : Nat} {Q : CodeQ}
  (h : RangeG P ro c k vars t n d lo fun x e lo' => x = .normal ∧ ∃ S T n0, e.n = n0 ∧ SlotsW (get e.vars) e.t S ∧ Blks (get e.t) noLo T ∧ Q .normal ⟨ofL S, ofL T, n0, e.defs⟩ lo') : RangeG P ro c k vars t n d lo Q := by
 obtain ⟨h⟩ := h
 refine ⟨fun H H0 hH hk => ?_⟩
 obtain ⟨x, e, lo', H', h1, h2, h3, rfl, S, T, n0, h4, h5, h6, h7⟩ := h H H0 hH hk
 subst h4
 refine ⟨.normal, ⟨ofL S, ofL T, e.n, e.defs⟩, lo', H', h1.subN h6, h2, ?_, h7⟩
 intro O ι a w cro hro hs
 refine wpIn_mono (h3 O ι a w cro hro hs) ?_
 rintro e1 a1 w1 ⟨ι1, hx, hs1, hev, hnon⟩
 refine ⟨ι1, hx, ⟨hs1.rel, hs1.size, fun s v hg => ?_, hs1.defs⟩, hev, hnon⟩
 obtain ⟨v1, hg1, hw⟩ := h5.mem _ (get_ofL hg)
 obtain ⟨c, hc, hr⟩ := hs1.vars s v1 hg1
 exact ⟨c, hc, hw _ _ h1 O ι1 w1 c hr⟩
inductive FinM (P : Program) (rs : List ResultVar) (e : ES) (v : AV) : Prop
 | mk (vs : List AV) (h : resT P (get (spendT e.defs e.t)) e.vars rs = some vs) (hd : (e.defs.all (fun d => Nat.blt d e.n) && nodupB e.defs) = true) (hv : (resV vs).freeze (get (spendT e.defs e.t)) = v)
theorem fn_ruleM {P : Program} {m : Bool} {f : FuncId} {fn : Func} {c : Code} {args : List AV} {v : AV} (hm : P.follows .mixedOrders = true) (hf : P.funcs[f]? = some fn) (hb : fn.body = some c) (hn : args.length ≤ fn.ntmps)
  (ha : AV.unders 0 args) (hv : v.under 0)
  (h : gCode P m fn.ntmps none c (initVars 0 args) .nil 0 [] noLo fun x e _ => (x = .ret ∨ x = .normal) ∧ FinM P fn.results.toList e v) (H : List Blk) : ACall P f args H (.ret v) H := by
 obtain ⟨x, e, lo, H', hH', hk', hrun, hx, vs, hres, hd, hfr⟩ := gCode_spec hm c _ _ _ _ _ _ h [] [] HT.nil (Keep.refl _ _)
 rw [Bool.and_eq_true, List.all_eq_true] at hd
 have hs := spendT_sound e.defs hH' fun d hdm => Nat.le_of_ble_eq_true (hd.1 d hdm)
 have hcr : ACall P f args [] (.ret (resV vs)) (spend e.defs H') := ACall.intro_marks hf hb hn hrun hx (nodupB_sound hd.2) (resT_sound hs hres)
 subst hfr
 exact hcr.freeze0 hs.blk ha hv H
theorem CallG.fresh {P : Program} {f : FuncId} {args : List AV} {t : Trie Blk} {n n0 : Nat} {K Kp : AV → Trie Blk → Nat → Nat → Prop} (args' : List AV) (T : List (Nat × Blk)) (hn : n = n0) (ha : Weaks args args') (hT : Blks (get t) noLo T)
  (h : CallG P f args' (ofL T) n0 K Kp) : CallG P f args t n K Kp := by
 subst hn
 obtain ⟨h⟩ := h
 refine ⟨fun H hH => ?_⟩
 rcases h H (hH.subN hT) with ⟨v, t', n', l, H', h1, h2, h3, h4⟩ | ⟨v, t', n', l, H', h1, h2, h3, h4⟩
 ·exact .inl ⟨v, t', n', l, H', h1, fun O ι w cs hR hargs => h2 O ι w cs hR (ha.rel hargs), h3, h4⟩
 ·exact .inr ⟨v, t', n', l, H', h1, fun O ι w cs hR hargs => h2 O ι w cs hR (ha.rel hargs), h3, h4⟩
def Numd : Nat → List (Nat × Blk) → Prop
 | _, [] => True
 | i, p :: l => p.1 = i ∧ Numd (i + 1) l
theorem Numd.mem : ∀ {l : List (Nat × Blk)} {i : Nat}, Numd i l → ∀ p ∈ l, i ≤ p.1 ∧ (l.map (·.2))[p.1 - i]? = some p.2
 | [], _, _, _, hp => by cases hp
 | q :: l, i, h, p, hp => by
  rcases List.mem_cons.1 hp with rfl | hp
  ·refine ⟨by have := h.1; omega, ?_⟩
   rw [h.1, Nat.sub_self]; rfl
  ·obtain ⟨h1, h2⟩ := Numd.mem h.2 p hp
   refine ⟨by omega, ?_⟩
   rw [show p.1 - i = (p.1 - (i + 1)) + 1 by omega, List.map_cons, List.getElem?_cons_succ]
   exact h2
theorem Numd.at : ∀ {l : List (Nat × Blk)} {i : Nat}, Numd i l → ∀ j, j < l.length → ∃ p ∈ l, p.1 = i + j ∧ (l.map (·.2))[j]? = some p.2
 | [], _, _, _, hj => by simp at hj
 | q :: l, i, h, 0, _ => ⟨q, List.mem_cons_self, by have := h.1; omega, rfl⟩
 | q :: l, i, h, j + 1, hj => by
  obtain ⟨p, h1, h2, h3⟩ := Numd.at h.2 j (by simpa using hj)
  exact ⟨p, List.mem_cons_of_mem _ h1, by omega, by rw [List.map_cons, List.getElem?_cons_succ]; exact h3⟩
abbrev hp (l : List (Nat × Blk)) : List Blk := l.map (·.2)
theorem HT.full {l : List (Nat × Blk)} (h : Numd 0 l) {p : Nat} (hl : l.length = p) : HT (ofL l) p (hp l) :=
 ⟨by simpa using hl, fun id B hg => by
  obtain ⟨_, h2⟩ := h.mem _ (get_ofL hg)
  simpa using h2⟩
theorem take_full {l : List (Nat × Blk)} {H : List Blk} (h : Numd 0 l) (hB : ∀ q ∈ l, H[q.1]? = some q.2) : H.take l.length = hp l := by
 refine List.ext_getElem? fun i => ?_
 rcases Nat.lt_or_ge i l.length with hi | hi
 ·obtain ⟨q, h1, h2, h3⟩ := h.at i hi
  rw [List.getElem?_take_of_lt hi, h3, ← hB q h1, h2, Nat.zero_add]
 ·rw [List.getElem?_eq_none (by rw [List.length_take]; omega), List.getElem?_eq_none (by simpa using hi)]
theorem fn_keep {P : Program} {m : Bool} {f : FuncId} {fn : Func} {c : Code} {args : List AV} {v : AV} {L L' : List (Nat × Blk)} {p : Nat} (hm : P.follows .mixedOrders = true) (hf : P.funcs[f]? = some fn) (hb : fn.body = some c) (hn : args.length ≤ fn.ntmps)
  (hv : v.flat = true) (hL : Numd 0 L) (hL' : Numd 0 L') (hp1 : L.length = p) (hp2 : L'.length = p) (hu' : ∀ q ∈ L', q.2.under p)
  (h : gCode P m fn.ntmps none c (initVars 0 args) (ofL L) p [] noLo fun x e _ => (x = .ret ∨ x = .normal) ∧ Blks (get e.t) noLo L' ∧ FinF P fn.results.toList e v) : ACall P f args (hp L) (.ret v) (hp L') := by
 obtain ⟨x, e, lo, H', hH', hk', hrun, hx, hB, vs, hres, hd, hfr⟩ := gCode_spec hm c _ _ _ _ _ _ h _ _ (HT.full hL hp1) (Keep.refl _ _)
 have hcr : ACall P f args (hp L) (.ret (resV vs)) H' := by
  rw [hd] at hrun
  exact ACall.intro_marks hf hb hn hrun hx List.nodup_nil (resT_sound hH' hres)
 subst hfr
 have e1 : (hp L).length = L'.length := by simp [hp1, hp2]
 have e2 : H'.take (hp L).length = hp L' := by
  rw [e1]
  exact take_full hL' fun q hq => hH'.blk _ _ (hB.mem q hq).1
 have h3 := hcr.cut (AV.flat_under _ _ hv) (by
  rw [e2]
  intro B hBm
  obtain ⟨q, hq, rfl⟩ := List.mem_map.1 hBm
  rw [e1, hp2]; exact hu' q hq)
 rw [e2] at h3
 exact h3
def MarksL : List (Nat × Blk) → List (Nat × Blk) → Prop
 | [], [] => True
 | p :: l, p' :: l' => (p.2 = .defd → p'.2 = .defd) ∧ MarksL l l'
 | _, _ => False
theorem MarksL.get : ∀ {l l' : List (Nat × Blk)}, MarksL l l' → ∀ i : Nat, (hp l)[i]? = some Blk.defd → (hp l')[i]? = some Blk.defd
 | [], [], _, i, h => by simp at h
 | p :: l, p' :: l', h, 0, e => by
  simp at e ⊢
  exact h.1 e
 | p :: l, p' :: l', h, i + 1, e => by
  simp only [hp, List.map_cons, List.getElem?_cons_succ] at e ⊢
  exact MarksL.get h.2 i e
 | [], _ :: _, h, _, _ => h.elim
 | _ :: _, [], h, _, _ => h.elim
theorem get_setL_mem {t : Trie Blk} : ∀ {l : List (Nat × Blk)} {i : Nat}, Numd i l → ∀ q ∈ l, get (setL t l) q.1 = some q.2
 | [], _, _, _, h => by cases h
 | p :: l, i, h, q, hq => by
  show get (set (setL t l) p.1 p.2) q.1 = some q.2
  rcases List.mem_cons.1 hq with rfl | hq
  ·rw [get_set_same]
  ·have h1 := (h.2.mem q hq).1
   have h2 := h.1
   rw [get_set_other _ _ _ _ (by omega)]
   exact get_setL_mem h.2 q hq
theorem MarksL.cons {p p' : Nat × Blk} {l l' : List (Nat × Blk)} (h : p.2 = .defd → p'.2 = .defd) (t : MarksL l l') : MarksL (p :: l) (p' :: l') := ⟨h, t⟩
theorem MarksL.same : ∀ l : List (Nat × Blk), MarksL l l
 | [] => trivial
 | _ :: l => ⟨fun e => e, MarksL.same l⟩
theorem CallG.pre {P : Program} {f : FuncId} {args : List AV} {t : Trie Blk} {n : Nat} {K Kp : AV → Trie Blk → Nat → Nat → Prop} (args' : List AV) (L L' : List (Nat × Blk)) (v : AV) (lo : Nat) (hw : Weaks args args') (hL : Numd 0 L) (hL' : Numd 0 L') (hl : L'.length = L.length) (hm : MarksL L L')
  (hb : Blks (get t) noLo L) (hlo : L'.take lo = L.take lo) (hua : AV.unders L.length args') (hv : v.flat = true) (hu : ∀ q ∈ L, q.2.under L.length) (hu' : ∀ q ∈ L', q.2.under L.length)
  (h : ACall P f args' (hp L) (.ret v) (hp L')) (k : K v (setL t L') n lo) : CallG P f args t n K Kp := .ret fun H hH => by
 have hlL : (hp L).length = L.length := by simp
 have hlL' : (hp L').length = L.length := by simp [hl]
 have e0 : H.take L.length = hp L := take_full hL fun q hq => hH.blk _ _ (hb.mem q hq).1
 have hle : L.length ≤ H.length := by
  have := congrArg List.length e0
  rw [List.length_take, hlL] at this
  omega
 have e : H = hp L ++ H.drop L.length := by rw [← e0, List.take_append_drop]
 have under : ∀ (M : List (Nat × Blk)), (∀ q ∈ M, q.2.under L.length) → ∀ B ∈ hp M, B.under (hp L).length := fun M hM B hB => by
  obtain ⟨q, hq, rfl⟩ := List.mem_map.1 hB
  rw [hlL]; exact hM q hq
 have hfr := h.frame (by rw [hlL, hlL']) (by rw [hlL]; exact hua) (AV.flat_under _ _ hv) (under L hu) (under L' hu') (H.drop L.length)
 rw [← e] at hfr
 have at_lt : ∀ i, i < L.length → (hp L' ++ H.drop L.length)[i]? = (hp L')[i]? := fun i hi => List.getElem?_append_left (by omega)
 have at_ge : ∀ i, L.length ≤ i → (hp L' ++ H.drop L.length)[i]? = H[i]? := fun i hi => by
  rw [List.getElem?_append_right (by omega), hlL', List.getElem?_drop]
  congr 1; omega
 refine ⟨v, setL t L', n, lo, hp L' ++ H.drop L.length, ⟨?_, fun id B hg => ?_⟩, fun O ι w cs hR hargs => hfr O ι w cs hR (hw.rel hargs), ⟨?_, fun id h1 h2 => ?_, fun id hid => ?_⟩, k⟩
 ·have := hH.len
  rw [List.length_append, hlL', List.length_drop]; omega
 ·by_cases hid : id < L.length
  ·rw [at_lt id hid]
   obtain ⟨q, q1, q2, q3⟩ := hL'.at id (by omega)
   rcases get_setL hg with h1 | h1
   ·obtain ⟨_, h2⟩ := hL'.mem _ h1
    simpa using h2
   ·rw [q3]
    have : get (setL t L') q.1 = some q.2 := get_setL_mem hL' q q1
    rw [q2, Nat.zero_add, hg] at this
    exact this.symm
  ·rw [at_ge id (by omega)]
   rcases get_setL hg with h1 | h1
   ·obtain ⟨_, h2⟩ := hL'.mem _ h1
    have := (List.getElem?_eq_some_iff.1 h2).1
    simp at this
    omega
   ·exact hH.blk _ _ h1
 ·rw [List.length_append, hlL', List.length_drop]; omega
 ·by_cases hid : id < L.length
  ·rw [at_lt id hid]
   have g1 : (hp L')[id]? = (hp L)[id]? := by
    have := congrArg (fun l => (hp l)[id]?) hlo
    simp only [hp, List.map_take] at this
    rw [List.getElem?_take_of_lt h1, List.getElem?_take_of_lt h1] at this
    exact this
   rw [g1, e, List.getElem?_append_left (by omega)]
  ·rw [at_ge id (by omega)]
 ·by_cases hlt : id < L.length
  ·rw [at_lt id hlt]
   refine hm.get id ?_
   rw [e, List.getElem?_append_left (by omega)] at hid
   exact hid
  ·rw [at_ge id (by omega)]; exact hid
noncomputable def rgn (c : Code) : Option (Array Tmp × Code × Code) :=
 Code.rec (motive := fun _ => Option (Array Tmp × Code × Code)) none (fun _ _ _ => none) (fun _ _ iha ihb => Option.rec ihb some iha) (fun _ _ _ iha ihb => Option.rec ihb some iha) (fun _ _ ih => ih) (fun _ ih => ih) (fun _ ps assign body _ _ => some (ps, assign, body)) (fun _ => none) (fun _ ih => ih) (fun _ => none)
  (fun _ => none) none (fun _ => none) c
noncomputable def lpB (fn : Func) (st : LoopState) (S : List (Nat × AV)) (d : Nat) : Blk := .loop ⟨st, none, fn.ntmps, ofL S, ((rgn (fn.body.getD .skip)).getD (#[], .skip, .skip)).1, ((rgn (fn.body.getD .skip)).getD (#[], .skip, .skip)).2.1, ((rgn (fn.body.getD .skip)).getD (#[], .skip, .skip)).2.2, d⟩
def UnderS (n : Nat) : List (Nat × AV) → Prop
 | [] => True
 | p :: l => p.2.under n ∧ UnderS n l
theorem UnderS.mem {n : Nat} : ∀ {l : List (Nat × AV)}, UnderS n l → ∀ p ∈ l, p.2.under n
 | [], _, _, h => by cases h
 | q :: l, hs, p, h => by
  rcases List.mem_cons.1 h with rfl | h
  ·exact hs.1
  ·exact UnderS.mem hs.2 p h
theorem under_lpB {fn : Func} {st : LoopState} {n d : Nat} {S : List (Nat × AV)} (h : UnderS n S) (hd : d < n) : (lpB fn st S d).under n := ⟨fun _ _ hg => h.mem _ (get_ofL hg), hd⟩
end Go.Vm

namespace Go.Vm
open Go.Proofs Go.RowKit
inductive Lent (id gen : Nat) (cells : List AV) : List AV → List AV → Prop
 | nil : Lent id gen cells [] []
 | same {a : AV} {l l' : List AV} (t : Lent id gen cells l l') : Lent id gen cells (a :: l) (a :: l')
 | this {len : Nat} {l l' : List AV} (h : len = cells.length) (t : Lent id gen cells l l') : Lent id gen cells (.msl id gen len 1 :: l) (.sl len cells .unk :: l')
end Go.Vm

namespace Go.Vm
open Go.Proofs Go.RowKit
inductive Lend (id N : Nat) (cells : List AV) : List AV → List AV → Prop
 | nil : Lend id N cells [] []
 | same {a : AV} {l l' : List AV} (h : a.under 0) (t : Lend id N cells l l') : Lend id N cells (a :: l) (a :: l')
 | this {l l' : List AV} (t : Lend id N cells l l') : Lend id N cells (.hsl id 0 N N :: l) (.sl N cells .unk :: l')
end Go.Vm

namespace Go.Vm
open Go.Proofs Go.RowKit
inductive Dry : AV → Prop
 | lit (v : Value) : Dry (.lit v)
 | tup {l : List AV} (h : ∀ a ∈ l, ∃ v, a = .lit v) : Dry (.tup l)
inductive LendM (id gen N : Nat) (cells : List AV) : List AV → List AV → Prop
 | nil : LendM id gen N cells [] []
 | same {a : AV} {l l' : List AV} (h : a.under 0) (t : LendM id gen N cells l l') : LendM id gen N cells (a :: l) (a :: l')
 | this {l l' : List AV} (t : LendM id gen N cells l l') : LendM id gen N cells (.msl id gen N 1 :: l) (.sl N cells .unk :: l')
end Go.Vm

namespace Go.Vm
def Inc : List Nat → Prop
 | a :: b :: l => a < b ∧ Inc (b :: l)
 | _ => True
end Go.Vm

namespace Go.Vm
section
variable {K : Type} {next : K → Nat → K} {done : K → Prop} {start : K} {c : Nat}
variable [DecidableEq K]
end
def stpK (key : List Nat → Nat) (s : List Nat × List (List Nat)) (m : List Nat) : List Nat × List (List Nat) := if key m ∈ s.1 then s else (s.1 ++ [key m], s.2 ++ [m])
section
variable {K : Type} (next : K → Nat → K) (done : K → Prop) (start : K) (c : Nat) (key : List Nat → Nat)
def nxO : Option K → Nat → Option K
 | none, d => some (next start d)
 | some y, d => some (next y d)
def dnO : Option K → Prop
 | none => done start
 | some y => done y
structure InvW (ks : List Nat) (lev : List (List Nat)) (n : Nat) : Prop where
 inv : ∃ met proc, InvO (nxO next start) (dnO done start) none c (lev.map fun l => (runB (nxO next start) none l, l)) met proc ∧ ∃ ls : List (List Nat), (∀ l ∈ ls, OkL c l ∧ ∃ l' d, l = l' ++ [d]) ∧ met = none :: ls.map (fun l => runB (nxO next start) none l) ∧ ks = ls.map key
 len : ∀ l ∈ lev, l.length = n ∧ OkL c l
 nodup : ks.Nodup
 few : lev.length ≤ ks.length + 1
 long : n ≤ ks.length ∨ lev = []
 keys : ∀ x ∈ ks, ∃ l, OkL c l ∧ x = key l
variable {next done start c key}
structure Adds (key : List Nat → Nat) (w : List (List Nat)) (ks : List Nat) (nx : List (List Nat)) (s : List Nat × List (List Nat)) : Prop where
 sub : ∀ m ∈ s.2, m ∈ nx ∨ m ∈ w
 nodup : ks.Nodup → s.1.Nodup
 keys : ∀ x ∈ s.1, x ∈ ks ∨ ∃ m ∈ w, x = key m
 many : s.1.length + nx.length = ks.length + s.2.length
theorem adds : ∀ (w : List (List Nat)) (ks : List Nat) (nx : List (List Nat)), Adds key w ks nx (w.foldl (stpK key) (ks, nx))
 | [], ks, nx => ⟨fun m h => .inl h, fun h => h, fun x h => .inl h, rfl⟩
 | m :: w, ks, nx => by
  rw [List.foldl_cons]
  by_cases hm : key m ∈ ks
  ·have e1 : stpK key (ks, nx) m = (ks, nx) := if_pos hm
   rw [e1]
   obtain ⟨a, b, d, e⟩ := adds w ks nx
   exact ⟨fun x hx => (a x hx).imp id fun h => by simp [h], b, fun x hx => (d x hx).imp id fun ⟨y, h1, h2⟩ => ⟨y, by simp [h1], h2⟩, e⟩
  ·have e1 : stpK key (ks, nx) m = (ks ++ [key m], nx ++ [m]) := if_neg hm
   rw [e1]
   obtain ⟨a, b, d, e⟩ := adds w (ks ++ [key m]) (nx ++ [m])
   refine ⟨fun x hx => ?_, fun h => b ?_, fun x hx => ?_, ?_⟩
   ·rcases a x hx with h | h
    ·rcases List.mem_append.1 h with h | h
     ·exact .inl h
     ·rw [List.mem_singleton] at h; subst h; exact .inr (by simp)
    ·exact .inr (by simp [h])
   ·refine List.nodup_append.2 ⟨h, by simp, fun a ha b hb hab => ?_⟩
    rw [List.mem_singleton] at hb
    subst hb hab
    exact hm ha
   ·rcases d x hx with h | ⟨y, h1, h2⟩
    ·rcases List.mem_append.1 h with h | h
     ·exact .inl h
     ·rw [List.mem_singleton] at h; exact .inr ⟨m, by simp, h⟩
    ·exact .inr ⟨y, by simp [h1], h2⟩
   ·rw [List.length_append, List.length_append] at e
    simp only [List.length_singleton] at e
    omega
end
end Go.Vm

namespace Go.Vm
open Go.Proofs
theorem RoundG.introF {P : Program} {m : Bool} {id : Nat} {args : List AV} {t : Trie Blk} {n : Nat} {K : AV → Trie Blk → Nat → Nat → Prop} {l : ALoop} (hm : P.follows .mixedOrders = true) (hl : get t id = some (.loop l)) (hlen : args.length = l.params.size) (hp : ∀ s ∈ l.params, s < l.n)
  (h : gCode P m l.n (some id) l.assign (putParams l.vars l.params.toList args) t n [] noLo fun x e lo => x = .normal ∧ ∃ l1, get e.t id = some (.loop l1) ∧ l1.state = .ready ∧ ∃ S T n1, e.n = n1 ∧ SlotsW (get e.vars) (set e.t id (.loop { l1 with state := .busy })) S ∧ Blks (get (set e.t id (.loop { l1 with state := .busy }))) noLo T ∧
   gCode P m l.n (some id) l.body (ofL S) (ofL T) n1 e.defs (min lo id) fun x2 e2 lo2 => ∃ j l2, jumpOf x2 = some j ∧ get e2.t id = some (.loop l2) ∧
    K (.lit (.bool j.isNone)) (set e2.t id (.loop { l2 with state := if j.isNone then .ready else .done, pending := j })) e2.n (min lo2 id)) : RoundG P id args t n K := by
 refine ⟨fun H hH => ?_⟩
 obtain ⟨x, ⟨vars1, t1, n1, d1⟩, lo, H1, hH1, hk1, r1, rfl, l1, hl1, hst, S, T, n2, hn, hS, hT, h⟩ := gCode_spec hm _ _ _ _ _ _ _ h H H hH (Keep.refl _ _)
 have hn : n1 = n2 := hn
 subst hn
 have hb1 := hH1.blk _ _ hl1
 have hlt1 : id < n1 := hH1.lt hl1
 have hkset : ∀ {H2 : List Blk} {lo2 : Nat} {l3 : ALoop} {B : Blk}, Keep H H2 lo2 → H2[id]? = some (.loop l3) → Keep H (H2.set id B) (min lo2 id) := fun hk hb =>
  hk.trans (Keep.set hb (by intro e; cases e)) (Nat.min_le_left _ _) (Nat.min_le_right _ _)
 have hH1b : HT (set t1 id (.loop { l1 with state := .busy })) n1 (H1.set id (.loop { l1 with state := .busy })) := hH1.set hlt1 _
 obtain ⟨x2, ⟨vars2, t2, n2, d2⟩, lo2, H2, hH2, hk2, r2, j, l2, hj, hl2, hK⟩ := gCode_spec hm _ _ _ _ _ _ _ h (H1.set id (.loop { l1 with state := .busy })) H (hH1b.subN hT) (hkset hk1 hb1)
 have hb2 := hH2.blk _ _ hl2
 have r2' := r2.fewer (V := vars1) fun s v hg => by
  obtain ⟨v1, g1, g2⟩ := hS.mem _ (get_ofL hg)
  exact ⟨v1, g1, g2 _ _ hH1b⟩
 exact ⟨_, _, _, _, _, hH2.set (hH2.lt hl2) _, ARound.intro (hH.blk _ _ hl) hlen hp r1 hb1 hst r2' hb2 hj, hkset hk2 hb2, hK⟩
end Go.Vm

namespace Go.Vm
open Go.Proofs
theorem Weaks.row [O : Outer] {S : Sit} {b : Nat} {l l' : List AV} (h : Weaks l l') : ∀ {o : Nat}, VRow S b o l → VRow S b o l' := by
 obtain ⟨H, ι, w⟩ := S
 induction h with
 | nil => intro o h; exact h
 | cons hv _ ih =>
  intro o h
  simp only [VRow] at h ⊢
  obtain ⟨⟨c, h1, h2⟩, h3⟩ := h
  exact ⟨⟨c, h1, hv H O ι w c h2⟩, ih h3⟩
theorem Weaks.length {l l' : List AV} (h : Weaks l l') : l.length = l'.length := by
 induction h with
 | nil => rfl
 | cons _ _ ih => simp [ih]
theorem wk_sl {H : List Blk} {n : Nat} {l l' : List AV} {tl : Tail} (h : Weaks l l') : WeakH H (.sl n l tl) (.sl n l' tl) := fun _ ι w c x => by
 simp only [VRel] at x ⊢
 obtain ⟨base, cap, hc, hle, hr, ht⟩ := x
 refine ⟨base, cap, hc, hle, ?_, by rw [← h.length]; exact ht⟩
 rcases hr with rfl | ⟨b, o, h1, h2, h3⟩
 ·cases h; exact .inl rfl
 ·exact .inr ⟨b, o, h1, by rw [← h.length]; exact h2, h.row h3⟩
end Go.Vm

namespace Go.Vm
open Go.Proofs
section
variable (al : Nat → Nat → Bool)
def plcB : List Nat → Nat → Option Nat
 | [], _ => none
 | x :: l, n => if al x n = true then some 0 else (plcB l n).map (· + 1)
def insB (S : List Nat) (n : Nat) : List Nat := if (plcB al S n).isSome then S else S ++ [n]
variable (v : Vers) (K : Nat)
def nxS (a c : Nat) : Nat := (mv v a c).1.toNat
def rowF (S : List Nat) (i : Nat) : Nat → List Nat
 | 0 => S
 | c + 1 => insB al (rowF S i c) (nxS v (S.getD i 0) c)
def stF : Nat → List Nat
 | 0 => [0]
 | i + 1 => rowF al v (stF i) i K
structure Exit (N : Nat) : Prop where
 on : ∀ i, i < N → i < (stF al v K i).length
 off : (stF al v K N).length ≤ N
end
section
variable {al : Nat → Nat → Bool}
variable {v : Vers} {K : Nat}
variable (hnx : ∀ x, x < v.length → ∀ c, c < K → nxS v x c < v.length)
include hnx
omit hnx
end
end Go.Vm

namespace Go.Vm
open Go.Proofs
def bV : AV := (.agg [n' 2, n' 3, (.sl 4 [(.sl 2 [(.sl 2 [n' 1, n' 0, n' 0, n' 1] .unk), (.sl 2 [n' 0, n' 2, n' 1, n' 1] .unk)] .full), (.sl 2 [(.sl 2 [n' 1, n' 0, n' 0, n' 1] .unk), (.sl 2 [n' 0, n' 2, n' 0, n' 1] .unk)] .full), (.sl 1 [(.sl 2 [n' 0, n' 0, n' 0, n' 1] .unk)] .full), (.sl 2 [(.sl 2 [n' 0, n' 1, n' 1, n' 1] .unk), (.sl 2 [n' 1, n' 0, n' 1, n' 1] .unk)] .full)] .full)])
end Go.Vm
