/-
  Texts of the proof, part 12: the machine, contracts of functions, plain laws. (Own work.)
-/
import Derived.Test.YtkkpcbklhkfohaaGreatG11TopMeasures
import Derived.Test.YtkkpcbklhkfohaaGreatG07TopMeasures
import Derived.KernelRfl

namespace Go.Vm
def Lx : List Nat → List Nat → Prop
 | a :: l, b :: m => a < b ∨ a = b ∧ Lx l m
 | _, _ => False
def LL (a b : List Nat) : Prop := a.length < b.length ∨ a.length = b.length ∧ Lx a b
def LE (a b : List Nat) : Prop := LL a b ∨ a = b
theorem Lx.trans : ∀ {a b c : List Nat}, Lx a b → Lx b c → Lx a c
 | a :: l, b :: m, c :: k, h, h' => by
  have h : a < b ∨ a = b ∧ Lx l m := h
  have h' : b < c ∨ b = c ∧ Lx m k := h'
  show a < c ∨ a = c ∧ Lx l k
  rcases h with h | ⟨h, h2⟩ <;> rcases h' with h' | ⟨h', h2'⟩
  ·exact .inl (by omega)
  ·exact .inl (by omega)
  ·exact .inl (by omega)
  ·exact .inr ⟨by omega, h2.trans h2'⟩
 | [], _, _, h, _ => h.elim
 | _ :: _, [], _, h, _ => h.elim
 | _ :: _, _ :: _, [], _, h => h.elim
theorem Lx.irrefl : ∀ a : List Nat, ¬ Lx a a
 | [], h => h
 | a :: l, h => by
  have h : a < a ∨ a = a ∧ Lx l l := h
  rcases h with h | ⟨_, h⟩
  ·omega
  ·exact Lx.irrefl l h
theorem LL.trans {a b c : List Nat} (h : LL a b) (h' : LL b c) : LL a c := by
 rcases h with h | ⟨h, h2⟩ <;> rcases h' with h' | ⟨h', h2'⟩
 ·exact .inl (by omega)
 ·exact .inl (by omega)
 ·exact .inl (by omega)
 ·exact .inr ⟨by omega, h2.trans h2'⟩
theorem LL.irrefl (a : List Nat) : ¬ LL a a := fun h => by
 rcases h with h | ⟨_, h⟩
 ·omega
 ·exact Lx.irrefl a h
theorem LE.trans {a b c : List Nat} (h : LE a b) (h' : LE b c) : LE a c := by
 rcases h with h | rfl
 ·rcases h' with h' | rfl
  ·exact .inl (h.trans h')
  ·exact .inl h
 ·exact h'
theorem LL.of_le {a b c : List Nat} (h : LL a b) (h' : LE b c) : LL a c := by
 rcases h' with h' | rfl
 ·exact h.trans h'
 ·exact h
theorem LE.antisymm {a b : List Nat} (h : LE a b) (h' : LE b a) : a = b := by
 rcases h with h | h
 ·exact absurd (h.of_le h') (LL.irrefl a)
 ·exact h
theorem Lx.snoc : ∀ {a b : List Nat}, Lx a b → ∀ c d, Lx (a ++ [c]) (b ++ [d])
 | a :: l, b :: m, h, c, d => by
  have h : a < b ∨ a = b ∧ Lx l m := h
  show a < b ∨ a = b ∧ Lx (l ++ [c]) (m ++ [d])
  rcases h with h | ⟨h, h2⟩
  ·exact .inl h
  ·exact .inr ⟨h, h2.snoc c d⟩
 | [], _, h, _, _ => h.elim
 | _ :: _, [], h, _, _ => h.elim
theorem Lx.last : ∀ (a : List Nat) {c d : Nat}, c < d → Lx (a ++ [c]) (a ++ [d])
 | [], _, _, h => .inl h
 | _ :: l, _, _, h => .inr ⟨rfl, Lx.last l h⟩
theorem LL.snoc {a b : List Nat} (h : LL a b) (c d : Nat) : LL (a ++ [c]) (b ++ [d]) := by
 rcases h with h | ⟨h, h2⟩
 ·exact .inl (by simp; omega)
 ·exact .inr ⟨by simp [h], h2.snoc c d⟩
theorem LL.last (a : List Nat) {c d : Nat} (h : c < d) : LL (a ++ [c]) (a ++ [d]) := .inr ⟨by simp, Lx.last a h⟩
theorem LE.snoc {a b : List Nat} (h : LE a b) {c d : Nat} (hc : c ≤ d) : LE (a ++ [c]) (b ++ [d]) := by
 rcases h with h | rfl
 ·exact .inl (h.snoc c d)
 ·rcases Nat.lt_or_ge c d with h | h
  ·exact .inl (LL.last a h)
  ·obtain rfl : c = d := by omega
   exact .inr rfl
theorem LL.longer (a : List Nat) (c : Nat) : LL a (a ++ [c]) := .inl (by simp)
theorem LE.more (a : List Nat) (d : Nat) : ∀ t : List Nat, LE (a ++ [d]) (a ++ d :: t)
 | [] => .inr rfl
 | _ :: _ => .inl (.inl (by simp))
theorem LL.nil {a : List Nat} (h : a ≠ []) : LL [] a := .inl (List.length_pos_iff.2 h)
section
variable {K : Type} (next : K → Nat → K) (done : K → Prop) (start : K) (c : Nat)
def runB (l : List Nat) : K := l.foldl next start
theorem runB_snoc (l : List Nat) (d : Nat) : runB next start (l ++ [d]) = next (runB next start l) d := by
 unfold runB
 rw [List.foldl_append]; rfl
def OkL (l : List Nat) : Prop := ∀ x ∈ l, x < c
def Least (x : K) (l : List Nat) : Prop := runB next start l = x ∧ OkL c l ∧ ∀ u, OkL c u → runB next start u = x → LE l u
structure InvO (q : List (K × List Nat)) (met : List K) (proc : K → Prop) : Prop where
 s : start ∈ met
 split : ∀ y ∈ met, proc y ∨ ∃ m, (y, m) ∈ q
 nd : ∀ y, proc y → ¬ done y
 cl : ∀ y, proc y → ∀ d, d < c → next y d ∈ met
 least : ∀ p ∈ q, Least next start c p.1 p.2
 sorted : q.Pairwise fun a b => LL a.2 b.2
 par : ∀ p ∈ q, p.2 = [] ∨ ∃ m0 c0, p.2 = m0 ++ [c0] ∧ ∀ h ∈ q.head?, LL m0 h.2
structure InvI (x : K) (l : List Nat) (r : Nat) (q : List (K × List Nat)) (met : List K) (proc : K → Prop) : Prop where
 s : start ∈ met
 split : ∀ y ∈ met, (proc y ∨ y = x) ∨ ∃ m, (y, m) ∈ q
 nd : ∀ y, proc y → ¬ done y
 ndx : ¬ done x
 cl : ∀ y, proc y → ∀ d, d < c → next y d ∈ met
 clx : ∀ d, d < r → next x d ∈ met
 leastx : Least next start c x l
 least : ∀ p ∈ q, Least next start c p.1 p.2
 sorted : q.Pairwise fun a b => LL a.2 b.2
 above : ∀ p ∈ q, LL l p.2
 par : ∀ p ∈ q, p.2 = [] ∨ ∃ m0 c0, p.2 = m0 ++ [c0] ∧ (LL m0 l ∨ m0 = l ∧ c0 < r)
variable {next done start c}
theorem InvO.begin : InvO next done start c [(start, [])] [start] fun _ => False := by
 refine ⟨by simp, fun y hy => .inr ⟨[], by simp at hy; simp [hy]⟩, fun _ h => h.elim, fun _ h => h.elim, fun p hp => ?_, List.pairwise_singleton _ _, fun p hp => ?_⟩
 ·rw [List.mem_singleton] at hp; subst hp
  refine ⟨rfl, (fun _ h => by cases h), fun u _ _ => ?_⟩
  cases u with
  | nil => exact .inr rfl
  | cons a u => exact .inl (LL.nil (by simp))
 ·rw [List.mem_singleton] at hp; subst hp; exact .inl rfl
theorem InvO.take {x : K} {l : List Nat} {q : List (K × List Nat)} {met : List K} {proc : K → Prop} (h : InvO next done start c ((x, l) :: q) met proc) (hd : ¬ done x) : InvI next done start c x l 0 q met proc := by
 have hs := List.pairwise_cons.1 h.sorted
 refine ⟨h.s, fun y hy => ?_, h.nd, hd, h.cl, (fun d hd => by omega), h.least (x, l) (by simp), fun p hp => h.least p (by simp [hp]), hs.2, fun p hp => hs.1 p hp, fun p hp => ?_⟩
 ·rcases h.split y hy with h1 | ⟨m, h1⟩
  ·exact .inl (.inl h1)
  ·rcases List.mem_cons.1 h1 with e | h1
   ·cases e; exact .inl (.inr rfl)
   ·exact .inr ⟨m, h1⟩
 ·rcases h.par p (by simp [hp]) with h1 | ⟨m0, c0, e, h1⟩
  ·exact .inl h1
  ·exact .inr ⟨m0, c0, e, .inl (h1 (x, l) (by simp))⟩
theorem InvI.old {x : K} {l : List Nat} {r : Nat} {q : List (K × List Nat)} {met : List K} {proc : K → Prop} (h : InvI next done start c x l r q met proc) (hm : next x r ∈ met) : InvI next done start c x l (r + 1) q met proc := by
 refine ⟨h.s, h.split, h.nd, h.ndx, h.cl, fun d hd => ?_, h.leastx, h.least, h.sorted, h.above, fun p hp => ?_⟩
 ·by_cases e : d = r
  ·subst e; exact hm
  ·exact h.clx d (by omega)
 ·rcases h.par p hp with h1 | ⟨m0, c0, e, h1⟩
  ·exact .inl h1
  ·exact .inr ⟨m0, c0, e, h1.imp (fun h => h) (fun h => ⟨h.1, by omega⟩)⟩
theorem leaves {met : List K} : ∀ (t u : List Nat), runB next start u ∈ met → runB next start (u ++ t) ∉ met → ∃ w d t', u ++ t = w ++ d :: t' ∧ runB next start w ∈ met ∧ next (runB next start w) d ∉ met
 | [], u, h, h' => absurd h (by rwa [List.append_nil] at h')
 | d :: t, u, h, h' => by
  by_cases hm : next (runB next start u) d ∈ met
  ·have e : u ++ d :: t = (u ++ [d]) ++ t := by simp
   rw [e] at h' ⊢
   exact leaves t (u ++ [d]) (by rw [runB_snoc]; exact hm) h'
  ·exact ⟨u, d, t, rfl, h, hm⟩
theorem InvI.new {x : K} {l : List Nat} {r : Nat} {q : List (K × List Nat)} {met : List K} {proc : K → Prop} (h : InvI next done start c x l r q met proc) (hr : r < c) (hm : next x r ∉ met) :
  InvI next done start c x l (r + 1) (q ++ [(next x r, l ++ [r])]) (met ++ [next x r]) proc := by
 obtain ⟨hx1, hx2, hx3⟩ := h.leastx
 have before : ∀ p ∈ q, LL p.2 (l ++ [r]) := fun p hp => by
  rcases h.par p hp with h1 | ⟨m0, c0, e, h1⟩
  ·rw [h1]; exact LL.nil (by simp)
  ·rw [e]
   rcases h1 with h1 | ⟨rfl, h1⟩
   ·exact h1.snoc _ _
   ·exact LL.last _ h1
 have lnew : Least next start c (next x r) (l ++ [r]) := by
  refine ⟨by rw [runB_snoc, hx1], fun y hy => ?_, fun u hu hru => ?_⟩
  ·rcases List.mem_append.1 hy with hy | hy
   ·exact hx2 y hy
   ·rw [List.mem_singleton] at hy; omega
  ·obtain ⟨w, d, t', e, hw, hd⟩ := leaves (next := next) (start := start) (met := met) u [] h.s (by rw [List.nil_append, hru]; exact hm)
   rw [List.nil_append] at e
   subst e
   have hdc : d < c := hu d (by simp)
   have hwo : OkL c w := fun y hy => hu y (by simp [hy])
   have hlw : LE l w ∧ (LL l w ∨ r ≤ d) := by
    rcases h.split _ hw with (h1 | h1) | ⟨m, h1⟩
    ·exact absurd (h.cl _ h1 d hdc) hd
    ·refine ⟨hx3 w hwo h1, .inr ?_⟩
     rcases Nat.lt_or_ge d r with h2 | h2
     ·exact absurd (by rw [h1]; exact h.clx d h2) hd
     ·exact h2
    ·have h2 := (h.least _ h1).2.2 w hwo rfl
     have h3 := (h.above _ h1).of_le h2
     exact ⟨.inl h3, .inl h3⟩
   refine LE.trans ?_ (LE.more w d t')
   rcases hlw.2 with h2 | h2
   ·exact .inl (h2.snoc _ _)
   ·exact hlw.1.snoc h2
 refine ⟨by simp [h.s], fun y hy => ?_, h.nd, h.ndx, fun y hy d hd => by simp [h.cl y hy d hd], fun d hd => ?_, h.leastx, fun p hp => ?_, ?_, fun p hp => ?_, fun p hp => ?_⟩
 ·rcases List.mem_append.1 hy with hy | hy
  ·rcases h.split y hy with h1 | ⟨m, h1⟩
   ·exact .inl h1
   ·exact .inr ⟨m, by simp [h1]⟩
  ·rw [List.mem_singleton] at hy; subst hy
   exact .inr ⟨l ++ [r], by simp⟩
 ·by_cases e : d = r
  ·subst e; simp
  ·simp [h.clx d (by omega)]
 ·rcases List.mem_append.1 hp with hp | hp
  ·exact h.least p hp
  ·rw [List.mem_singleton] at hp; subst hp; exact lnew
 ·rw [List.pairwise_append]
  refine ⟨h.sorted, List.pairwise_singleton _ _, fun a ha b hb => ?_⟩
  rw [List.mem_singleton] at hb; subst hb
  exact before a ha
 ·rcases List.mem_append.1 hp with hp | hp
  ·exact h.above p hp
  ·rw [List.mem_singleton] at hp; subst hp; exact LL.longer l r
 ·rcases List.mem_append.1 hp with hp | hp
  ·rcases h.par p hp with h1 | ⟨m0, c0, e, h1⟩
   ·exact .inl h1
   ·exact .inr ⟨m0, c0, e, h1.imp (fun h => h) (fun h => ⟨h.1, by omega⟩)⟩
  ·rw [List.mem_singleton] at hp; subst hp
   exact .inr ⟨l, r, rfl, .inr ⟨rfl, by omega⟩⟩
theorem InvI.over {x : K} {l : List Nat} {q : List (K × List Nat)} {met : List K} {proc : K → Prop} (h : InvI next done start c x l c q met proc) : InvO next done start c q met fun y => proc y ∨ y = x := by
 refine ⟨h.s, h.split, fun y hy => ?_, fun y hy d hd => ?_, h.least, h.sorted, fun p hp => ?_⟩
 ·rcases hy with hy | rfl
  ·exact h.nd y hy
  ·exact h.ndx
 ·rcases hy with hy | rfl
  ·exact h.cl y hy d hd
  ·exact h.clx d hd
 ·rcases h.par p hp with h1 | ⟨m0, c0, e, h1⟩
  ·exact .inl h1
  ·refine .inr ⟨m0, c0, e, fun k hk => ?_⟩
   have hkq : k ∈ q := List.mem_of_mem_head? hk
   have h2 := h.above k hkq
   rcases h1 with h1 | ⟨rfl, _⟩
   ·exact h1.trans h2
   ·exact h2
structure Found (next : K → Nat → K) (done : K → Prop) (start : K) (c : Nat) (o : Option (List Nat)) : Prop where
 yes : ∀ l, o = some l → OkL c l ∧ done (runB next start l) ∧ ∀ u, OkL c u → done (runB next start u) → LE l u
 no : o = none → ∀ u, OkL c u → ¬ done (runB next start u)
theorem passes {q : List (K × List Nat)} {met : List K} {proc : K → Prop} (h : InvO next done start c q met proc) : ∀ (t u : List Nat), OkL c (u ++ t) → runB next start u ∈ met → proc (runB next start (u ++ t)) ∨ ∃ p ∈ q, LE p.2 (u ++ t)
 | [], u, ho, hm => by
  rw [List.append_nil] at ho ⊢
  rcases h.split _ hm with h1 | ⟨m, h1⟩
  ·exact .inl h1
  ·exact .inr ⟨_, h1, (h.least _ h1).2.2 u ho rfl⟩
 | d :: t, u, ho, hm => by
  rcases h.split _ hm with h1 | ⟨m, h1⟩
  ·have e : u ++ d :: t = (u ++ [d]) ++ t := by simp
   have hd : d < c := ho d (by simp)
   rw [e] at ho ⊢
   exact passes h t (u ++ [d]) ho (by rw [runB_snoc]; exact h.cl _ h1 d hd)
  ·have hu : OkL c u := fun y hy => ho y (by simp [hy])
   exact .inr ⟨_, h1, LE.trans ((h.least _ h1).2.2 u hu rfl) (.inl (.inl (by simp)))⟩
theorem InvO.found {x : K} {l : List Nat} {q : List (K × List Nat)} {met : List K} {proc : K → Prop} (h : InvO next done start c ((x, l) :: q) met proc) (hd : done x) : Found next done start c (some l) := by
 refine ⟨fun l' e => ?_, (fun e => by cases e)⟩
 cases e
 obtain ⟨h1, h2, h3⟩ := h.least (x, l) (by simp)
 refine ⟨h2, by rw [h1]; exact hd, fun u hu hdu => ?_⟩
 rcases passes h u [] hu h.s with h4 | ⟨p, hp, h4⟩
 ·exact absurd hdu (h.nd _ h4)
 ·rcases List.mem_cons.1 hp with rfl | hp
  ·exact h4
  ·exact LE.trans (.inl ((List.pairwise_cons.1 h.sorted).1 p hp)) h4
theorem InvO.nothing {met : List K} {proc : K → Prop} (h : InvO next done start c [] met proc) : Found next done start c Option.none := by
 refine ⟨(fun l e => by cases e), fun _ u hu hdu => ?_⟩
 rcases passes h u [] hu h.s with h4 | ⟨p, hp, _⟩
 ·exact h.nd _ h4 hdu
 ·cases hp
end
theorem nodup_length {α : Type} [DecidableEq α] : ∀ {l U : List α}, l.Nodup → (∀ x ∈ l, x ∈ U) → l.length ≤ U.length
 | [], _, _, _ => Nat.zero_le _
 | x :: l, U, hn, hU => by
  obtain ⟨h1, h2⟩ := List.nodup_cons.1 hn
  have hx := hU x (by simp)
  have ih := nodup_length (l := l) (U := U.erase x) h2 fun y hy => by
   refine (List.mem_erase_of_ne ?_).2 (hU y (by simp [hy]))
   rintro rfl; exact h1 hy
  rw [List.length_erase_of_mem hx] at ih
  have := List.length_pos_of_mem hx
  rw [List.length_cons]; omega
end Go.Vm

namespace Go.Vm
def Inc : List Nat → Prop
 | a :: b :: l => a < b ∧ Inc (b :: l)
 | _ => True
def insI (x : Nat) : List Nat → List Nat
 | [] => [x]
 | y :: l => if x < y then x :: y :: l else if x = y then y :: l else y :: insI x l
def srtI : List Nat → List Nat
 | [] => []
 | x :: l => insI x (srtI l)
theorem ins_mem {x z : Nat} : ∀ {l : List Nat}, z ∈ insI x l ↔ z = x ∨ z ∈ l
 | [] => by simp [insI]
 | y :: l => by
  unfold insI
  split
  ·simp
  ·split
   ·rename_i e
    subst e
    simp
   ·rw [List.mem_cons, ins_mem, List.mem_cons]
    constructor
    ·rintro (h | h | h)
     ·exact .inr (.inl h)
     ·exact .inl h
     ·exact .inr (.inr h)
    ·rintro (h | h | h)
     ·exact .inr (.inl h)
     ·exact .inl h
     ·exact .inr (.inr h)
theorem srt_mem {z : Nat} : ∀ {l : List Nat}, z ∈ srtI l ↔ z ∈ l
 | [] => by simp [srtI]
 | x :: l => by rw [srtI, ins_mem, srt_mem, List.mem_cons]
theorem Inc.tail {a : Nat} {l : List Nat} (h : Inc (a :: l)) : Inc l := by
 cases l with
 | nil => trivial
 | cons b l => exact h.2
theorem Inc.head {a : Nat} : ∀ {l : List Nat}, Inc (a :: l) → ∀ z ∈ l, a < z
 | [], _, z, hz => by cases hz
 | b :: l, h, z, hz => by
  rcases List.mem_cons.1 hz with rfl | hz
  ·exact h.1
  ·exact Nat.lt_trans h.1 (Inc.head h.2 z hz)
theorem Inc.cons {a : Nat} {l : List Nat} (h : Inc l) (ha : ∀ z ∈ l, a < z) : Inc (a :: l) := by
 cases l with
 | nil => trivial
 | cons b l => exact ⟨ha b (by simp), h⟩
theorem ins_inc {x : Nat} : ∀ {l : List Nat}, Inc l → Inc (insI x l)
 | [], _ => trivial
 | y :: l, h => by
  unfold insI
  split
  ·rename_i hx
   exact ⟨hx, h⟩
  ·split
   ·exact h
   ·rename_i h1 h2
    refine (ins_inc h.tail).cons fun z hz => ?_
    rcases ins_mem.1 hz with rfl | hz
    ·omega
    ·exact h.head z hz
theorem srt_inc : ∀ l : List Nat, Inc (srtI l)
 | [] => trivial
 | _ :: l => ins_inc (srt_inc l)
theorem ins_le {x : Nat} : ∀ {l : List Nat}, Inc l → LE (insI x l) (x :: l)
 | [], _ => .inr rfl
 | y :: l, h => by
  unfold insI
  split
  ·exact .inr rfl
  ·split
   ·exact .inl (.inl (by simp))
   ·rename_i h1 h2
    have hlen : (insI x l).length ≤ l.length + 1 := by
     rcases ins_le h.tail (x := x) with h3 | h3
     ·rcases h3 with h3 | h3
      ·simp at h3; omega
      ·have := h3.1; simp at this; omega
     ·rw [h3]; simp
    rcases Nat.lt_or_ge (insI x l).length (l.length + 1) with h3 | h3
    ·exact .inl (.inl (by simp; omega))
    ·exact .inl (.inr ⟨by simp; omega, .inl (by omega)⟩)
theorem LE.consI {a b : List Nat} (h : LE a b) (x : Nat) : LE (x :: a) (x :: b) := by
 rcases h with h | rfl
 ·rcases h with h | h
  ·exact .inl (.inl (by simp; omega))
  ·exact .inl (.inr ⟨by simp [h.1], .inr ⟨rfl, h.2⟩⟩)
 ·exact .inr rfl
theorem srt_le : ∀ l : List Nat, LE (srtI l) l
 | [] => .inr rfl
 | x :: l => (ins_le (srt_inc l)).trans ((srt_le l).consI x)
theorem least_inc {c : Nat} {P : List Nat → Prop} (hP : ∀ l u, (∀ z, z ∈ l ↔ z ∈ u) → P l → P u) {l : List Nat} (h1 : OkL c l) (h2 : P l) (h3 : ∀ u, OkL c u → P u → LE l u) : Inc l := by
 have e : srtI l = l := (srt_le l).antisymm (h3 _ (fun x hx => h1 x (srt_mem.1 hx)) (hP l _ (fun z => srt_mem.symm) h2))
 rw [← e]
 exact srt_inc l
theorem least_same {c : Nat} {P : List Nat → Prop} (hP : ∀ l u, (∀ z, z ∈ l ↔ z ∈ u) → P l → P u) {l p : List Nat} (h1 : OkL c l) (h2 : P l) (h3 : ∀ u, OkL c u → P u → LE l u) (k1 : OkL c p) (k2 : P p) (k3 : ∀ u, OkL c u → Inc u → P u → LE p u) : p = l :=
 (k3 l h1 (least_inc hP h1 h2 h3) h2).antisymm (h3 p k1 k2)
end Go.Vm

namespace Go.Vm
section
variable {K : Type} {next : K → Nat → K} {done : K → Prop} {start : K} {c : Nat}
variable [DecidableEq K]
end
def stpK (key : List Nat → Nat) (s : List Nat × List (List Nat)) (m : List Nat) : List Nat × List (List Nat) := if key m ∈ s.1 then s else (s.1 ++ [key m], s.2 ++ [m])
section
variable {K : Type} (next : K → Nat → K) (done : K → Prop) (start : K) (c : Nat) (key : List Nat → Nat)
def nxO : Option K → Nat → Option K
 | none, d => some (next start d)
 | some y, d => some (next y d)
def dnO : Option K → Prop
 | none => done start
 | some y => done y
structure InvW (ks : List Nat) (lev : List (List Nat)) (n : Nat) : Prop where
 inv : ∃ met proc, InvO (nxO next start) (dnO done start) none c (lev.map fun l => (runB (nxO next start) none l, l)) met proc ∧ ∃ ls : List (List Nat), (∀ l ∈ ls, OkL c l ∧ ∃ l' d, l = l' ++ [d]) ∧ met = none :: ls.map (fun l => runB (nxO next start) none l) ∧ ks = ls.map key
 len : ∀ l ∈ lev, l.length = n ∧ OkL c l
 nodup : ks.Nodup
 few : lev.length ≤ ks.length + 1
 long : n ≤ ks.length ∨ lev = []
 keys : ∀ x ∈ ks, ∃ l, OkL c l ∧ x = key l
variable {next done start c key}
structure Adds (key : List Nat → Nat) (w : List (List Nat)) (ks : List Nat) (nx : List (List Nat)) (s : List Nat × List (List Nat)) : Prop where
 sub : ∀ m ∈ s.2, m ∈ nx ∨ m ∈ w
 nodup : ks.Nodup → s.1.Nodup
 keys : ∀ x ∈ s.1, x ∈ ks ∨ ∃ m ∈ w, x = key m
 many : s.1.length + nx.length = ks.length + s.2.length
theorem adds : ∀ (w : List (List Nat)) (ks : List Nat) (nx : List (List Nat)), Adds key w ks nx (w.foldl (stpK key) (ks, nx))
 | [], ks, nx => ⟨fun m h => .inl h, fun h => h, fun x h => .inl h, rfl⟩
 | m :: w, ks, nx => by
  rw [List.foldl_cons]
  by_cases hm : key m ∈ ks
  ·have e1 : stpK key (ks, nx) m = (ks, nx) := if_pos hm
   rw [e1]
   obtain ⟨a, b, d, e⟩ := adds w ks nx
   exact ⟨fun x hx => (a x hx).imp id fun h => by simp [h], b, fun x hx => (d x hx).imp id fun ⟨y, h1, h2⟩ => ⟨y, by simp [h1], h2⟩, e⟩
  ·have e1 : stpK key (ks, nx) m = (ks ++ [key m], nx ++ [m]) := if_neg hm
   rw [e1]
   obtain ⟨a, b, d, e⟩ := adds w (ks ++ [key m]) (nx ++ [m])
   refine ⟨fun x hx => ?_, fun h => b ?_, fun x hx => ?_, ?_⟩
   ·rcases a x hx with h | h
    ·rcases List.mem_append.1 h with h | h
     ·exact .inl h
     ·rw [List.mem_singleton] at h; subst h; exact .inr (by simp)
    ·exact .inr (by simp [h])
   ·refine List.nodup_append.2 ⟨h, by simp, fun a ha b hb hab => ?_⟩
    rw [List.mem_singleton] at hb
    subst hb hab
    exact hm ha
   ·rcases d x hx with h | ⟨y, h1, h2⟩
    ·rcases List.mem_append.1 h with h | h
     ·exact .inl h
     ·rw [List.mem_singleton] at h; exact .inr ⟨m, by simp, h⟩
    ·exact .inr ⟨y, by simp [h1], h2⟩
   ·rw [List.length_append, List.length_append] at e
    simp only [List.length_singleton] at e
    omega
end
end Go.Vm

namespace Go.Vm
open Go.Proofs Go.RowKit
theorem CallG.inlineP {P : Program} {m : Bool} {f : FuncId} {fn : Func} {c : Code} {args : List AV} {t : Trie Blk} {n : Nat} {K Kp : AV → Trie Blk → Nat → Nat → Prop} (hm : P.follows .mixedOrders = true) (hf : P.funcs[f]? = some fn) (hb : fn.body = some c) (hn : args.length ≤ fn.ntmps)
  (h : gCode P m fn.ntmps none c (initVars 0 args) t n [] noLo fun x e lo => ((x = .ret ∨ x = .normal) ∧ ∃ vs, resT P (get e.t) e.vars fn.results.toList = some vs ∧ e.defs = [] ∧ K (resV vs) e.t e.n lo) ∨ ∃ v, x = .pan v ∧ e.defs = [] ∧ Kp v e.t e.n lo) : CallG P f args t n K Kp := by
 refine ⟨fun H hH => ?_⟩
 obtain ⟨x, e, lo, H', hH', hk', hrun, hx⟩ := gCode_spec hm c _ _ _ _ _ _ h H H hH (Keep.refl _ _)
 rcases hx with ⟨hx, vs, hres, hd, hK⟩ | ⟨v, rfl, hd, hK⟩
 ·rw [hd] at hrun
  exact .inl ⟨resV vs, e.t, e.n, lo, H', hH', ACall.intro_marks hf hb hn hrun hx List.nodup_nil (resT_sound hH' hres), hk', hK⟩
 ·exact .inr ⟨v, e.t, e.n, lo, H', hH', ACall.intro_pan hf hb hn hrun hd, hk', hK⟩
end Go.Vm

namespace Go.Vm
open Go.Proofs Go.RowKit
theorem RangeG.outer {P : Program} {g : Operand} {ps : Array Tmp} {assign body : Code} {k : Nat} {vars : Trie AV} {t : Trie Blk} {n : Nat} {d : List Nat} {lo : Nat} {Q : CodeQ} {fv : AV} {f : FuncId} {first captured : List AV}
    (hg : evalT vars g = some fv) (hf : fnOf fv = some (f, first, captured)) (hc : callable P f = true)
    (h : CallG P f (first ++ [.yld (n + 1)] ++ captured) (set (set t n .defd) (n + 1) (.loop (loop0 ⟨k, vars, [], []⟩ ps assign body n))) (n + 2)
      (fun _ t' n' l => ∃ l' e, get t' (n + 1) = some (.loop l') ∧ l'.state ≠ .busy ∧ jumpTo l'.pending = some e ∧ Q e ⟨vars, set t' (n + 1) (.loop { l' with state := .exhausted }), n', n :: d⟩ (min lo l)) (fun _ _ _ _ => False)) :
    RangeG P none (.rangeFunc g ps assign body) k vars t n d lo Q := by
  refine ⟨fun H H0 hH hk => ?_⟩
  obtain ⟨h⟩ := h
  have hlen := hH.len
  have e0 : H ++ [Blk.defd, .loop (loop0 ⟨k, vars, [], []⟩ ps assign body n)] = (H ++ [.defd]) ++ [.loop (loop0 ⟨k, vars, [], []⟩ ps assign body n)] := by simp
  have hH2 : HT (set (set t n .defd) (n + 1) (.loop (loop0 ⟨k, vars, [], []⟩ ps assign body n))) (n + 2) (H ++ [Blk.defd, .loop (loop0 ⟨k, vars, [], []⟩ ps assign body n)]) := by
    rw [e0]; exact (hH.push _).push _
  obtain ⟨v, t', n', l, H', hH', hca, hkc, l', e, hl', hb, hj, hQ⟩ := (h _ hH2).resolve_right (fun ⟨_, _, _, _, _, _, _, _, x⟩ => x)
  have hbl := hH'.blk _ _ hl'
  have hrun := Run.rangeFunc_outer (P := P) (σ := ⟨k, vars, H, d⟩) (ps := ps) (assign := assign) (body := body) (g := g) (v := v) (H2 := H') (l' := l') (e := e) (by rw [← evalT_eq k vars H d]; exact hg) hf hc
    (by show ACall P f (first ++ [.yld (H.length + 1)] ++ captured) (H ++ [.defd, .loop (loop0 ⟨k, vars, H, d⟩ ps assign body H.length)]) (.ret v) H'
        rw [hlen]; exact hca) (by show H'[H.length + 1]? = _; rw [hlen]; exact hbl) hb (fun id hid => hkc.marks id (by rw [e0]; exact keepsD_append _ _ id hid)) hj
  have hrun' : Run P none (.rangeFunc g ps assign body) ⟨k, vars, H, d⟩ e ⟨k, vars, H'.set (n + 1) (.loop { l' with state := .exhausted }), n :: d⟩ := by
    have := hrun
    simp only [hlen] at this
    exact this
  refine ⟨e, _, _, _, hH'.set (hH'.lt hl') _, ?_, hrun', hQ⟩
  have hk2 : Keep H H' l := (Keep.append H _ l).trans hkc (Nat.le_refl _) (Nat.le_refl _)
  have hk3 : Keep H (H'.set (n + 1) (.loop { l' with state := .exhausted })) l := by
    refine ⟨by have := hk2.le; simp; omega, fun id h1 h2 => ?_, fun id hid => ?_⟩
    · rw [List.getElem?_set_ne (by omega)]; exact hk2.low id h1 h2
    · have hlt := (List.getElem?_eq_some_iff.1 hid).1
      rw [List.getElem?_set_ne (by omega)]
      exact hk2.marks id hid
  exact hk.trans hk3 (Nat.min_le_left _ _) (Nat.min_le_right _ _)
end Go.Vm

namespace Go.Vm
open Go.Proofs Go.RowKit
theorem Run.fewer {P : Program} {ro : Option Nat} {c : Code} {k : Nat} {V V0 : Trie AV} {H : List Blk} {d : List Nat} {x : AExit} {σ' : St} (h : Run P ro c ⟨k, V0, H, d⟩ x σ') (hv : ∀ s v, get V0 s = some v → ∃ v1, get V s = some v1 ∧ WeakH H v1 v) : Run P ro c ⟨k, V, H, d⟩ x σ' := by
 intro O ι a w cro hro hs
 refine h O ι a w cro hro ⟨hs.rel, hs.size, fun s v hg => ?_, hs.defs⟩
 obtain ⟨v1, hg1, hw⟩ := hv s v hg
 obtain ⟨c, hc, hr⟩ := hs.vars s v1 hg1
 exact ⟨c, hc, hw O ι w c hr⟩
theorem HT.subN {t : Trie Blk} {n m : Nat} {H : List Blk} {L0 : List (Nat × Blk)} (hH : HT t n H) (h : Blks (get t) m L0) : HT (ofL L0) n H :=
 ⟨hH.len, fun _ _ hg => hH.blk _ _ (h.mem _ (get_ofL hg)).1⟩
theorem RangeG.fresh {P : Program} {ro : Option Nat} {c : Code} {k : Nat} {vars : Trie AV} {t : Trie Blk} {n n0 : Nat} {d : List Nat} {lo : Nat} {Q : CodeQ} (S : List (Nat × AV)) (T : List (Nat × Blk)) (hn : n = n0) (hS : SlotsW (get vars) t S) (hT : Blks (get t) noLo T)
  (h : RangeG P ro c k (ofL S) (ofL T) n0 d lo Q) : RangeG P ro c k vars t n d lo Q := by
 subst hn
 obtain ⟨h⟩ := h
 refine ⟨fun H H0 hH hk => ?_⟩
 obtain ⟨x, e, lo', H', h1, h2, h3, h4⟩ := h H H0 (hH.subN hT) hk
 exact ⟨x, e, lo', H', h1, h2, h3.fewer fun s v hg => by
  obtain ⟨v1, g1, g2⟩ := hS.mem _ (get_ofL hg)
  exact ⟨v1, g1, g2 _ _ hH⟩, h4⟩
theorem RangeG.after {P : Program} {ro : Option Nat} {c : Code} {k : Nat} {vars : Trie AV} {t : Trie Blk} {n : Nat} {d : List Nat} {lo : Nat} {Q : CodeQ}
  (h : RangeG P ro c k vars t n d lo fun x e lo' => x = .normal ∧ ∃ S T n0, e.n = n0 ∧ SlotsW (get e.vars) e.t S ∧ Blks (get e.t) noLo T ∧ Q .normal ⟨ofL S, ofL T, n0, e.defs⟩ lo') : RangeG P ro c k vars t n d lo Q := by
 obtain ⟨h⟩ := h
 refine ⟨fun H H0 hH hk => ?_⟩
 obtain ⟨x, e, lo', H', h1, h2, h3, rfl, S, T, n0, h4, h5, h6, h7⟩ := h H H0 hH hk
 subst h4
 refine ⟨.normal, ⟨ofL S, ofL T, e.n, e.defs⟩, lo', H', h1.subN h6, h2, ?_, h7⟩
 intro O ι a w cro hro hs
 refine wpIn_mono (h3 O ι a w cro hro hs) ?_
 rintro e1 a1 w1 ⟨ι1, hx, hs1, hev, hnon⟩
 refine ⟨ι1, hx, ⟨hs1.rel, hs1.size, fun s v hg => ?_, hs1.defs⟩, hev, hnon⟩
 obtain ⟨v1, hg1, hw⟩ := h5.mem _ (get_ofL hg)
 obtain ⟨c, hc, hr⟩ := hs1.vars s v1 hg1
 exact ⟨c, hc, hw _ _ h1 O ι1 w1 c hr⟩
inductive FinM (P : Program) (rs : List ResultVar) (e : ES) (v : AV) : Prop
 | mk (vs : List AV) (h : resT P (get (spendT e.defs e.t)) e.vars rs = some vs) (hd : (e.defs.all (fun d => Nat.blt d e.n) && nodupB e.defs) = true) (hv : (resV vs).freeze (get (spendT e.defs e.t)) = v)
theorem fn_ruleM {P : Program} {m : Bool} {f : FuncId} {fn : Func} {c : Code} {args : List AV} {v : AV} (hm : P.follows .mixedOrders = true) (hf : P.funcs[f]? = some fn) (hb : fn.body = some c) (hn : args.length ≤ fn.ntmps)
  (ha : AV.unders 0 args) (hv : v.under 0)
  (h : gCode P m fn.ntmps none c (initVars 0 args) .nil 0 [] noLo fun x e _ => (x = .ret ∨ x = .normal) ∧ FinM P fn.results.toList e v) (H : List Blk) : ACall P f args H (.ret v) H := by
 obtain ⟨x, e, lo, H', hH', hk', hrun, hx, vs, hres, hd, hfr⟩ := gCode_spec hm c _ _ _ _ _ _ h [] [] HT.nil (Keep.refl _ _)
 rw [Bool.and_eq_true, List.all_eq_true] at hd
 have hs := spendT_sound e.defs hH' fun d hdm => Nat.le_of_ble_eq_true (hd.1 d hdm)
 have hcr : ACall P f args [] (.ret (resV vs)) (spend e.defs H') := ACall.intro_marks hf hb hn hrun hx (nodupB_sound hd.2) (resT_sound hs hres)
 subst hfr
 exact hcr.freeze0 hs.blk ha hv H
theorem CallG.fresh {P : Program} {f : FuncId} {args : List AV} {t : Trie Blk} {n n0 : Nat} {K Kp : AV → Trie Blk → Nat → Nat → Prop} (args' : List AV) (T : List (Nat × Blk)) (hn : n = n0) (ha : Weaks args args') (hT : Blks (get t) noLo T)
  (h : CallG P f args' (ofL T) n0 K Kp) : CallG P f args t n K Kp := by
 subst hn
 obtain ⟨h⟩ := h
 refine ⟨fun H hH => ?_⟩
 rcases h H (hH.subN hT) with ⟨v, t', n', l, H', h1, h2, h3, h4⟩ | ⟨v, t', n', l, H', h1, h2, h3, h4⟩
 ·exact .inl ⟨v, t', n', l, H', h1, fun O ι w cs hR hargs => h2 O ι w cs hR (ha.rel hargs), h3, h4⟩
 ·exact .inr ⟨v, t', n', l, H', h1, fun O ι w cs hR hargs => h2 O ι w cs hR (ha.rel hargs), h3, h4⟩
def Numd : Nat → List (Nat × Blk) → Prop
 | _, [] => True
 | i, p :: l => p.1 = i ∧ Numd (i + 1) l
theorem Numd.mem : ∀ {l : List (Nat × Blk)} {i : Nat}, Numd i l → ∀ p ∈ l, i ≤ p.1 ∧ (l.map (·.2))[p.1 - i]? = some p.2
 | [], _, _, _, hp => by cases hp
 | q :: l, i, h, p, hp => by
  rcases List.mem_cons.1 hp with rfl | hp
  ·refine ⟨by have := h.1; omega, ?_⟩
   rw [h.1, Nat.sub_self]; rfl
  ·obtain ⟨h1, h2⟩ := Numd.mem h.2 p hp
   refine ⟨by omega, ?_⟩
   rw [show p.1 - i = (p.1 - (i + 1)) + 1 by omega, List.map_cons, List.getElem?_cons_succ]
   exact h2
theorem Numd.at : ∀ {l : List (Nat × Blk)} {i : Nat}, Numd i l → ∀ j, j < l.length → ∃ p ∈ l, p.1 = i + j ∧ (l.map (·.2))[j]? = some p.2
 | [], _, _, _, hj => by simp at hj
 | q :: l, i, h, 0, _ => ⟨q, List.mem_cons_self, by have := h.1; omega, rfl⟩
 | q :: l, i, h, j + 1, hj => by
  obtain ⟨p, h1, h2, h3⟩ := Numd.at h.2 j (by simpa using hj)
  exact ⟨p, List.mem_cons_of_mem _ h1, by omega, by rw [List.map_cons, List.getElem?_cons_succ]; exact h3⟩
abbrev hp (l : List (Nat × Blk)) : List Blk := l.map (·.2)
theorem HT.full {l : List (Nat × Blk)} (h : Numd 0 l) {p : Nat} (hl : l.length = p) : HT (ofL l) p (hp l) :=
 ⟨by simpa using hl, fun id B hg => by
  obtain ⟨_, h2⟩ := h.mem _ (get_ofL hg)
  simpa using h2⟩
theorem take_full {l : List (Nat × Blk)} {H : List Blk} (h : Numd 0 l) (hB : ∀ q ∈ l, H[q.1]? = some q.2) : H.take l.length = hp l := by
 refine List.ext_getElem? fun i => ?_
 rcases Nat.lt_or_ge i l.length with hi | hi
 ·obtain ⟨q, h1, h2, h3⟩ := h.at i hi
  rw [List.getElem?_take_of_lt hi, h3, ← hB q h1, h2, Nat.zero_add]
 ·rw [List.getElem?_eq_none (by rw [List.length_take]; omega), List.getElem?_eq_none (by simpa using hi)]
theorem fn_keep {P : Program} {m : Bool} {f : FuncId} {fn : Func} {c : Code} {args : List AV} {v : AV} {L L' : List (Nat × Blk)} {p : Nat} (hm : P.follows .mixedOrders = true) (hf : P.funcs[f]? = some fn) (hb : fn.body = some c) (hn : args.length ≤ fn.ntmps)
  (hv : v.flat = true) (hL : Numd 0 L) (hL' : Numd 0 L') (hp1 : L.length = p) (hp2 : L'.length = p) (hu' : ∀ q ∈ L', q.2.under p)
  (h : gCode P m fn.ntmps none c (initVars 0 args) (ofL L) p [] noLo fun x e _ => (x = .ret ∨ x = .normal) ∧ Blks (get e.t) noLo L' ∧ FinF P fn.results.toList e v) : ACall P f args (hp L) (.ret v) (hp L') := by
 obtain ⟨x, e, lo, H', hH', hk', hrun, hx, hB, vs, hres, hd, hfr⟩ := gCode_spec hm c _ _ _ _ _ _ h _ _ (HT.full hL hp1) (Keep.refl _ _)
 have hcr : ACall P f args (hp L) (.ret (resV vs)) H' := by
  rw [hd] at hrun
  exact ACall.intro_marks hf hb hn hrun hx List.nodup_nil (resT_sound hH' hres)
 subst hfr
 have e1 : (hp L).length = L'.length := by simp [hp1, hp2]
 have e2 : H'.take (hp L).length = hp L' := by
  rw [e1]
  exact take_full hL' fun q hq => hH'.blk _ _ (hB.mem q hq).1
 have h3 := hcr.cut (AV.flat_under _ _ hv) (by
  rw [e2]
  intro B hBm
  obtain ⟨q, hq, rfl⟩ := List.mem_map.1 hBm
  rw [e1, hp2]; exact hu' q hq)
 rw [e2] at h3
 exact h3
def MarksL : List (Nat × Blk) → List (Nat × Blk) → Prop
 | [], [] => True
 | p :: l, p' :: l' => (p.2 = .defd → p'.2 = .defd) ∧ MarksL l l'
 | _, _ => False
theorem MarksL.get : ∀ {l l' : List (Nat × Blk)}, MarksL l l' → ∀ i : Nat, (hp l)[i]? = some Blk.defd → (hp l')[i]? = some Blk.defd
 | [], [], _, i, h => by simp at h
 | p :: l, p' :: l', h, 0, e => by
  simp at e ⊢
  exact h.1 e
 | p :: l, p' :: l', h, i + 1, e => by
  simp only [hp, List.map_cons, List.getElem?_cons_succ] at e ⊢
  exact MarksL.get h.2 i e
 | [], _ :: _, h, _, _ => h.elim
 | _ :: _, [], h, _, _ => h.elim
theorem get_setL_mem {t : Trie Blk} : ∀ {l : List (Nat × Blk)} {i : Nat}, Numd i l → ∀ q ∈ l, get (setL t l) q.1 = some q.2
 | [], _, _, _, h => by cases h
 | p :: l, i, h, q, hq => by
  show get (set (setL t l) p.1 p.2) q.1 = some q.2
  rcases List.mem_cons.1 hq with rfl | hq
  ·rw [get_set_same]
  ·have h1 := (h.2.mem q hq).1
   have h2 := h.1
   rw [get_set_other _ _ _ _ (by omega)]
   exact get_setL_mem h.2 q hq
theorem MarksL.nil : MarksL [] [] := trivial
theorem MarksL.cons {p p' : Nat × Blk} {l l' : List (Nat × Blk)} (h : p.2 = .defd → p'.2 = .defd) (t : MarksL l l') : MarksL (p :: l) (p' :: l') := ⟨h, t⟩
theorem CallG.pre {P : Program} {f : FuncId} {args : List AV} {t : Trie Blk} {n : Nat} {K Kp : AV → Trie Blk → Nat → Nat → Prop} (args' : List AV) (L L' : List (Nat × Blk)) (v : AV) (lo : Nat) (hw : Weaks args args') (hL : Numd 0 L) (hL' : Numd 0 L') (hl : L'.length = L.length) (hm : MarksL L L')
  (hb : Blks (get t) noLo L) (hlo : L'.take lo = L.take lo) (hua : AV.unders L.length args') (hv : v.flat = true) (hu : ∀ q ∈ L, q.2.under L.length) (hu' : ∀ q ∈ L', q.2.under L.length)
  (h : ACall P f args' (hp L) (.ret v) (hp L')) (k : K v (setL t L') n lo) : CallG P f args t n K Kp := .ret fun H hH => by
 have hlL : (hp L).length = L.length := by simp
 have hlL' : (hp L').length = L.length := by simp [hl]
 have e0 : H.take L.length = hp L := take_full hL fun q hq => hH.blk _ _ (hb.mem q hq).1
 have hle : L.length ≤ H.length := by
  have := congrArg List.length e0
  rw [List.length_take, hlL] at this
  omega
 have e : H = hp L ++ H.drop L.length := by rw [← e0, List.take_append_drop]
 have under : ∀ (M : List (Nat × Blk)), (∀ q ∈ M, q.2.under L.length) → ∀ B ∈ hp M, B.under (hp L).length := fun M hM B hB => by
  obtain ⟨q, hq, rfl⟩ := List.mem_map.1 hB
  rw [hlL]; exact hM q hq
 have hfr := h.frame (by rw [hlL, hlL']) (by rw [hlL]; exact hua) (AV.flat_under _ _ hv) (under L hu) (under L' hu') (H.drop L.length)
 rw [← e] at hfr
 have at_lt : ∀ i, i < L.length → (hp L' ++ H.drop L.length)[i]? = (hp L')[i]? := fun i hi => List.getElem?_append_left (by omega)
 have at_ge : ∀ i, L.length ≤ i → (hp L' ++ H.drop L.length)[i]? = H[i]? := fun i hi => by
  rw [List.getElem?_append_right (by omega), hlL', List.getElem?_drop]
  congr 1; omega
 refine ⟨v, setL t L', n, lo, hp L' ++ H.drop L.length, ⟨?_, fun id B hg => ?_⟩, fun O ι w cs hR hargs => hfr O ι w cs hR (hw.rel hargs), ⟨?_, fun id h1 h2 => ?_, fun id hid => ?_⟩, k⟩
 ·have := hH.len
  rw [List.length_append, hlL', List.length_drop]; omega
 ·by_cases hid : id < L.length
  ·rw [at_lt id hid]
   obtain ⟨q, q1, q2, q3⟩ := hL'.at id (by omega)
   rcases get_setL hg with h1 | h1
   ·obtain ⟨_, h2⟩ := hL'.mem _ h1
    simpa using h2
   ·rw [q3]
    have : get (setL t L') q.1 = some q.2 := get_setL_mem hL' q q1
    rw [q2, Nat.zero_add, hg] at this
    exact this.symm
  ·rw [at_ge id (by omega)]
   rcases get_setL hg with h1 | h1
   ·obtain ⟨_, h2⟩ := hL'.mem _ h1
    have := (List.getElem?_eq_some_iff.1 h2).1
    simp at this
    omega
   ·exact hH.blk _ _ h1
 ·rw [List.length_append, hlL', List.length_drop]; omega
 ·by_cases hid : id < L.length
  ·rw [at_lt id hid]
   have g1 : (hp L')[id]? = (hp L)[id]? := by
    have := congrArg (fun l => (hp l)[id]?) hlo
    simp only [hp, List.map_take] at this
    rw [List.getElem?_take_of_lt h1, List.getElem?_take_of_lt h1] at this
    exact this
   rw [g1, e, List.getElem?_append_left (by omega)]
  ·rw [at_ge id (by omega)]
 ·by_cases hlt : id < L.length
  ·rw [at_lt id hlt]
   refine hm.get id ?_
   rw [e, List.getElem?_append_left (by omega)] at hid
   exact hid
  ·rw [at_ge id (by omega)]; exact hid
noncomputable def rgn (c : Code) : Option (Array Tmp × Code × Code) :=
 Code.rec (motive := fun _ => Option (Array Tmp × Code × Code)) none (fun _ _ _ => none) (fun _ _ iha ihb => Option.rec ihb some iha) (fun _ _ _ iha ihb => Option.rec ihb some iha) (fun _ _ ih => ih) (fun _ ih => ih) (fun _ ps assign body _ _ => some (ps, assign, body)) (fun _ => none) (fun _ ih => ih) (fun _ => none)
  (fun _ => none) none (fun _ => none) c
noncomputable def lpB (fn : Func) (st : LoopState) (S : List (Nat × AV)) (d : Nat) : Blk := .loop ⟨st, none, fn.ntmps, ofL S, ((rgn (fn.body.getD .skip)).getD (#[], .skip, .skip)).1, ((rgn (fn.body.getD .skip)).getD (#[], .skip, .skip)).2.1, ((rgn (fn.body.getD .skip)).getD (#[], .skip, .skip)).2.2, d⟩
def UnderS (n : Nat) : List (Nat × AV) → Prop
 | [] => True
 | p :: l => p.2.under n ∧ UnderS n l
theorem UnderS.mem {n : Nat} : ∀ {l : List (Nat × AV)}, UnderS n l → ∀ p ∈ l, p.2.under n
 | [], _, _, h => by cases h
 | q :: l, hs, p, h => by
  rcases List.mem_cons.1 h with rfl | h
  ·exact hs.1
  ·exact UnderS.mem hs.2 p h
theorem under_lpB {fn : Func} {st : LoopState} {n d : Nat} {S : List (Nat × AV)} (h : UnderS n S) (hd : d < n) : (lpB fn st S d).under n := ⟨fun _ _ hg => h.mem _ (get_ofL hg), hd⟩
theorem under_loop {n d k : Nat} {S : List (Nat × AV)} {st : LoopState} {j : Option Code} {ps : Array Tmp} {a b : Code} (h : UnderS n S) (hd : d < n) : Blk.under n (.loop ⟨st, j, k, ofL S, ps, a, b, d⟩) :=
 ⟨fun _ _ hg => h.mem _ (get_ofL hg), hd⟩
end Go.Vm

namespace Go.Vm
open Go.Proofs
theorem RoundG.fresh {P : Program} {id : Nat} {args : List AV} {t : Trie Blk} {n n0 : Nat} {K : AV → Trie Blk → Nat → Nat → Prop} (T : List (Nat × Blk)) (hn : n = n0) (hT : Blks (get t) noLo T)
  (h : RoundG P id args (ofL T) n0 K) : RoundG P id args t n K := by
 subst hn
 obtain ⟨h⟩ := h
 exact ⟨fun H hH => h H (hH.subN hT)⟩
theorem RoundG.introF {P : Program} {m : Bool} {id : Nat} {args : List AV} {t : Trie Blk} {n : Nat} {K : AV → Trie Blk → Nat → Nat → Prop} {l : ALoop} (hm : P.follows .mixedOrders = true) (hl : get t id = some (.loop l)) (hlen : args.length = l.params.size) (hp : ∀ s ∈ l.params, s < l.n)
  (h : gCode P m l.n (some id) l.assign (putParams l.vars l.params.toList args) t n [] noLo fun x e lo => x = .normal ∧ ∃ l1, get e.t id = some (.loop l1) ∧ l1.state = .ready ∧ ∃ S T n1, e.n = n1 ∧ SlotsW (get e.vars) (set e.t id (.loop { l1 with state := .busy })) S ∧ Blks (get (set e.t id (.loop { l1 with state := .busy }))) noLo T ∧
   gCode P m l.n (some id) l.body (ofL S) (ofL T) n1 e.defs (min lo id) fun x2 e2 lo2 => ∃ j l2, jumpOf x2 = some j ∧ get e2.t id = some (.loop l2) ∧
    K (.lit (.bool j.isNone)) (set e2.t id (.loop { l2 with state := if j.isNone then .ready else .done, pending := j })) e2.n (min lo2 id)) : RoundG P id args t n K := by
 refine ⟨fun H hH => ?_⟩
 obtain ⟨x, ⟨vars1, t1, n1, d1⟩, lo, H1, hH1, hk1, r1, rfl, l1, hl1, hst, S, T, n2, hn, hS, hT, h⟩ := gCode_spec hm _ _ _ _ _ _ _ h H H hH (Keep.refl _ _)
 have hn : n1 = n2 := hn
 subst hn
 have hb1 := hH1.blk _ _ hl1
 have hlt1 : id < n1 := hH1.lt hl1
 have hkset : ∀ {H2 : List Blk} {lo2 : Nat} {l3 : ALoop} {B : Blk}, Keep H H2 lo2 → H2[id]? = some (.loop l3) → Keep H (H2.set id B) (min lo2 id) := fun hk hb =>
  hk.trans (Keep.set hb (by intro e; cases e)) (Nat.min_le_left _ _) (Nat.min_le_right _ _)
 have hH1b : HT (set t1 id (.loop { l1 with state := .busy })) n1 (H1.set id (.loop { l1 with state := .busy })) := hH1.set hlt1 _
 obtain ⟨x2, ⟨vars2, t2, n2, d2⟩, lo2, H2, hH2, hk2, r2, j, l2, hj, hl2, hK⟩ := gCode_spec hm _ _ _ _ _ _ _ h (H1.set id (.loop { l1 with state := .busy })) H (hH1b.subN hT) (hkset hk1 hb1)
 have hb2 := hH2.blk _ _ hl2
 have r2' := r2.fewer (V := vars1) fun s v hg => by
  obtain ⟨v1, g1, g2⟩ := hS.mem _ (get_ofL hg)
  exact ⟨v1, g1, g2 _ _ hH1b⟩
 exact ⟨_, _, _, _, _, hH2.set (hH2.lt hl2) _, ARound.intro (hH.blk _ _ hl) hlen hp r1 hb1 hst r2' hb2 hj, hkset hk2 hb2, hK⟩
end Go.Vm

namespace Go.Vm
open Go.Proofs
theorem Weaks.row [O : Outer] {S : Sit} {b : Nat} {l l' : List AV} (h : Weaks l l') : ∀ {o : Nat}, VRow S b o l → VRow S b o l' := by
 obtain ⟨H, ι, w⟩ := S
 induction h with
 | nil => intro o h; exact h
 | cons hv _ ih =>
  intro o h
  simp only [VRow] at h ⊢
  obtain ⟨⟨c, h1, h2⟩, h3⟩ := h
  exact ⟨⟨c, h1, hv H O ι w c h2⟩, ih h3⟩
theorem Weaks.length {l l' : List AV} (h : Weaks l l') : l.length = l'.length := by
 induction h with
 | nil => rfl
 | cons _ _ ih => simp [ih]
theorem wk_sl {H : List Blk} {n : Nat} {l l' : List AV} {tl : Tail} (h : Weaks l l') : WeakH H (.sl n l tl) (.sl n l' tl) := fun _ ι w c x => by
 simp only [VRel] at x ⊢
 obtain ⟨base, cap, hc, hle, hr, ht⟩ := x
 refine ⟨base, cap, hc, hle, ?_, by rw [← h.length]; exact ht⟩
 rcases hr with rfl | ⟨b, o, h1, h2, h3⟩
 ·cases h; exact .inl rfl
 ·exact .inr ⟨b, o, h1, by rw [← h.length]; exact h2, h.row h3⟩
theorem Weaks.snoc {a b : AV} (h : ∀ H, WeakH H a b) : ∀ l : List AV, Weaks (l ++ [a]) (l ++ [b])
 | [] => .cons h .nil
 | x :: l => .cons (fun H => WeakH.refl x H) (Weaks.snoc h l)
end Go.Vm

namespace Go.Vm
section
variable {E : Type} (step : E → Nat → E) (out : E → Nat → Int) (k : Nat)
def trM : E → List Nat → List Int
 | _, [] => []
 | e, c :: l => out e c :: trM (step e c) l
def eqM (n : Nat) (e f : E) : Prop := ∀ l, OkL k l → l.length ≤ n → trM step out e l = trM step out f l
variable {step out k}
theorem eqM.refl (n : Nat) (e : E) : eqM step out k n e e := fun _ _ _ => rfl
theorem eqM.symm {n : Nat} {e f : E} (h : eqM step out k n e f) : eqM step out k n f e := fun l h1 h2 => (h l h1 h2).symm
theorem eqM.trans {n : Nat} {e f g : E} (h : eqM step out k n e f) (h' : eqM step out k n f g) : eqM step out k n e g := fun l h1 h2 => (h l h1 h2).trans (h' l h1 h2)
theorem eqM.less {n m : Nat} {e f : E} (h : eqM step out k n e f) (hm : m ≤ n) : eqM step out k m e f := fun l h1 h2 => h l h1 (by omega)
theorem eqM_succ {n : Nat} {e f : E} : eqM step out k (n + 1) e f ↔ (∀ c, c < k → out e c = out f c) ∧ ∀ c, c < k → eqM step out k n (step e c) (step f c) := by
 refine ⟨fun h => ⟨fun c hc => ?_, fun c hc l h1 h2 => ?_⟩, fun h l h1 h2 => ?_⟩
 ·have := h [c] (fun x hx => by rw [List.mem_singleton] at hx; omega) (by simp)
  have h0 : [out e c] = [out f c] := this
  injection h0
 ·have := h (c :: l) (fun x hx => by
   rcases List.mem_cons.1 hx with rfl | hx
   ·exact hc
   ·exact h1 x hx) (by simp; omega)
  have h0 : out e c :: trM step out (step e c) l = out f c :: trM step out (step f c) l := this
  injection h0
 ·cases l with
  | nil => rfl
  | cons c l =>
   have hc : c < k := h1 c (by simp)
   show out e c :: trM step out (step e c) l = out f c :: trM step out (step f c) l
   rw [h.1 c hc, h.2 c hc l (fun x hx => h1 x (by simp [hx])) (by simp at h2; omega)]
def StM (step : E → Nat → E) (out : E → Nat → Int) (k : Nat) (Q : List E) (n : Nat) : Prop := ∀ e ∈ Q, ∀ f ∈ Q, eqM step out k n e f → eqM step out k (n + 1) e f
theorem StM.next {Q : List E} (hQ : ∀ e ∈ Q, ∀ c, c < k → step e c ∈ Q) {n : Nat} (h : StM step out k Q n) : StM step out k Q (n + 1) := fun e he f hf hef => by
 obtain ⟨h1, h2⟩ := eqM_succ.1 hef
 exact eqM_succ.2 ⟨h1, fun c hc => h _ (hQ e he c hc) _ (hQ f hf c hc) (h2 c hc)⟩
theorem StM.all {Q : List E} (hQ : ∀ e ∈ Q, ∀ c, c < k → step e c ∈ Q) {n : Nat} (h : StM step out k Q n) {e f : E} (he : e ∈ Q) (hf : f ∈ Q) (hef : eqM step out k n e f) : ∀ m, eqM step out k (n + m) e f := by
 have key : ∀ m, StM step out k Q (n + m) := fun m => by
  induction m with
  | zero => exact h
  | succ m ih => exact ih.next hQ
 intro m
 induction m with
 | zero => exact hef
 | succ m ih => exact key m e he f hf ih
theorem extM {Q : List E} {n : Nat} : ∀ (U R : List E), (∀ e ∈ U, e ∈ Q) → (∀ r ∈ R, r ∈ Q) → R.Pairwise (fun a b => ¬ eqM step out k n a b) →
  ∃ R' : List E, (∀ r ∈ R', r ∈ Q) ∧ R'.Pairwise (fun a b => ¬ eqM step out k n a b) ∧ R.length ≤ R'.length ∧ ∀ e ∈ U, ∃ r ∈ R', eqM step out k n r e
 | [], R, _, hR, hp => ⟨R, hR, hp, Nat.le_refl _, fun _ h => by cases h⟩
 | e :: U, R, hU, hR, hp => by
  obtain ⟨R', h1, h2, h3, h4⟩ := extM U R (fun x hx => hU x (by simp [hx])) hR hp
  by_cases hx : ∃ r ∈ R', eqM step out k n r e
  ·refine ⟨R', h1, h2, h3, fun y hy => ?_⟩
   rcases List.mem_cons.1 hy with rfl | hy
   ·exact hx
   ·exact h4 y hy
  ·refine ⟨e :: R', fun r hr => ?_, List.pairwise_cons.2 ⟨fun r hr her => hx ⟨r, hr, her.symm⟩, h2⟩, by rw [List.length_cons]; omega, fun y hy => ?_⟩
   ·rcases List.mem_cons.1 hr with rfl | hr
    ·exact hU r (by simp)
    ·exact h1 r hr
   ·rcases List.mem_cons.1 hy with rfl | hy
    ·exact ⟨y, by simp, eqM.refl n y⟩
    ·obtain ⟨r, hr, h5⟩ := h4 y hy
     exact ⟨r, by simp [hr], h5⟩
theorem moore {Q : List E} {e0 : E} (h0 : e0 ∈ Q) : ∀ n, (∃ m, m < n ∧ StM step out k Q m) ∨
  ∃ R : List E, (∀ r ∈ R, r ∈ Q) ∧ R.Pairwise (fun a b => ¬ eqM step out k n a b) ∧ n + 1 ≤ R.length ∧ ∀ e ∈ Q, ∃ r ∈ R, eqM step out k n r e
 | 0 => by
  obtain ⟨R, h1, h2, h3, h4⟩ := extM (step := step) (out := out) (k := k) (Q := Q) (n := 0) Q [e0] (fun _ h => h) (fun r hr => by rw [List.mem_singleton] at hr; subst hr; exact h0) (List.pairwise_singleton _ _)
  exact .inr ⟨R, h1, h2, by simpa using h3, h4⟩
 | n + 1 => by
  rcases moore h0 n with ⟨m, hm, hs⟩ | ⟨R, h1, h2, h3, h4⟩
  ·exact .inl ⟨m, by omega, hs⟩
  ·by_cases hst : StM step out k Q n
   ·exact .inl ⟨n, by omega, hst⟩
   ·refine .inr ?_
    unfold StM at hst
    simp only [Classical.not_forall] at hst
    obtain ⟨e, he, f, hf, hef, hne⟩ := hst
    obtain ⟨r, hr, hre⟩ := h4 e he
    have key : ∃ a ∈ Q, eqM step out k n r a ∧ ¬ eqM step out k (n + 1) r a := by
     by_cases h5 : eqM step out k (n + 1) r e
     ·exact ⟨f, hf, hre.trans hef, fun h6 => hne (h5.symm.trans h6)⟩
     ·exact ⟨e, he, hre, h5⟩
    obtain ⟨a, ha, hra, hna⟩ := key
    have hp : (a :: R).Pairwise (fun a b => ¬ eqM step out k (n + 1) a b) := by
     refine List.pairwise_cons.2 ⟨fun r' hr' h5 => ?_, h2.imp fun h5 h6 => h5 (h6.less (by omega))⟩
     have h6 : eqM step out k n r r' := hra.trans (h5.less (by omega))
     have h7 : r' = r := by
      apply Classical.byContradiction
      intro hne'
      obtain ⟨i, hi, rfl⟩ := List.getElem_of_mem hr
      obtain ⟨j, hj, rfl⟩ := List.getElem_of_mem hr'
      rcases Nat.lt_trichotomy i j with hij | hij | hij
      ·exact absurd h6 (List.pairwise_iff_getElem.1 h2 i j hi hj hij)
      ·subst hij; exact absurd rfl hne'
      ·exact absurd h6.symm (List.pairwise_iff_getElem.1 h2 j i hj hi hij)
     subst h7
     exact hna h5.symm
    obtain ⟨R', k1, k2, k3, k4⟩ := extM (step := step) (out := out) (k := k) (Q := Q) (n := n + 1) Q (a :: R) (fun _ h => h) (fun x hx => by
     rcases List.mem_cons.1 hx with rfl | hx
     ·exact ha
     ·exact h1 x hx) hp
    exact ⟨R', k1, k2, by rw [List.length_cons] at k3; omega, k4⟩
theorem differ_soon {Q : List E} (hQ : ∀ e ∈ Q, ∀ c, c < k → step e c ∈ Q) {e f : E} (he : e ∈ Q) (hf : f ∈ Q) {l : List Nat} (hl : OkL k l) (hd : trM step out e l ≠ trM step out f l) : ∃ l', OkL k l' ∧ l'.length < Q.length ∧ trM step out e l' ≠ trM step out f l' := by
 classical
 rcases moore (step := step) (out := out) (k := k) he Q.length with ⟨m, hm, hs⟩ | ⟨R, h1, h2, h3, _⟩
 ·apply Classical.byContradiction
  intro hno
  have hem : eqM step out k m e f := fun l' h5 h6 => by
   apply Classical.byContradiction
   intro h7
   exact hno ⟨l', h5, by omega, h7⟩
  exact hd (hs.all hQ he hf hem l.length l hl (by omega))
 ·have hn : R.Nodup := h2.imp fun h5 h6 => h5 (by rw [h6]; exact eqM.refl _ _)
  have := nodup_length hn h1
  omega
end
end Go.Vm

namespace Go.Vm
open Go.Proofs
section
variable (al : Nat → Nat → Bool)
def plcB : List Nat → Nat → Option Nat
 | [], _ => none
 | x :: l, n => if al x n = true then some 0 else (plcB l n).map (· + 1)
def insB (S : List Nat) (n : Nat) : List Nat := if (plcB al S n).isSome then S else S ++ [n]
variable (v : Vers) (K : Nat)
def nxS (a c : Nat) : Nat := (mv v a c).1.toNat
def rowF (S : List Nat) (i : Nat) : Nat → List Nat
 | 0 => S
 | c + 1 => insB al (rowF S i c) (nxS v (S.getD i 0) c)
def stF : Nat → List Nat
 | 0 => [0]
 | i + 1 => rowF al v (stF i) i K
structure Exit (N : Nat) : Prop where
 on : ∀ i, i < N → i < (stF al v K i).length
 off : (stF al v K N).length ≤ N
end
section
variable {al : Nat → Nat → Bool}
variable {v : Vers} {K : Nat}
structure StOkR (al : Nat → Nat → Bool) (v : Vers) (S : List Nat) : Prop where
 lt : ∀ x ∈ S, x < v.length
 apart : S.Pairwise fun x y => al x y = false
variable (hnx : ∀ x, x < v.length → ∀ c, c < K → nxS v x c < v.length)
include hnx
omit hnx
end
end Go.Vm

namespace Go.Vm
open Go.Proofs Go.RowKit
theorem RangeG.inner {P : Program} {g : Operand} {ps : Array Tmp} {assign body : Code} {k : Nat} {vars : Trie AV} {t : Trie Blk} {n : Nat} {d : List Nat} {lo : Nat} {Q : CodeQ} {fv : AV} {f : FuncId} {first captured : List AV} {ido : Nat} {lp : ALoop}
    (ho : get t ido = some (.loop lp)) (hg : evalT vars g = some fv) (hf : fnOf fv = some (f, first, captured)) (hc : callable P f = true)
    (h : CallG P f (first ++ [.yld n] ++ captured) (set t n (.loop (loop0 ⟨k, vars, [], []⟩ ps assign body lp.defers))) (n + 1)
      (fun _ t' n' l => ∃ l' e, get t' n = some (.loop l') ∧ l'.state ≠ .busy ∧ jumpTo l'.pending = some e ∧ Q e ⟨vars, set t' n (.loop { l' with state := .exhausted }), n', d⟩ (min lo l)) (fun _ _ _ _ => False)) :
    RangeG P (some ido) (.rangeFunc g ps assign body) k vars t n d lo Q := by
  refine ⟨fun H H0 hH hk => ?_⟩
  obtain ⟨h⟩ := h
  have hlen := hH.len
  obtain ⟨v, t', n', l, H', hH', hca, hkc, l', e, hl', hb, hj, hQ⟩ := (h _ (hH.push _)).resolve_right (fun ⟨_, _, _, _, _, _, _, _, x⟩ => x)
  have hbl := hH'.blk _ _ hl'
  have hrun := Run.rangeFunc_inner (P := P) (σ := ⟨k, vars, H, d⟩) (ps := ps) (assign := assign) (body := body) (g := g) (v := v) (H2 := H') (l' := l') (e := e) (ido := ido) (lo := lp) (hH.blk _ _ ho) (by rw [← evalT_eq k vars H d]; exact hg) hf hc
    (by show ACall P f (first ++ [.yld H.length] ++ captured) (H ++ [.loop (loop0 ⟨k, vars, H, d⟩ ps assign body lp.defers)]) (.ret v) H'
        rw [hlen]; exact hca) (by show H'[H.length]? = _; rw [hlen]; exact hbl) hb (fun id hid => hkc.marks id (keepsD_append _ _ id hid)) hj
  have hrun' : Run P (some ido) (.rangeFunc g ps assign body) ⟨k, vars, H, d⟩ e ⟨k, vars, H'.set n (.loop { l' with state := .exhausted }), d⟩ := by
    have := hrun
    simp only [hlen] at this
    exact this
  refine ⟨e, _, _, _, hH'.set (hH'.lt hl') _, ?_, hrun', hQ⟩
  have hk2 : Keep H H' l := (Keep.append H _ l).trans hkc (Nat.le_refl _) (Nat.le_refl _)
  have hk3 : Keep H (H'.set n (.loop { l' with state := .exhausted })) l := by
    refine ⟨by have := hk2.le; simp; omega, fun id h1 h2 => ?_, fun id hid => ?_⟩
    · rw [List.getElem?_set_ne (by omega)]; exact hk2.low id h1 h2
    · have hlt := (List.getElem?_eq_some_iff.1 hid).1
      rw [List.getElem?_set_ne (by omega)]
      exact hk2.marks id hid
  exact hk.trans hk3 (Nat.min_le_left _ _) (Nat.min_le_right _ _)
end Go.Vm

namespace Go.Vm
open Go.Proofs Go.RowKit
theorem VRow.of_cells [Outer] {S : Sit} {b : Nat} {C : Array Value} {t : TypeId} {f : Nat × Nat} (hb : S.w.heap[b]? = some (.cells C t f)) : ∀ {xs : List AV} {cs : List Value} {o : Nat}, (∀ j, j < cs.length → C[o + j]? = cs[j]?) → VRels S xs cs → VRow S b o xs
 | [], _, _, _, _ => by simp [VRow]
 | a :: xs, [], _, _, h => by simp [VRels] at h
 | a :: xs, c :: cs, o, hc, h => by
  simp only [VRels] at h
  simp only [VRow]
  refine ⟨⟨c, ?_, h.1⟩, VRow.of_cells hb (cs := cs) (fun j hj => ?_) h.2⟩
  ·rw [cell_eq, hb]
   have := hc 0 (by simp)
   simpa using this
  ·have := hc (j + 1) (by simpa using hj)
   rw [show o + 1 + j = o + (j + 1) by omega]
   simpa using this
inductive Lent (id gen : Nat) (cells : List AV) : List AV → List AV → Prop
 | nil : Lent id gen cells [] []
 | same {a : AV} {l l' : List AV} (t : Lent id gen cells l l') : Lent id gen cells (a :: l) (a :: l')
 | this {len : Nat} {l l' : List AV} (h : len = cells.length) (t : Lent id gen cells l l') : Lent id gen cells (.msl id gen len 1 :: l) (.sl len cells .unk :: l')
end Go.Vm

namespace Go.Vm
open Go.Proofs Go.RowKit
inductive Lend (id N : Nat) (cells : List AV) : List AV → List AV → Prop
 | nil : Lend id N cells [] []
 | same {a : AV} {l l' : List AV} (h : a.under 0) (t : Lend id N cells l l') : Lend id N cells (a :: l) (a :: l')
 | this {l l' : List AV} (t : Lend id N cells l l') : Lend id N cells (.hsl id 0 N N :: l) (.sl N cells .unk :: l')
open Classical in
@[reducible] noncomputable def lendO (O : Outer) (H : List Blk) (ι : Nat → Option (Nat × Nat)) (id N : Nat) : Outer :=
 ⟨fun b => if ∃ wm, ι id = some (b, wm) then some (some N) else (hideO O H ι 0).out b⟩
end Go.Vm

namespace Go.Vm
open Go.Proofs Go.RowKit
inductive Dry : AV → Prop
 | lit (v : Value) : Dry (.lit v)
 | tup {l : List AV} (h : ∀ a ∈ l, ∃ v, a = .lit v) : Dry (.tup l)
theorem dry_list {O O' : Outer} {S S' : Sit} : ∀ {l : List AV}, (∀ a ∈ l, ∃ v, a = .lit v) → ∀ {cs : List Value}, @VRels O S l cs → @VRels O' S' l cs
 | [], _, cs, x => by
  cases cs with
  | nil => simp [VRels]
  | cons c cs => simp [VRels] at x
 | a :: l, h, cs, x => by
  cases cs with
  | nil => simp [VRels] at x
  | cons c cs =>
   obtain ⟨v, rfl⟩ := h a (by simp)
   simp only [VRels, VRel] at x ⊢
   exact ⟨x.1, dry_list (fun a ha => h a (by simp [ha])) x.2⟩
theorem Dry.rel {O O' : Outer} {S S' : Sit} {v : AV} (h : Dry v) {c : Value} (x : @VRel O S v c) : @VRel O' S' v c := by
 cases h with
 | lit u => simp only [VRel] at x ⊢; exact x
 | tup h =>
  simp only [VRel] at x ⊢
  obtain ⟨C, e, y⟩ := x
  exact ⟨C, e, dry_list h y⟩
inductive LendM (id gen N : Nat) (cells : List AV) : List AV → List AV → Prop
 | nil : LendM id gen N cells [] []
 | same {a : AV} {l l' : List AV} (h : a.under 0) (t : LendM id gen N cells l l') : LendM id gen N cells (a :: l) (a :: l')
 | this {l l' : List AV} (t : LendM id gen N cells l l') : LendM id gen N cells (.msl id gen N 1 :: l) (.sl N cells .unk :: l')
theorem ACall.borrowM {P : Program} {f : FuncId} {args args' cells cells' : List AV} {x : AV} (hx : Dry x) {id gen N : Nat} {H : List Blk} (h : ACall P f args' [] (.ret x) []) (hid : H[id]? = some (.mrow gen cells')) (hpre : cells'.take N = cells) (hcl : AV.unders 0 cells) (hlen : cells.length = N) (hl : LendM id gen N cells args args') :
  ACall P f args H (.ret x) H := by
 intro O ι w cs hR hargs
 have hR1 : @Rel O ⟨H, ι, w⟩ := hR
 have atB : ∀ {b wm : Nat}, ι id = some (b, wm) → (lendO O H ι id N).out b = some (some N) := fun {b wm} e => by
  exact if_pos ⟨wm, e⟩
 have notB : ∀ {b : Nat}, (¬ ∃ wm, ι id = some (b, wm)) → (lendO O H ι id N).out b = (hideO O H ι 0).out b := fun {b} e => by
  exact if_neg e
 have nohide : ∀ {b : Nat} {y : Option Nat}, O.out b = some y → (lendO O H ι id N).out b = some y := fun {b y} e => by
  have hno := (hR1.out b y e).2
  rw [notB (fun ⟨wm, hi⟩ => hno id wm hi), hideO_other fun i wm _ hi => hno i wm hi]
  exact e
 have named : ∀ {i b wm : Nat}, ι i = some (b, wm) → ∃ y, (lendO O H ι id N).out b = some y := fun {i b wm} e => by
  by_cases hb : ∃ wm, ι id = some (b, wm)
  ·obtain ⟨wm', e'⟩ := hb
   exact ⟨_, atB e'⟩
  ·rw [notB hb]
   exact ⟨_, hideO_named hR1.inj (Nat.zero_le i) e⟩
 have p0 : Pass O (lendO O H ι id N) H [] ι (fun _ => none) w 0 := by
  refine ⟨fun i hlt => by omega, fun i hlt => by omega, fun b lim hF => ?_⟩
  obtain ⟨C, t, f, a, hl, r, ro⟩ := hF
  refine ⟨C, t, f, a, hl, fun i wm e => (by cases e), fun y e => ?_⟩
  by_cases hb : ∃ wm, ι id = some (b, wm)
  ·obtain ⟨wm, hi⟩ := hb
   obtain ⟨⟨g, hg⟩, _⟩ := r id wm hi
   have hg' : H[id]? = some (.row g) := hg
   rw [hid] at hg'
   cases hg'
  ·rw [notB hb] at e
   by_cases hx : ∃ i wm, ι i = some (b, wm)
   ·obtain ⟨i, wm, hi⟩ := hx
    rw [hideO_named hR1.inj (Nat.zero_le i) hi] at e
    obtain ⟨⟨g, hg⟩, hlw⟩ := r i wm hi
    have hg' : H[i]? = some (.row g) := hg
    rw [hg'] at e
    cases e
    exact ⟨wm, rfl, hlw⟩
   ·rw [hideO_other fun i wm _ hi => hx ⟨i, wm, hi⟩] at e
    exact ro y e
 have hR0 : @Rel (lendO O H ι id N) ⟨[], fun _ => none, w⟩ := by
  refine @Rel.mk (lendO O H ι id N) _ (fun i b wm e => by cases e) (fun i j b wm wm' ei _ => by cases ei) (fun b y e => ⟨?_, fun i wm e => by cases e⟩)
  by_cases hb : ∃ wm, ι id = some (b, wm)
  ·obtain ⟨wm, hi⟩ := hb
   exact hR1.block hi
  ·by_cases hx : ∃ i wm, ι i = some (b, wm)
   ·obtain ⟨i, wm, hi⟩ := hx
    exact hR1.block hi
   ·rw [notB hb, hideO_other fun i wm _ hi => hx ⟨i, wm, hi⟩] at e
    exact (hR1.out b y e).1
 have hargs0 : ∀ {l l' : List AV}, LendM id gen N cells l l' → ∀ {cs : List Value}, @VRels O ⟨H, ι, w⟩ l cs → @VRels (lendO O H ι id N) ⟨[], fun _ => none, w⟩ l' cs := fun {l l'} hl => by
  induction hl with
  | nil => intro cs x; cases cs with
   | nil => simp [VRels]
   | cons c cs => simp [VRels] at x
  | same ha _ ih =>
   intro cs x
   cases cs with
   | nil => simp [VRels] at x
   | cons c cs =>
    simp only [VRels] at x ⊢
    exact ⟨VRel.pass p0 _ _ ha x.1, ih x.2⟩
  | this _ ih =>
   intro cs x
   cases cs with
   | nil => simp [VRels] at x
   | cons c cs =>
    simp only [VRels] at x ⊢
    refine ⟨?_, ih x.2⟩
    have x1 := x.1
    simp only [VRel] at x1 ⊢
    obtain ⟨base, cap, hc, hle, hsr⟩ := x1
    rcases hsr with ⟨b, rfl, hm⟩ | ⟨rfl, rfl, _⟩
    case inr => exact ⟨_, 0, hc, hle, .inl (List.length_eq_zero_iff.1 (by omega)), trivial⟩
    obtain ⟨b', wm, C, t, hi, hC, rfl, hcap⟩ := hm.here (cells := cells') hid
    obtain ⟨C1, t1, hC1, hr1⟩ := get_mrow hR1 hi hid
    rw [hC] at hC1; cases hC1
    have hn : N ≤ C.size := by omega
    have hcells : @VRels O ⟨H, ι, w⟩ cells (C.toList.take N) := by
     have := VRels.take N hr1
     rw [List.take_take, hpre] at this
     rwa [Nat.min_eq_left (by rw [← hpre] at hlen; simp at hlen; omega)] at this
    refine ⟨_, cap, hc, hle, .inr ⟨b', 0, rfl, ⟨C, t, (0, 0), hC, by omega, fun i wm' e => (by cases e), fun y e => ?_⟩, @VRow.of_cells (lendO O H ι id N) ⟨[], fun _ => none, w⟩ b' C t (0, 0) hC _ _ _ (fun j hj => ?_) (VRels.pass p0 _ _ hcl hcells)⟩, trivial⟩
    ·rw [show (lendO O H ι id N).out b' = some (some N) from atB hi] at e
     cases e
     exact ⟨N, rfl, by omega⟩
    ·rw [Nat.zero_add, List.getElem?_take, Array.getElem?_toList, if_pos (by simp at hj; omega)]
 have hcall := h (lendO O H ι id N) (fun _ => none) w cs hR0 (hargs0 hl hargs)
 refine hcall.mono ?_
 rintro e w' ⟨ι', hend, hR', hev, hnon⟩
 have hsame : ∀ {i b wm : Nat}, ι i = some (b, wm) → w'.heap[b]? = w.heap[b]? := fun hi => by
  obtain ⟨y, hy⟩ := named hi
  exact @Ev.out (lendO O H ι id N) _ _ hev _ _ hy
 have hrest : Rest w w' := @Ev.rest (lendO O H ι id N) _ _ hev
 have hev' : @Ev O ⟨H, ι, w⟩ ⟨H, ι, w'⟩ := by
  refine @Ev.mk O _ _ (fun i hn => ⟨hn, fun b wm e => ⟨wm, e⟩⟩) (fun b lim hF => ?_) (fun i g0 hg => ⟨g0, hg, Nat.le_refl _, fun _ => ⟨rfl, fun b wm C t hi hC => ⟨C, t, (hsame hi).trans hC, rfl⟩⟩⟩)
   (fun i g0 c0 hg => ⟨_, g0, hg, rfl, Nat.le_refl _, fun _ => ⟨⟨c0, rfl⟩, rfl, fun b wm C t hi hC => ⟨C, t, (hsame hi).trans hC, rfl⟩⟩⟩) (fun b y e => @Ev.out (lendO O H ι id N) _ _ hev b y (nohide e)) hrest
  obtain ⟨k1, k2⟩ := @Ev.fix (lendO O H ι id N) _ _ hev b lim (p0.fix b lim hF)
  obtain ⟨_, _, _, _, _, r, ro⟩ := hF
  obtain ⟨C, t, f, hC, hl, _, _⟩ := k1
  exact ⟨⟨C, t, f, hC, hl, r, ro⟩, k2⟩
 refine ⟨ι, ?_, ?_, hev', fun i _ e => e⟩
 ·cases e <;> first
   | exact hx.rel (v := x) hend
   | exact hend
 ·refine @Rel.mk O _ (fun i b wm e => ?_) hR1.inj (fun b y e => ⟨(@Rel.out (lendO O H ι id N) _ hR' b y (nohide e)).1, (hR1.out b y e).2⟩)
  obtain ⟨B, hB, hr⟩ := hR1.blk i b wm e
  exact ⟨B, hB, hr.ev hev' (hsame e)⟩
theorem CallG.borrowM {P : Program} {f : FuncId} {args : List AV} {t : Trie Blk} {n : Nat} {K Kp : AV → Trie Blk → Nat → Nat → Prop} (x : AV) (hx : Dry x) {args' cells cells' : List AV} {id gen N : Nat} (hg : get t id = some (.mrow gen cells')) (hpre : cells'.take N = cells) (hcl : AV.unders 0 cells) (hlen : cells.length = N) (hl : LendM id gen N cells args args')
  (h : ∀ H, ACall P f args' H (.ret x) H) (k : K x t n noLo) : CallG P f args t n K Kp :=
 .at _ (fun _ hH => (h []).borrowM hx (hH.blk _ _ hg) hpre hcl hlen hl) k
end Go.Vm

namespace Go.Vm
open Go.Proofs
inductive FinP (P : Program) (n0 : Nat) (rs : List ResultVar) (e : ES) (v : AV) : Prop
 | mk (vs : List AV) (h : resT P (get (spendT e.defs e.t)) e.vars rs = some vs) (hd : (e.defs.all (fun d => Nat.ble n0 d && Nat.blt d e.n) && nodupB e.defs) = true) (hv : resV vs = v)
theorem fn_preM {P : Program} {m : Bool} {f : FuncId} {fn : Func} {c : Code} {args : List AV} {v : AV} {t0 : Trie Blk} {Hp : List Blk} {n0 : Nat} (hm : P.follows .mixedOrders = true) (hf : P.funcs[f]? = some fn) (hb : fn.body = some c) (hn : args.length ≤ fn.ntmps)
  (hH : HT t0 n0 Hp) (ha : AV.unders n0 args) (hp : ∀ B ∈ Hp, B.under n0) (hv : v.flat = true)
  (h : gCode P m fn.ntmps none c (initVars 0 args) t0 n0 [] noLo fun x e lo => (x = .ret ∨ x = .normal) ∧ n0 ≤ lo ∧ FinP P n0 fn.results.toList e v) (H2 : List Blk) : ACall P f args (Hp ++ H2) (.ret v) (Hp ++ H2) := by
 have e0 := hH.len
 subst e0
 obtain ⟨x, e, lo, H', hH', hk', hrun, hx, hlo, vs, hres, hd, hfr⟩ := gCode_spec hm c _ _ _ _ _ _ h Hp Hp hH (Keep.refl _ _)
 rw [Bool.and_eq_true, List.all_eq_true] at hd
 have hdn : ∀ d ∈ e.defs, Hp.length ≤ d ∧ d < e.n := fun d hdm => by
  have := hd.1 d hdm
  rw [Bool.and_eq_true] at this
  exact ⟨Nat.le_of_ble_eq_true this.1, Nat.le_of_ble_eq_true this.2⟩
 have hs := spendT_sound e.defs hH' fun d hdm => (hdn d hdm).2
 have hk2 : Keep Hp (spend e.defs H') lo := by
  refine ⟨by rw [spend_length]; exact hk'.le, fun id a b => ?_, fun id hid => ?_⟩
  ·rw [spend_other _ _ _ fun hm => by have := (hdn id hm).1; omega]; exact hk'.low id a b
  ·have hlt := (List.getElem?_eq_some_iff.1 hid).1
   rw [spend_other _ _ _ fun hm => by have := (hdn id hm).1; omega]; exact hk'.marks id hid
 have hcr : ACall P f args Hp (.ret (resV vs)) (spend e.defs H') := ACall.intro_marks hf hb hn hrun hx (nodupB_sound hd.2) (resT_sound hs hres)
 subst hfr
 exact (hcr.back hk2 hlo hv).frame rfl ha (AV.flat_under _ _ hv) hp hp H2
end Go.Vm

namespace Go.Vm
open Go.Proofs
def bV : AV := (.agg [n' 2, n' 3, (.sl 4 [(.sl 2 [(.sl 2 [n' 1, n' 0, n' 0, n' 1] .unk), (.sl 2 [n' 0, n' 2, n' 1, n' 1] .unk)] .full), (.sl 2 [(.sl 2 [n' 1, n' 0, n' 0, n' 1] .unk), (.sl 2 [n' 0, n' 2, n' 0, n' 1] .unk)] .full), (.sl 1 [(.sl 2 [n' 0, n' 0, n' 0, n' 1] .unk)] .full), (.sl 2 [(.sl 2 [n' 0, n' 1, n' 1, n' 1] .unk), (.sl 2 [n' 1, n' 0, n' 1, n' 1] .unk)] .full)] .full)])
end Go.Vm
