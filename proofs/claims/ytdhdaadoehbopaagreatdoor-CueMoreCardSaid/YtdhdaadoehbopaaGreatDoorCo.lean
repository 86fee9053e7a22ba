/-
  Contracts of functions of packages kelirlaw04, kelirref04, kelirref02, cue and slices, for books, evenings and lists as told at each, in every heap. Conditions: at each theorem. (A search by breadth finds the first list of cues; what such searches share.)
-/
import Derived.Test.YtdhdaadoehbopaaGreatDoorVr
import Derived.Test.YtdhdaadoehbopaaGreatDoorCb
import Derived.Test.YtdhdaadoehbopaaGreatDoorVc

namespace Go.Vm
def Lx : List Nat → List Nat → Prop
 | a :: l, b :: m => a < b ∨ a = b ∧ Lx l m
 | _, _ => False
def LL (a b : List Nat) : Prop := a.length < b.length ∨ a.length = b.length ∧ Lx a b
def LE (a b : List Nat) : Prop := LL a b ∨ a = b
theorem Lx.trans : ∀ {a b c : List Nat}, Lx a b → Lx b c → Lx a c
 | a :: l, b :: m, c :: k, h, h' => by
  have h : a < b ∨ a = b ∧ Lx l m := h
  have h' : b < c ∨ b = c ∧ Lx m k := h'
  show a < c ∨ a = c ∧ Lx l k
  rcases h with h | ⟨h, h2⟩ <;> rcases h' with h' | ⟨h', h2'⟩
  ·exact .inl (by omega)
  ·exact .inl (by omega)
  ·exact .inl (by omega)
  ·exact .inr ⟨by omega, h2.trans h2'⟩
 | [], _, _, h, _ => h.elim
 | _ :: _, [], _, h, _ => h.elim
 | _ :: _, _ :: _, [], _, h => h.elim
theorem LL.trans {a b c : List Nat} (h : LL a b) (h' : LL b c) : LL a c := by
 rcases h with h | ⟨h, h2⟩ <;> rcases h' with h' | ⟨h', h2'⟩
 ·exact .inl (by omega)
 ·exact .inl (by omega)
 ·exact .inl (by omega)
 ·exact .inr ⟨by omega, h2.trans h2'⟩
theorem LE.trans {a b c : List Nat} (h : LE a b) (h' : LE b c) : LE a c := by
 rcases h with h | rfl
 ·rcases h' with h' | rfl
  ·exact .inl (h.trans h')
  ·exact .inl h
 ·exact h'
theorem LL.of_le {a b c : List Nat} (h : LL a b) (h' : LE b c) : LL a c := by
 rcases h' with h' | rfl
 ·exact h.trans h'
 ·exact h
theorem Lx.snoc : ∀ {a b : List Nat}, Lx a b → ∀ c d, Lx (a ++ [c]) (b ++ [d])
 | a :: l, b :: m, h, c, d => by
  have h : a < b ∨ a = b ∧ Lx l m := h
  show a < b ∨ a = b ∧ Lx (l ++ [c]) (m ++ [d])
  rcases h with h | ⟨h, h2⟩
  ·exact .inl h
  ·exact .inr ⟨h, h2.snoc c d⟩
 | [], _, h, _, _ => h.elim
 | _ :: _, [], h, _, _ => h.elim
theorem Lx.last : ∀ (a : List Nat) {c d : Nat}, c < d → Lx (a ++ [c]) (a ++ [d])
 | [], _, _, h => .inl h
 | _ :: l, _, _, h => .inr ⟨rfl, Lx.last l h⟩
theorem LL.snoc {a b : List Nat} (h : LL a b) (c d : Nat) : LL (a ++ [c]) (b ++ [d]) := by
 rcases h with h | ⟨h, h2⟩
 ·exact .inl (by simp; omega)
 ·exact .inr ⟨by simp [h], h2.snoc c d⟩
theorem LL.last (a : List Nat) {c d : Nat} (h : c < d) : LL (a ++ [c]) (a ++ [d]) := .inr ⟨by simp, Lx.last a h⟩
theorem LE.snoc {a b : List Nat} (h : LE a b) {c d : Nat} (hc : c ≤ d) : LE (a ++ [c]) (b ++ [d]) := by
 rcases h with h | rfl
 ·exact .inl (h.snoc c d)
 ·rcases Nat.lt_or_ge c d with h | h
  ·exact .inl (LL.last a h)
  ·obtain rfl : c = d := by omega
   exact .inr rfl
theorem LL.longer (a : List Nat) (c : Nat) : LL a (a ++ [c]) := .inl (by simp)
theorem LE.more (a : List Nat) (d : Nat) : ∀ t : List Nat, LE (a ++ [d]) (a ++ d :: t)
 | [] => .inr rfl
 | _ :: _ => .inl (.inl (by simp))
theorem LL.nil {a : List Nat} (h : a ≠ []) : LL [] a := .inl (List.length_pos_iff.2 h)
section
variable {K : Type} (next : K → Nat → K) (done : K → Prop) (start : K) (c : Nat)
def runB (l : List Nat) : K := l.foldl next start
theorem runB_snoc (l : List Nat) (d : Nat) : runB next start (l ++ [d]) = next (runB next start l) d := by
 unfold runB
 rw [List.foldl_append]; rfl
def OkL (l : List Nat) : Prop := ∀ x ∈ l, x < c
def Least (x : K) (l : List Nat) : Prop := runB next start l = x ∧ OkL c l ∧ ∀ u, OkL c u → runB next start u = x → LE l u
structure InvO (q : List (K × List Nat)) (met : List K) (proc : K → Prop) : Prop where
 s : start ∈ met
 split : ∀ y ∈ met, proc y ∨ ∃ m, (y, m) ∈ q
 nd : ∀ y, proc y → ¬ done y
 cl : ∀ y, proc y → ∀ d, d < c → next y d ∈ met
 least : ∀ p ∈ q, Least next start c p.1 p.2
 sorted : q.Pairwise fun a b => LL a.2 b.2
 par : ∀ p ∈ q, p.2 = [] ∨ ∃ m0 c0, p.2 = m0 ++ [c0] ∧ ∀ h ∈ q.head?, LL m0 h.2
structure InvI (x : K) (l : List Nat) (r : Nat) (q : List (K × List Nat)) (met : List K) (proc : K → Prop) : Prop where
 s : start ∈ met
 split : ∀ y ∈ met, (proc y ∨ y = x) ∨ ∃ m, (y, m) ∈ q
 nd : ∀ y, proc y → ¬ done y
 ndx : ¬ done x
 cl : ∀ y, proc y → ∀ d, d < c → next y d ∈ met
 clx : ∀ d, d < r → next x d ∈ met
 leastx : Least next start c x l
 least : ∀ p ∈ q, Least next start c p.1 p.2
 sorted : q.Pairwise fun a b => LL a.2 b.2
 above : ∀ p ∈ q, LL l p.2
 par : ∀ p ∈ q, p.2 = [] ∨ ∃ m0 c0, p.2 = m0 ++ [c0] ∧ (LL m0 l ∨ m0 = l ∧ c0 < r)
variable {next done start c}
theorem InvO.begin : InvO next done start c [(start, [])] [start] fun _ => False := by
 refine ⟨by simp, fun y hy => .inr ⟨[], by simp at hy; simp [hy]⟩, fun _ h => h.elim, fun _ h => h.elim, fun p hp => ?_, List.pairwise_singleton _ _, fun p hp => ?_⟩
 ·rw [List.mem_singleton] at hp; subst hp
  refine ⟨rfl, (fun _ h => by cases h), fun u _ _ => ?_⟩
  cases u with
  | nil => exact .inr rfl
  | cons a u => exact .inl (LL.nil (by simp))
 ·rw [List.mem_singleton] at hp; subst hp; exact .inl rfl
theorem InvO.take {x : K} {l : List Nat} {q : List (K × List Nat)} {met : List K} {proc : K → Prop} (h : InvO next done start c ((x, l) :: q) met proc) (hd : ¬ done x) : InvI next done start c x l 0 q met proc := by
 have hs := List.pairwise_cons.1 h.sorted
 refine ⟨h.s, fun y hy => ?_, h.nd, hd, h.cl, (fun d hd => by omega), h.least (x, l) (by simp), fun p hp => h.least p (by simp [hp]), hs.2, fun p hp => hs.1 p hp, fun p hp => ?_⟩
 ·rcases h.split y hy with h1 | ⟨m, h1⟩
  ·exact .inl (.inl h1)
  ·rcases List.mem_cons.1 h1 with e | h1
   ·cases e; exact .inl (.inr rfl)
   ·exact .inr ⟨m, h1⟩
 ·rcases h.par p (by simp [hp]) with h1 | ⟨m0, c0, e, h1⟩
  ·exact .inl h1
  ·exact .inr ⟨m0, c0, e, .inl (h1 (x, l) (by simp))⟩
theorem InvI.old {x : K} {l : List Nat} {r : Nat} {q : List (K × List Nat)} {met : List K} {proc : K → Prop} (h : InvI next done start c x l r q met proc) (hm : next x r ∈ met) : InvI next done start c x l (r + 1) q met proc := by
 refine ⟨h.s, h.split, h.nd, h.ndx, h.cl, fun d hd => ?_, h.leastx, h.least, h.sorted, h.above, fun p hp => ?_⟩
 ·by_cases e : d = r
  ·subst e; exact hm
  ·exact h.clx d (by omega)
 ·rcases h.par p hp with h1 | ⟨m0, c0, e, h1⟩
  ·exact .inl h1
  ·exact .inr ⟨m0, c0, e, h1.imp (fun h => h) (fun h => ⟨h.1, by omega⟩)⟩
theorem leaves {met : List K} : ∀ (t u : List Nat), runB next start u ∈ met → runB next start (u ++ t) ∉ met → ∃ w d t', u ++ t = w ++ d :: t' ∧ runB next start w ∈ met ∧ next (runB next start w) d ∉ met
 | [], u, h, h' => absurd h (by rwa [List.append_nil] at h')
 | d :: t, u, h, h' => by
  by_cases hm : next (runB next start u) d ∈ met
  ·have e : u ++ d :: t = (u ++ [d]) ++ t := by simp
   rw [e] at h' ⊢
   exact leaves t (u ++ [d]) (by rw [runB_snoc]; exact hm) h'
  ·exact ⟨u, d, t, rfl, h, hm⟩
theorem InvI.new {x : K} {l : List Nat} {r : Nat} {q : List (K × List Nat)} {met : List K} {proc : K → Prop} (h : InvI next done start c x l r q met proc) (hr : r < c) (hm : next x r ∉ met) :
  InvI next done start c x l (r + 1) (q ++ [(next x r, l ++ [r])]) (met ++ [next x r]) proc := by
 obtain ⟨hx1, hx2, hx3⟩ := h.leastx
 have before : ∀ p ∈ q, LL p.2 (l ++ [r]) := fun p hp => by
  rcases h.par p hp with h1 | ⟨m0, c0, e, h1⟩
  ·rw [h1]; exact LL.nil (by simp)
  ·rw [e]
   rcases h1 with h1 | ⟨rfl, h1⟩
   ·exact h1.snoc _ _
   ·exact LL.last _ h1
 have lnew : Least next start c (next x r) (l ++ [r]) := by
  refine ⟨by rw [runB_snoc, hx1], fun y hy => ?_, fun u hu hru => ?_⟩
  ·rcases List.mem_append.1 hy with hy | hy
   ·exact hx2 y hy
   ·rw [List.mem_singleton] at hy; omega
  ·obtain ⟨w, d, t', e, hw, hd⟩ := leaves (next := next) (start := start) (met := met) u [] h.s (by rw [List.nil_append, hru]; exact hm)
   rw [List.nil_append] at e
   subst e
   have hdc : d < c := hu d (by simp)
   have hwo : OkL c w := fun y hy => hu y (by simp [hy])
   have hlw : LE l w ∧ (LL l w ∨ r ≤ d) := by
    rcases h.split _ hw with (h1 | h1) | ⟨m, h1⟩
    ·exact absurd (h.cl _ h1 d hdc) hd
    ·refine ⟨hx3 w hwo h1, .inr ?_⟩
     rcases Nat.lt_or_ge d r with h2 | h2
     ·exact absurd (by rw [h1]; exact h.clx d h2) hd
     ·exact h2
    ·have h2 := (h.least _ h1).2.2 w hwo rfl
     have h3 := (h.above _ h1).of_le h2
     exact ⟨.inl h3, .inl h3⟩
   refine LE.trans ?_ (LE.more w d t')
   rcases hlw.2 with h2 | h2
   ·exact .inl (h2.snoc _ _)
   ·exact hlw.1.snoc h2
 refine ⟨by simp [h.s], fun y hy => ?_, h.nd, h.ndx, fun y hy d hd => by simp [h.cl y hy d hd], fun d hd => ?_, h.leastx, fun p hp => ?_, ?_, fun p hp => ?_, fun p hp => ?_⟩
 ·rcases List.mem_append.1 hy with hy | hy
  ·rcases h.split y hy with h1 | ⟨m, h1⟩
   ·exact .inl h1
   ·exact .inr ⟨m, by simp [h1]⟩
  ·rw [List.mem_singleton] at hy; subst hy
   exact .inr ⟨l ++ [r], by simp⟩
 ·by_cases e : d = r
  ·subst e; simp
  ·simp [h.clx d (by omega)]
 ·rcases List.mem_append.1 hp with hp | hp
  ·exact h.least p hp
  ·rw [List.mem_singleton] at hp; subst hp; exact lnew
 ·rw [List.pairwise_append]
  refine ⟨h.sorted, List.pairwise_singleton _ _, fun a ha b hb => ?_⟩
  rw [List.mem_singleton] at hb; subst hb
  exact before a ha
 ·rcases List.mem_append.1 hp with hp | hp
  ·exact h.above p hp
  ·rw [List.mem_singleton] at hp; subst hp; exact LL.longer l r
 ·rcases List.mem_append.1 hp with hp | hp
  ·rcases h.par p hp with h1 | ⟨m0, c0, e, h1⟩
   ·exact .inl h1
   ·exact .inr ⟨m0, c0, e, h1.imp (fun h => h) (fun h => ⟨h.1, by omega⟩)⟩
  ·rw [List.mem_singleton] at hp; subst hp
   exact .inr ⟨l, r, rfl, .inr ⟨rfl, by omega⟩⟩
theorem InvI.over {x : K} {l : List Nat} {q : List (K × List Nat)} {met : List K} {proc : K → Prop} (h : InvI next done start c x l c q met proc) : InvO next done start c q met fun y => proc y ∨ y = x := by
 refine ⟨h.s, h.split, fun y hy => ?_, fun y hy d hd => ?_, h.least, h.sorted, fun p hp => ?_⟩
 ·rcases hy with hy | rfl
  ·exact h.nd y hy
  ·exact h.ndx
 ·rcases hy with hy | rfl
  ·exact h.cl y hy d hd
  ·exact h.clx d hd
 ·rcases h.par p hp with h1 | ⟨m0, c0, e, h1⟩
  ·exact .inl h1
  ·refine .inr ⟨m0, c0, e, fun k hk => ?_⟩
   have hkq : k ∈ q := List.mem_of_mem_head? hk
   have h2 := h.above k hkq
   rcases h1 with h1 | ⟨rfl, _⟩
   ·exact h1.trans h2
   ·exact h2
structure Found (next : K → Nat → K) (done : K → Prop) (start : K) (c : Nat) (o : Option (List Nat)) : Prop where
 yes : ∀ l, o = some l → OkL c l ∧ done (runB next start l) ∧ ∀ u, OkL c u → done (runB next start u) → LE l u
 no : o = none → ∀ u, OkL c u → ¬ done (runB next start u)
theorem passes {q : List (K × List Nat)} {met : List K} {proc : K → Prop} (h : InvO next done start c q met proc) : ∀ (t u : List Nat), OkL c (u ++ t) → runB next start u ∈ met → proc (runB next start (u ++ t)) ∨ ∃ p ∈ q, LE p.2 (u ++ t)
 | [], u, ho, hm => by
  rw [List.append_nil] at ho ⊢
  rcases h.split _ hm with h1 | ⟨m, h1⟩
  ·exact .inl h1
  ·exact .inr ⟨_, h1, (h.least _ h1).2.2 u ho rfl⟩
 | d :: t, u, ho, hm => by
  rcases h.split _ hm with h1 | ⟨m, h1⟩
  ·have e : u ++ d :: t = (u ++ [d]) ++ t := by simp
   have hd : d < c := ho d (by simp)
   rw [e] at ho ⊢
   exact passes h t (u ++ [d]) ho (by rw [runB_snoc]; exact h.cl _ h1 d hd)
  ·have hu : OkL c u := fun y hy => ho y (by simp [hy])
   exact .inr ⟨_, h1, LE.trans ((h.least _ h1).2.2 u hu rfl) (.inl (.inl (by simp)))⟩
theorem InvO.found {x : K} {l : List Nat} {q : List (K × List Nat)} {met : List K} {proc : K → Prop} (h : InvO next done start c ((x, l) :: q) met proc) (hd : done x) : Found next done start c (some l) := by
 refine ⟨fun l' e => ?_, (fun e => by cases e)⟩
 cases e
 obtain ⟨h1, h2, h3⟩ := h.least (x, l) (by simp)
 refine ⟨h2, by rw [h1]; exact hd, fun u hu hdu => ?_⟩
 rcases passes h u [] hu h.s with h4 | ⟨p, hp, h4⟩
 ·exact absurd hdu (h.nd _ h4)
 ·rcases List.mem_cons.1 hp with rfl | hp
  ·exact h4
  ·exact LE.trans (.inl ((List.pairwise_cons.1 h.sorted).1 p hp)) h4
theorem InvO.nothing {met : List K} {proc : K → Prop} (h : InvO next done start c [] met proc) : Found next done start c Option.none := by
 refine ⟨(fun l e => by cases e), fun _ u hu hdu => ?_⟩
 rcases passes h u [] hu h.s with h4 | ⟨p, hp, _⟩
 ·exact h.nd _ h4 hdu
 ·cases hp
end
theorem nodup_length {α : Type} [DecidableEq α] : ∀ {l U : List α}, l.Nodup → (∀ x ∈ l, x ∈ U) → l.length ≤ U.length
 | [], _, _, _ => Nat.zero_le _
 | x :: l, U, hn, hU => by
  obtain ⟨h1, h2⟩ := List.nodup_cons.1 hn
  have hx := hU x (by simp)
  have ih := nodup_length (l := l) (U := U.erase x) h2 fun y hy => by
   refine (List.mem_erase_of_ne ?_).2 (hU y (by simp [hy]))
   rintro rfl; exact h1 hy
  rw [List.length_erase_of_mem hx] at ih
  have := List.length_pos_of_mem hx
  rw [List.length_cons]; omega
end Go.Vm

namespace Go.Vm
open Go.Proofs
def prodL {α β : Type} (l : List α) (m : List β) : List (α × β) := l.flatMap fun a => m.map fun b => (a, b)
theorem prodL_length {α β : Type} (m : List β) : ∀ l : List α, (prodL l m).length = l.length * m.length
 | [] => by simp [prodL]
 | a :: l => by
  have ih := prodL_length m l
  unfold prodL at ih ⊢
  rw [List.flatMap_cons, List.length_append, ih, List.length_map, List.length_cons, Nat.succ_mul, Nat.add_comm]
theorem prodL_mem {α β : Type} {l : List α} {m : List β} {a : α} {b : β} (ha : a ∈ l) (hb : b ∈ m) : (a, b) ∈ prodL l m :=
 List.mem_flatMap.2 ⟨a, ha, List.mem_map.2 ⟨b, hb, rfl⟩⟩
def r2 : List Bool := [false, true]
theorem r2_mem (b : Bool) : b ∈ r2 := by cases b <;> simp [r2]
def tv : AV := .lit (.bool true)
theorem isI64_small {n : Int} (h : -1 ≤ n ∧ n ≤ 1000) : isI64 (.int .i64 n) = true := by
 unfold isI64
 rw [Bool.and_eq_true, decide_eq_true_iff, decide_eq_true_iff]
 omega
set_option maxRecDepth 100000 in
theorem c_index (l : List Int) (x : Int) (hl : l.length < 4611686018427387904) (H : List Blk) : ACall Tryz.prog 199 [eInts l, n' x] H (.ret (n' (idxOf (fun y => x = y) l))) H := by
 refine fn_rule (m := false) (fn := Tryz.f199) (c := (Tryz.f199.body).getD .skip) mixed (by kernel_rfl) (by kernel_rfl) (of_decide_eq_true (by kernel_rfl)) ?_ ?_ ?_ H
 ·exact ⟨under_eInts 0 _, trivial, trivial⟩
 ·trivial
 ·refine LoopG.at (n0 := 0) rfl (loop_up mixed (m := false) (fun r => [(0, eInts l), (1, n' x), (7, n' (l.length : Nat)), (8, n' r)]) (fun _ => []) (fun r => ∀ y ∈ l.take r, ¬ x = y) l.length 0 (Nat.zero_le _) (fun _ h => by simp at h) ?_ trivial ?_)
  ·exact ⟨⟨_, rfl, Weak.refl _ _, under_eInts _ _⟩, wp rfl trivial, wp rfl trivial, wp rfl trivial, trivial⟩
  ·intro r hr hI
   refine If.mk (fun h1 => ?_) (fun h1 => ?_)
   ·refine ifY ?_
    have hrl : r < l.length := by omega
    refine Ex.mk _ (jx_ints (r := r) rfl (List.getElem?_eq_getElem hrl)) ?_
    refine Ex.mk _ rfl ?_
    refine If.mk (fun h2 => ?_) (fun h2 => ?_)
    ·refine ifY ?_
     refine ⟨Nat.zero_le _, .inl rfl, FinG.mk _ rfl rfl ?_⟩
     rw [idx_hit hrl hI h2]
     rfl
    ·refine ifN ?_
     refine Side.mk (fits64 (by omega)) ?_
     exact ⟨Nat.zero_le _, rfl, by omega, all_snoc (p := fun y => ¬ x = y) hrl hI h2, ⟨⟨_, rfl, Weak.refl _ _, under_eInts _ _⟩, wp rfl trivial, wp rfl trivial, wp rfl trivial, trivial⟩, trivial, trivial⟩
   ·refine ifN ?_
    have er : r = l.length := by omega
    subst er
    rw [List.take_length] at hI
    refine ⟨Nat.zero_le _, .inl rfl, FinG.mk _ rfl rfl ?_⟩
    rw [idx_miss hI]
    rfl
set_option maxRecDepth 100000 in
theorem c_contains (l : List Int) (x : Int) (hl : l.length < 4611686018427387904) (H : List Blk) : ACall Tryz.prog 164 [eInts l, n' x] H (.ret (.lit (.bool (decide (x ∈ l))))) H := by
 have key : 0 ≤ idxOf (fun y => x = y) l ↔ x ∈ l := idx_nonneg.trans ⟨fun ⟨y, h1, h2⟩ => by rw [h2]; exact h1, fun h => ⟨x, h, rfl⟩⟩
 refine fn_rule (m := false) (fn := Tryz.f164) (c := (Tryz.f164.body).getD .skip) mixed (by kernel_rfl) (by kernel_rfl) (of_decide_eq_true (by kernel_rfl)) ?_ ?_ ?_ H
 ·exact ⟨under_eInts 0 _, trivial, trivial⟩
 ·trivial
 ·refine CallG.pure _ (c_index l x hl) ?_
  refine If.mk (fun h => ?_) (fun h => ?_)
  ·exact ⟨.inl rfl, FinG.yes rfl rfl (key.1 h)⟩
  ·exact ⟨.inl rfl, FinG.no rfl rfl (fun e => h (key.2 e))⟩
def cuesI (l : List Nat) : List Int := l.map fun c : Nat => (c : Int)
def cuesA (l : List Nat) : AV := eInts (cuesI l)
theorem cuesI_length (l : List Nat) : (cuesI l).length = l.length := List.length_map _
theorem cuesI_snoc (l : List Nat) (r : Nat) : cuesI (l ++ [r]) = cuesI l ++ [(r : Int)] := List.map_append
theorem under_cuesA (n : Nat) (l : List Nat) : (cuesA l).under n := under_eInts n _
theorem cuesI_ok {k : Nat} {l : List Nat} (h : OkL k l) : CuesOk k (cuesI l) := fun c hc => by
 obtain ⟨x, hx, rfl⟩ := List.mem_map.1 hc
 have := h x hx
 omega
theorem ACall.weakRet' {P : Program} {f : FuncId} {args : List AV} {H H' : List Blk} {v v' : AV} (h : ACall P f args H (.ret v) H') (hw : ∀ H, WeakH H v v') : ACall P f args H (.ret v') H' := by
 intro O ι w cs hR hargs
 refine (h O ι w cs hR hargs).mono ?_
 rintro e w' ⟨ι', hend, hR', hev, hnon⟩
 refine ⟨ι', ?_, hR', hev, hnon⟩
 cases e with
 | returned c => exact hw H' O ι' w' c hend
 | panicked chain => exact hend.elim
 | outgrown => exact hend.elim
theorem wk_snocI {now : List Int} {r : Nat} {tl : Tail} (H : List Blk) : WeakH H (.sl (now.length + 1) (now.map n' ++ [n' r]) tl) (eInts (now ++ [(r : Int)])) := by
 unfold eInts
 rw [List.length_append, List.map_append]
 exact WeakH.tail _ _ _ H
theorem fn_preE {P : Program} {m : Bool} {f : FuncId} {fn : Func} {c : Code} {args : List AV} {t0 : Trie Blk} {Hp : List Blk} {n0 : Nat} (Pr : AV → Prop) (hm : P.follows .mixedOrders = true) (hf : P.funcs[f]? = some fn) (hb : fn.body = some c) (hn : args.length ≤ fn.ntmps)
  (hH : HT t0 n0 Hp) (ha : AV.unders n0 args) (hp : ∀ B ∈ Hp, B.under n0)
  (h : gCode P m fn.ntmps none c (initVars 0 args) t0 n0 [] noLo fun x e lo => (x = .ret ∨ x = .normal) ∧ n0 ≤ lo ∧ e.defs = [] ∧ ∃ vs v, resT P (get e.t) e.vars fn.results.toList = some vs ∧ (∀ H, WeakH H (resV vs) v) ∧ v.under n0 ∧ Pr v) :
  ∃ v, Pr v ∧ ∀ H2, ACall P f args (Hp ++ H2) (.ret v) (Hp ++ H2) := by
 have e0 := hH.len
 subst e0
 obtain ⟨x, e, lo, H', hH', hk', hrun, hx, hlo, hd, vs, v, hres, hw, hv, hP⟩ := gCode_spec hm c _ _ _ _ _ _ h Hp Hp hH (Keep.refl _ _)
 rw [hd] at hrun
 have hcr : ACall P f args Hp (.ret v) H' := (ACall.intro_marks hf hb hn hrun hx List.nodup_nil (resT_sound hH' hres)).weakRet' hw
 have e : H'.take Hp.length = Hp := by
  refine List.ext_getElem? fun i => ?_
  by_cases hi : i < Hp.length
  ·rw [List.getElem?_take_of_lt hi]; exact hk'.low i (by omega) hi
  ·rw [List.getElem?_eq_none (by rw [List.length_take]; omega), List.getElem?_eq_none (by omega)]
 have hcut := hcr.cut hv (by rw [e]; exact hp)
 rw [e] at hcut
 exact ⟨v, hP, fun H2 => hcut.frame rfl ha hv hp hp H2⟩
theorem wk_tup2F {H : List Blk} {a a' b : AV} (h : WeakH H a a') : WeakH H (.tup [a, b]) (.tup [a', b]) := fun O ι w c x => by
 simp only [VRel] at x ⊢
 obtain ⟨C, hc, hr⟩ := x
 refine ⟨C, hc, ?_⟩
 generalize C.toList = cs at hr ⊢
 match cs, hr with
 | [], hr => simp [VRels] at hr
 | [_], hr => simp [VRels] at hr
 | x :: y :: cs, hr =>
  simp only [VRels] at hr ⊢
  exact ⟨h O ι w x hr.1, hr.2⟩
def firstV (o : Option (List Nat)) : AV := .tup [match o with | none => cuesA [] | some l => cuesA l, nb o.isSome]
theorem under_firstV (n : Nat) (o : Option (List Nat)) : (firstV o).under n := by
 cases o with
 | none => exact ⟨under_cuesA n _, trivial, trivial⟩
 | some l => exact ⟨under_cuesA n _, trivial, trivial⟩
theorem WeakH.fullOwnN {H : List Blk} {r len : Nat} {cells : List AV} {sz : Nat} (hn : cells.length = len * sz) (hr : H[r]? = some (.row 0)) : WeakH H (.sl len cells .full) (.sl len cells (.own r 0 sz)) := fun _ _ _ _ h => by
 simp only [VRel] at h ⊢
 obtain ⟨base, cap, hc, hle, hcells, ht⟩ := h
 exact ⟨base, cap, hc, hle, hcells, hn, 0, hr, Nat.le_refl _, fun _ => .inl ht⟩
end Go.Vm
