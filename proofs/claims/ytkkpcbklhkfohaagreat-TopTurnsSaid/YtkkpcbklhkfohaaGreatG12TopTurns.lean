/-
  Texts of the proof, part 12: the machine, contracts of functions, plain laws. (Own work.)
-/
import Derived.Test.YtkkpcbklhkfohaaGreatG11TopTurns
import Derived.Test.YtkkpcbklhkfohaaGreatG07TopTurns
import Derived.KernelRfl

namespace Go.Vm
def Lx : List Nat → List Nat → Prop
 | a :: l, b :: m => a < b ∨ a = b ∧ Lx l m
 | _, _ => False
def LL (a b : List Nat) : Prop := a.length < b.length ∨ a.length = b.length ∧ Lx a b
def LE (a b : List Nat) : Prop := LL a b ∨ a = b
theorem Lx.trans : ∀ {a b c : List Nat}, Lx a b → Lx b c → Lx a c
 | a :: l, b :: m, c :: k, h, h' => by
  have h : a < b ∨ a = b ∧ Lx l m := h
  have h' : b < c ∨ b = c ∧ Lx m k := h'
  show a < c ∨ a = c ∧ Lx l k
  rcases h with h | ⟨h, h2⟩ <;> rcases h' with h' | ⟨h', h2'⟩
  ·exact .inl (by omega)
  ·exact .inl (by omega)
  ·exact .inl (by omega)
  ·exact .inr ⟨by omega, h2.trans h2'⟩
 | [], _, _, h, _ => h.elim
 | _ :: _, [], _, h, _ => h.elim
 | _ :: _, _ :: _, [], _, h => h.elim
theorem Lx.irrefl : ∀ a : List Nat, ¬ Lx a a
 | [], h => h
 | a :: l, h => by
  have h : a < a ∨ a = a ∧ Lx l l := h
  rcases h with h | ⟨_, h⟩
  ·omega
  ·exact Lx.irrefl l h
theorem LL.trans {a b c : List Nat} (h : LL a b) (h' : LL b c) : LL a c := by
 rcases h with h | ⟨h, h2⟩ <;> rcases h' with h' | ⟨h', h2'⟩
 ·exact .inl (by omega)
 ·exact .inl (by omega)
 ·exact .inl (by omega)
 ·exact .inr ⟨by omega, h2.trans h2'⟩
theorem LL.irrefl (a : List Nat) : ¬ LL a a := fun h => by
 rcases h with h | ⟨_, h⟩
 ·omega
 ·exact Lx.irrefl a h
theorem LE.trans {a b c : List Nat} (h : LE a b) (h' : LE b c) : LE a c := by
 rcases h with h | rfl
 ·rcases h' with h' | rfl
  ·exact .inl (h.trans h')
  ·exact .inl h
 ·exact h'
theorem LL.of_le {a b c : List Nat} (h : LL a b) (h' : LE b c) : LL a c := by
 rcases h' with h' | rfl
 ·exact h.trans h'
 ·exact h
theorem LE.antisymm {a b : List Nat} (h : LE a b) (h' : LE b a) : a = b := by
 rcases h with h | h
 ·exact absurd (h.of_le h') (LL.irrefl a)
 ·exact h
theorem Lx.snoc : ∀ {a b : List Nat}, Lx a b → ∀ c d, Lx (a ++ [c]) (b ++ [d])
 | a :: l, b :: m, h, c, d => by
  have h : a < b ∨ a = b ∧ Lx l m := h
  show a < b ∨ a = b ∧ Lx (l ++ [c]) (m ++ [d])
  rcases h with h | ⟨h, h2⟩
  ·exact .inl h
  ·exact .inr ⟨h, h2.snoc c d⟩
 | [], _, h, _, _ => h.elim
 | _ :: _, [], h, _, _ => h.elim
theorem Lx.last : ∀ (a : List Nat) {c d : Nat}, c < d → Lx (a ++ [c]) (a ++ [d])
 | [], _, _, h => .inl h
 | _ :: l, _, _, h => .inr ⟨rfl, Lx.last l h⟩
theorem LL.snoc {a b : List Nat} (h : LL a b) (c d : Nat) : LL (a ++ [c]) (b ++ [d]) := by
 rcases h with h | ⟨h, h2⟩
 ·exact .inl (by simp; omega)
 ·exact .inr ⟨by simp [h], h2.snoc c d⟩
theorem LL.last (a : List Nat) {c d : Nat} (h : c < d) : LL (a ++ [c]) (a ++ [d]) := .inr ⟨by simp, Lx.last a h⟩
theorem LE.snoc {a b : List Nat} (h : LE a b) {c d : Nat} (hc : c ≤ d) : LE (a ++ [c]) (b ++ [d]) := by
 rcases h with h | rfl
 ·exact .inl (h.snoc c d)
 ·rcases Nat.lt_or_ge c d with h | h
  ·exact .inl (LL.last a h)
  ·obtain rfl : c = d := by omega
   exact .inr rfl
theorem LL.longer (a : List Nat) (c : Nat) : LL a (a ++ [c]) := .inl (by simp)
theorem LE.more (a : List Nat) (d : Nat) : ∀ t : List Nat, LE (a ++ [d]) (a ++ d :: t)
 | [] => .inr rfl
 | _ :: _ => .inl (.inl (by simp))
theorem LL.nil {a : List Nat} (h : a ≠ []) : LL [] a := .inl (List.length_pos_iff.2 h)
section
variable {K : Type} (next : K → Nat → K) (done : K → Prop) (start : K) (c : Nat)
def runB (l : List Nat) : K := l.foldl next start
theorem runB_snoc (l : List Nat) (d : Nat) : runB next start (l ++ [d]) = next (runB next start l) d := by
 unfold runB
 rw [List.foldl_append]; rfl
def OkL (l : List Nat) : Prop := ∀ x ∈ l, x < c
def Least (x : K) (l : List Nat) : Prop := runB next start l = x ∧ OkL c l ∧ ∀ u, OkL c u → runB next start u = x → LE l u
structure InvO (q : List (K × List Nat)) (met : List K) (proc : K → Prop) : Prop where
 s : start ∈ met
 split : ∀ y ∈ met, proc y ∨ ∃ m, (y, m) ∈ q
 nd : ∀ y, proc y → ¬ done y
 cl : ∀ y, proc y → ∀ d, d < c → next y d ∈ met
 least : ∀ p ∈ q, Least next start c p.1 p.2
 sorted : q.Pairwise fun a b => LL a.2 b.2
 par : ∀ p ∈ q, p.2 = [] ∨ ∃ m0 c0, p.2 = m0 ++ [c0] ∧ ∀ h ∈ q.head?, LL m0 h.2
structure InvI (x : K) (l : List Nat) (r : Nat) (q : List (K × List Nat)) (met : List K) (proc : K → Prop) : Prop where
 s : start ∈ met
 split : ∀ y ∈ met, (proc y ∨ y = x) ∨ ∃ m, (y, m) ∈ q
 nd : ∀ y, proc y → ¬ done y
 ndx : ¬ done x
 cl : ∀ y, proc y → ∀ d, d < c → next y d ∈ met
 clx : ∀ d, d < r → next x d ∈ met
 leastx : Least next start c x l
 least : ∀ p ∈ q, Least next start c p.1 p.2
 sorted : q.Pairwise fun a b => LL a.2 b.2
 above : ∀ p ∈ q, LL l p.2
 par : ∀ p ∈ q, p.2 = [] ∨ ∃ m0 c0, p.2 = m0 ++ [c0] ∧ (LL m0 l ∨ m0 = l ∧ c0 < r)
variable {next done start c}
theorem InvO.begin : InvO next done start c [(start, [])] [start] fun _ => False := by
 refine ⟨by simp, fun y hy => .inr ⟨[], by simp at hy; simp [hy]⟩, fun _ h => h.elim, fun _ h => h.elim, fun p hp => ?_, List.pairwise_singleton _ _, fun p hp => ?_⟩
 ·rw [List.mem_singleton] at hp; subst hp
  refine ⟨rfl, (fun _ h => by cases h), fun u _ _ => ?_⟩
  cases u with
  | nil => exact .inr rfl
  | cons a u => exact .inl (LL.nil (by simp))
 ·rw [List.mem_singleton] at hp; subst hp; exact .inl rfl
theorem InvO.take {x : K} {l : List Nat} {q : List (K × List Nat)} {met : List K} {proc : K → Prop} (h : InvO next done start c ((x, l) :: q) met proc) (hd : ¬ done x) : InvI next done start c x l 0 q met proc := by
 have hs := List.pairwise_cons.1 h.sorted
 refine ⟨h.s, fun y hy => ?_, h.nd, hd, h.cl, (fun d hd => by omega), h.least (x, l) (by simp), fun p hp => h.least p (by simp [hp]), hs.2, fun p hp => hs.1 p hp, fun p hp => ?_⟩
 ·rcases h.split y hy with h1 | ⟨m, h1⟩
  ·exact .inl (.inl h1)
  ·rcases List.mem_cons.1 h1 with e | h1
   ·cases e; exact .inl (.inr rfl)
   ·exact .inr ⟨m, h1⟩
 ·rcases h.par p (by simp [hp]) with h1 | ⟨m0, c0, e, h1⟩
  ·exact .inl h1
  ·exact .inr ⟨m0, c0, e, .inl (h1 (x, l) (by simp))⟩
theorem InvI.old {x : K} {l : List Nat} {r : Nat} {q : List (K × List Nat)} {met : List K} {proc : K → Prop} (h : InvI next done start c x l r q met proc) (hm : next x r ∈ met) : InvI next done start c x l (r + 1) q met proc := by
 refine ⟨h.s, h.split, h.nd, h.ndx, h.cl, fun d hd => ?_, h.leastx, h.least, h.sorted, h.above, fun p hp => ?_⟩
 ·by_cases e : d = r
  ·subst e; exact hm
  ·exact h.clx d (by omega)
 ·rcases h.par p hp with h1 | ⟨m0, c0, e, h1⟩
  ·exact .inl h1
  ·exact .inr ⟨m0, c0, e, h1.imp (fun h => h) (fun h => ⟨h.1, by omega⟩)⟩
theorem leaves {met : List K} : ∀ (t u : List Nat), runB next start u ∈ met → runB next start (u ++ t) ∉ met → ∃ w d t', u ++ t = w ++ d :: t' ∧ runB next start w ∈ met ∧ next (runB next start w) d ∉ met
 | [], u, h, h' => absurd h (by rwa [List.append_nil] at h')
 | d :: t, u, h, h' => by
  by_cases hm : next (runB next start u) d ∈ met
  ·have e : u ++ d :: t = (u ++ [d]) ++ t := by simp
   rw [e] at h' ⊢
   exact leaves t (u ++ [d]) (by rw [runB_snoc]; exact hm) h'
  ·exact ⟨u, d, t, rfl, h, hm⟩
theorem InvI.new {x : K} {l : List Nat} {r : Nat} {q : List (K × List Nat)} {met : List K} {proc : K → Prop} (h : InvI next done start c x l r q met proc) (hr : r < c) (hm : next x r ∉ met) :
  InvI next done start c x l (r + 1) (q ++ [(next x r, l ++ [r])]) (met ++ [next x r]) proc := by
 obtain ⟨hx1, hx2, hx3⟩ := h.leastx
 have before : ∀ p ∈ q, LL p.2 (l ++ [r]) := fun p hp => by
  rcases h.par p hp with h1 | ⟨m0, c0, e, h1⟩
  ·rw [h1]; exact LL.nil (by simp)
  ·rw [e]
   rcases h1 with h1 | ⟨rfl, h1⟩
   ·exact h1.snoc _ _
   ·exact LL.last _ h1
 have lnew : Least next start c (next x r) (l ++ [r]) := by
  refine ⟨by rw [runB_snoc, hx1], fun y hy => ?_, fun u hu hru => ?_⟩
  ·rcases List.mem_append.1 hy with hy | hy
   ·exact hx2 y hy
   ·rw [List.mem_singleton] at hy; omega
  ·obtain ⟨w, d, t', e, hw, hd⟩ := leaves (next := next) (start := start) (met := met) u [] h.s (by rw [List.nil_append, hru]; exact hm)
   rw [List.nil_append] at e
   subst e
   have hdc : d < c := hu d (by simp)
   have hwo : OkL c w := fun y hy => hu y (by simp [hy])
   have hlw : LE l w ∧ (LL l w ∨ r ≤ d) := by
    rcases h.split _ hw with (h1 | h1) | ⟨m, h1⟩
    ·exact absurd (h.cl _ h1 d hdc) hd
    ·refine ⟨hx3 w hwo h1, .inr ?_⟩
     rcases Nat.lt_or_ge d r with h2 | h2
     ·exact absurd (by rw [h1]; exact h.clx d h2) hd
     ·exact h2
    ·have h2 := (h.least _ h1).2.2 w hwo rfl
     have h3 := (h.above _ h1).of_le h2
     exact ⟨.inl h3, .inl h3⟩
   refine LE.trans ?_ (LE.more w d t')
   rcases hlw.2 with h2 | h2
   ·exact .inl (h2.snoc _ _)
   ·exact hlw.1.snoc h2
 refine ⟨by simp [h.s], fun y hy => ?_, h.nd, h.ndx, fun y hy d hd => by simp [h.cl y hy d hd], fun d hd => ?_, h.leastx, fun p hp => ?_, ?_, fun p hp => ?_, fun p hp => ?_⟩
 ·rcases List.mem_append.1 hy with hy | hy
  ·rcases h.split y hy with h1 | ⟨m, h1⟩
   ·exact .inl h1
   ·exact .inr ⟨m, by simp [h1]⟩
  ·rw [List.mem_singleton] at hy; subst hy
   exact .inr ⟨l ++ [r], by simp⟩
 ·by_cases e : d = r
  ·subst e; simp
  ·simp [h.clx d (by omega)]
 ·rcases List.mem_append.1 hp with hp | hp
  ·exact h.least p hp
  ·rw [List.mem_singleton] at hp; subst hp; exact lnew
 ·rw [List.pairwise_append]
  refine ⟨h.sorted, List.pairwise_singleton _ _, fun a ha b hb => ?_⟩
  rw [List.mem_singleton] at hb; subst hb
  exact before a ha
 ·rcases List.mem_append.1 hp with hp | hp
  ·exact h.above p hp
  ·rw [List.mem_singleton] at hp; subst hp; exact LL.longer l r
 ·rcases List.mem_append.1 hp with hp | hp
  ·rcases h.par p hp with h1 | ⟨m0, c0, e, h1⟩
   ·exact .inl h1
   ·exact .inr ⟨m0, c0, e, h1.imp (fun h => h) (fun h => ⟨h.1, by omega⟩)⟩
  ·rw [List.mem_singleton] at hp; subst hp
   exact .inr ⟨l, r, rfl, .inr ⟨rfl, by omega⟩⟩
theorem InvI.over {x : K} {l : List Nat} {q : List (K × List Nat)} {met : List K} {proc : K → Prop} (h : InvI next done start c x l c q met proc) : InvO next done start c q met fun y => proc y ∨ y = x := by
 refine ⟨h.s, h.split, fun y hy => ?_, fun y hy d hd => ?_, h.least, h.sorted, fun p hp => ?_⟩
 ·rcases hy with hy | rfl
  ·exact h.nd y hy
  ·exact h.ndx
 ·rcases hy with hy | rfl
  ·exact h.cl y hy d hd
  ·exact h.clx d hd
 ·rcases h.par p hp with h1 | ⟨m0, c0, e, h1⟩
  ·exact .inl h1
  ·refine .inr ⟨m0, c0, e, fun k hk => ?_⟩
   have hkq : k ∈ q := List.mem_of_mem_head? hk
   have h2 := h.above k hkq
   rcases h1 with h1 | ⟨rfl, _⟩
   ·exact h1.trans h2
   ·exact h2
structure Found (next : K → Nat → K) (done : K → Prop) (start : K) (c : Nat) (o : Option (List Nat)) : Prop where
 yes : ∀ l, o = some l → OkL c l ∧ done (runB next start l) ∧ ∀ u, OkL c u → done (runB next start u) → LE l u
 no : o = none → ∀ u, OkL c u → ¬ done (runB next start u)
theorem passes {q : List (K × List Nat)} {met : List K} {proc : K → Prop} (h : InvO next done start c q met proc) : ∀ (t u : List Nat), OkL c (u ++ t) → runB next start u ∈ met → proc (runB next start (u ++ t)) ∨ ∃ p ∈ q, LE p.2 (u ++ t)
 | [], u, ho, hm => by
  rw [List.append_nil] at ho ⊢
  rcases h.split _ hm with h1 | ⟨m, h1⟩
  ·exact .inl h1
  ·exact .inr ⟨_, h1, (h.least _ h1).2.2 u ho rfl⟩
 | d :: t, u, ho, hm => by
  rcases h.split _ hm with h1 | ⟨m, h1⟩
  ·have e : u ++ d :: t = (u ++ [d]) ++ t := by simp
   have hd : d < c := ho d (by simp)
   rw [e] at ho ⊢
   exact passes h t (u ++ [d]) ho (by rw [runB_snoc]; exact h.cl _ h1 d hd)
  ·have hu : OkL c u := fun y hy => ho y (by simp [hy])
   exact .inr ⟨_, h1, LE.trans ((h.least _ h1).2.2 u hu rfl) (.inl (.inl (by simp)))⟩
theorem InvO.found {x : K} {l : List Nat} {q : List (K × List Nat)} {met : List K} {proc : K → Prop} (h : InvO next done start c ((x, l) :: q) met proc) (hd : done x) : Found next done start c (some l) := by
 refine ⟨fun l' e => ?_, (fun e => by cases e)⟩
 cases e
 obtain ⟨h1, h2, h3⟩ := h.least (x, l) (by simp)
 refine ⟨h2, by rw [h1]; exact hd, fun u hu hdu => ?_⟩
 rcases passes h u [] hu h.s with h4 | ⟨p, hp, h4⟩
 ·exact absurd hdu (h.nd _ h4)
 ·rcases List.mem_cons.1 hp with rfl | hp
  ·exact h4
  ·exact LE.trans (.inl ((List.pairwise_cons.1 h.sorted).1 p hp)) h4
theorem InvO.nothing {met : List K} {proc : K → Prop} (h : InvO next done start c [] met proc) : Found next done start c Option.none := by
 refine ⟨(fun l e => by cases e), fun _ u hu hdu => ?_⟩
 rcases passes h u [] hu h.s with h4 | ⟨p, hp, _⟩
 ·exact h.nd _ h4 hdu
 ·cases hp
end
theorem nodup_length {α : Type} [DecidableEq α] : ∀ {l U : List α}, l.Nodup → (∀ x ∈ l, x ∈ U) → l.length ≤ U.length
 | [], _, _, _ => Nat.zero_le _
 | x :: l, U, hn, hU => by
  obtain ⟨h1, h2⟩ := List.nodup_cons.1 hn
  have hx := hU x (by simp)
  have ih := nodup_length (l := l) (U := U.erase x) h2 fun y hy => by
   refine (List.mem_erase_of_ne ?_).2 (hU y (by simp [hy]))
   rintro rfl; exact h1 hy
  rw [List.length_erase_of_mem hx] at ih
  have := List.length_pos_of_mem hx
  rw [List.length_cons]; omega
end Go.Vm

namespace Go.Vm
inductive Edt : Nat → List Int → List Int → Prop
 | nil : Edt 0 [] []
 | keep {n : Nat} {a b : List Int} (x : Int) (h : Edt n a b) : Edt n (x :: a) (x :: b)
 | change {n : Nat} {a b : List Int} (x y : Int) (h : Edt n a b) : Edt (n + 1) (x :: a) (y :: b)
 | drop {n : Nat} {a b : List Int} (x : Int) (h : Edt n a b) : Edt (n + 1) (x :: a) b
 | add {n : Nat} {a b : List Int} (y : Int) (h : Edt n a b) : Edt (n + 1) a (y :: b)
end Go.Vm

namespace Go.Vm
structure FewOk (l : List (List Int × Int)) (q : List (List Int) × Int) : Prop where
 low : ∀ p ∈ l, q.2 ≤ p.2
 met : ∃ p ∈ l, p.2 = q.2
 out : q.1 = (l.filter fun p => p.2 == q.2).map (·.1)
end Go.Vm

namespace Go.Vm
open Go.Proofs Go.RowKit
theorem CallG.inlineP {P : Program} {m : Bool} {f : FuncId} {fn : Func} {c : Code} {args : List AV} {t : Trie Blk} {n : Nat} {K Kp : AV → Trie Blk → Nat → Nat → Prop} (hm : P.follows .mixedOrders = true) (hf : P.funcs[f]? = some fn) (hb : fn.body = some c) (hn : args.length ≤ fn.ntmps)
  (h : gCode P m fn.ntmps none c (initVars 0 args) t n [] noLo fun x e lo => ((x = .ret ∨ x = .normal) ∧ ∃ vs, resT P (get e.t) e.vars fn.results.toList = some vs ∧ e.defs = [] ∧ K (resV vs) e.t e.n lo) ∨ ∃ v, x = .pan v ∧ e.defs = [] ∧ Kp v e.t e.n lo) : CallG P f args t n K Kp := by
 refine ⟨fun H hH => ?_⟩
 obtain ⟨x, e, lo, H', hH', hk', hrun, hx⟩ := gCode_spec hm c _ _ _ _ _ _ h H H hH (Keep.refl _ _)
 rcases hx with ⟨hx, vs, hres, hd, hK⟩ | ⟨v, rfl, hd, hK⟩
 ·rw [hd] at hrun
  exact .inl ⟨resV vs, e.t, e.n, lo, H', hH', ACall.intro_marks hf hb hn hrun hx List.nodup_nil (resT_sound hH' hres), hk', hK⟩
 ·exact .inr ⟨v, e.t, e.n, lo, H', hH', ACall.intro_pan hf hb hn hrun hd, hk', hK⟩
end Go.Vm

namespace Go.Vm
open Go.Proofs Go.RowKit
theorem RangeG.outer {P : Program} {g : Operand} {ps : Array Tmp} {assign body : Code} {k : Nat} {vars : Trie AV} {t : Trie Blk} {n : Nat} {d : List Nat} {lo : Nat} {Q : CodeQ} {fv : AV} {f : FuncId} {first captured : List AV}
    (hg : evalT vars g = some fv) (hf : fnOf fv = some (f, first, captured)) (hc : callable P f = true)
    (h : CallG P f (first ++ [.yld (n + 1)] ++ captured) (set (set t n .defd) (n + 1) (.loop (loop0 ⟨k, vars, [], []⟩ ps assign body n))) (n + 2)
      (fun _ t' n' l => ∃ l' e, get t' (n + 1) = some (.loop l') ∧ l'.state ≠ .busy ∧ jumpTo l'.pending = some e ∧ Q e ⟨vars, set t' (n + 1) (.loop { l' with state := .exhausted }), n', n :: d⟩ (min lo l)) (fun _ _ _ _ => False)) :
    RangeG P none (.rangeFunc g ps assign body) k vars t n d lo Q := by
  refine ⟨fun H H0 hH hk => ?_⟩
  obtain ⟨h⟩ := h
  have hlen := hH.len
  have e0 : H ++ [Blk.defd, .loop (loop0 ⟨k, vars, [], []⟩ ps assign body n)] = (H ++ [.defd]) ++ [.loop (loop0 ⟨k, vars, [], []⟩ ps assign body n)] := by simp
  have hH2 : HT (set (set t n .defd) (n + 1) (.loop (loop0 ⟨k, vars, [], []⟩ ps assign body n))) (n + 2) (H ++ [Blk.defd, .loop (loop0 ⟨k, vars, [], []⟩ ps assign body n)]) := by
    rw [e0]; exact (hH.push _).push _
  obtain ⟨v, t', n', l, H', hH', hca, hkc, l', e, hl', hb, hj, hQ⟩ := (h _ hH2).resolve_right (fun ⟨_, _, _, _, _, _, _, _, x⟩ => x)
  have hbl := hH'.blk _ _ hl'
  have hrun := Run.rangeFunc_outer (P := P) (σ := ⟨k, vars, H, d⟩) (ps := ps) (assign := assign) (body := body) (g := g) (v := v) (H2 := H') (l' := l') (e := e) (by rw [← evalT_eq k vars H d]; exact hg) hf hc
    (by show ACall P f (first ++ [.yld (H.length + 1)] ++ captured) (H ++ [.defd, .loop (loop0 ⟨k, vars, H, d⟩ ps assign body H.length)]) (.ret v) H'
        rw [hlen]; exact hca) (by show H'[H.length + 1]? = _; rw [hlen]; exact hbl) hb (fun id hid => hkc.marks id (by rw [e0]; exact keepsD_append _ _ id hid)) hj
  have hrun' : Run P none (.rangeFunc g ps assign body) ⟨k, vars, H, d⟩ e ⟨k, vars, H'.set (n + 1) (.loop { l' with state := .exhausted }), n :: d⟩ := by
    have := hrun
    simp only [hlen] at this
    exact this
  refine ⟨e, _, _, _, hH'.set (hH'.lt hl') _, ?_, hrun', hQ⟩
  have hk2 : Keep H H' l := (Keep.append H _ l).trans hkc (Nat.le_refl _) (Nat.le_refl _)
  have hk3 : Keep H (H'.set (n + 1) (.loop { l' with state := .exhausted })) l := by
    refine ⟨by have := hk2.le; simp; omega, fun id h1 h2 => ?_, fun id hid => ?_⟩
    · rw [List.getElem?_set_ne (by omega)]; exact hk2.low id h1 h2
    · have hlt := (List.getElem?_eq_some_iff.1 hid).1
      rw [List.getElem?_set_ne (by omega)]
      exact hk2.marks id hid
  exact hk.trans hk3 (Nat.min_le_left _ _) (Nat.min_le_right _ _)
end Go.Vm

namespace Go.Vm
open Go.Proofs Go.RowKit
theorem Run.fewer {P : Program} {ro : Option Nat} {c : Code} {k : Nat} {V V0 : Trie AV} {H : List Blk} {d : List Nat} {x : AExit} {σ' : St} (h : Run P ro c ⟨k, V0, H, d⟩ x σ') (hv : ∀ s v, get V0 s = some v → ∃ v1, get V s = some v1 ∧ WeakH H v1 v) : Run P ro c ⟨k, V, H, d⟩ x σ' := by
 intro O ι a w cro hro hs
 refine h O ι a w cro hro ⟨hs.rel, hs.size, fun s v hg => ?_, hs.defs⟩
 obtain ⟨v1, hg1, hw⟩ := hv s v hg
 obtain ⟨c, hc, hr⟩ := hs.vars s v1 hg1
 exact ⟨c, hc, hw O ι w c hr⟩
theorem HT.subN {t : Trie Blk} {n m : Nat} {H : List Blk} {L0 : List (Nat × Blk)} (hH : HT t n H) (h : Blks (get t) m L0) : HT (ofL L0) n H :=
 ⟨hH.len, fun _ _ hg => hH.blk _ _ (h.mem _ (get_ofL hg)).1⟩
theorem RangeG.fresh {P : Program} {ro : Option Nat} {c : Code} {k : Nat} {vars : Trie AV} {t : Trie Blk} {n n0 : Nat} {d : List Nat} {lo : Nat} {Q : CodeQ} (S : List (Nat × AV)) (T : List (Nat × Blk)) (hn : n = n0) (hS : SlotsW (get vars) t S) (hT : Blks (get t) noLo T)
  (h : RangeG P ro c k (ofL S) (ofL T) n0 d lo Q) : RangeG P ro c k vars t n d lo Q := by
 subst hn
 obtain ⟨h⟩ := h
 refine ⟨fun H H0 hH hk => ?_⟩
 obtain ⟨x, e, lo', H', h1, h2, h3, h4⟩ := h H H0 (hH.subN hT) hk
 exact ⟨x, e, lo', H', h1, h2, h3.fewer fun s v hg => by
  obtain ⟨v1, g1, g2⟩ := hS.mem _ (get_ofL hg)
  exact ⟨v1, g1, g2 _ _ hH⟩, h4⟩
inductive FinM (P : Program) (rs : List ResultVar) (e : ES) (v : AV) : Prop
 | mk (vs : List AV) (h : resT P (get (spendT e.defs e.t)) e.vars rs = some vs) (hd : (e.defs.all (fun d => Nat.blt d e.n) && nodupB e.defs) = true) (hv : (resV vs).freeze (get (spendT e.defs e.t)) = v)
theorem CallG.fresh {P : Program} {f : FuncId} {args : List AV} {t : Trie Blk} {n n0 : Nat} {K Kp : AV → Trie Blk → Nat → Nat → Prop} (args' : List AV) (T : List (Nat × Blk)) (hn : n = n0) (ha : Weaks args args') (hT : Blks (get t) noLo T)
  (h : CallG P f args' (ofL T) n0 K Kp) : CallG P f args t n K Kp := by
 subst hn
 obtain ⟨h⟩ := h
 refine ⟨fun H hH => ?_⟩
 rcases h H (hH.subN hT) with ⟨v, t', n', l, H', h1, h2, h3, h4⟩ | ⟨v, t', n', l, H', h1, h2, h3, h4⟩
 ·exact .inl ⟨v, t', n', l, H', h1, fun O ι w cs hR hargs => h2 O ι w cs hR (ha.rel hargs), h3, h4⟩
 ·exact .inr ⟨v, t', n', l, H', h1, fun O ι w cs hR hargs => h2 O ι w cs hR (ha.rel hargs), h3, h4⟩
def Numd : Nat → List (Nat × Blk) → Prop
 | _, [] => True
 | i, p :: l => p.1 = i ∧ Numd (i + 1) l
theorem Numd.mem : ∀ {l : List (Nat × Blk)} {i : Nat}, Numd i l → ∀ p ∈ l, i ≤ p.1 ∧ (l.map (·.2))[p.1 - i]? = some p.2
 | [], _, _, _, hp => by cases hp
 | q :: l, i, h, p, hp => by
  rcases List.mem_cons.1 hp with rfl | hp
  ·refine ⟨by have := h.1; omega, ?_⟩
   rw [h.1, Nat.sub_self]; rfl
  ·obtain ⟨h1, h2⟩ := Numd.mem h.2 p hp
   refine ⟨by omega, ?_⟩
   rw [show p.1 - i = (p.1 - (i + 1)) + 1 by omega, List.map_cons, List.getElem?_cons_succ]
   exact h2
theorem Numd.at : ∀ {l : List (Nat × Blk)} {i : Nat}, Numd i l → ∀ j, j < l.length → ∃ p ∈ l, p.1 = i + j ∧ (l.map (·.2))[j]? = some p.2
 | [], _, _, _, hj => by simp at hj
 | q :: l, i, h, 0, _ => ⟨q, List.mem_cons_self, by have := h.1; omega, rfl⟩
 | q :: l, i, h, j + 1, hj => by
  obtain ⟨p, h1, h2, h3⟩ := Numd.at h.2 j (by simpa using hj)
  exact ⟨p, List.mem_cons_of_mem _ h1, by omega, by rw [List.map_cons, List.getElem?_cons_succ]; exact h3⟩
abbrev hp (l : List (Nat × Blk)) : List Blk := l.map (·.2)
theorem HT.full {l : List (Nat × Blk)} (h : Numd 0 l) {p : Nat} (hl : l.length = p) : HT (ofL l) p (hp l) :=
 ⟨by simpa using hl, fun id B hg => by
  obtain ⟨_, h2⟩ := h.mem _ (get_ofL hg)
  simpa using h2⟩
theorem take_full {l : List (Nat × Blk)} {H : List Blk} (h : Numd 0 l) (hB : ∀ q ∈ l, H[q.1]? = some q.2) : H.take l.length = hp l := by
 refine List.ext_getElem? fun i => ?_
 rcases Nat.lt_or_ge i l.length with hi | hi
 ·obtain ⟨q, h1, h2, h3⟩ := h.at i hi
  rw [List.getElem?_take_of_lt hi, h3, ← hB q h1, h2, Nat.zero_add]
 ·rw [List.getElem?_eq_none (by rw [List.length_take]; omega), List.getElem?_eq_none (by simpa using hi)]
noncomputable def rgn (c : Code) : Option (Array Tmp × Code × Code) :=
 Code.rec (motive := fun _ => Option (Array Tmp × Code × Code)) none (fun _ _ _ => none) (fun _ _ iha ihb => Option.rec ihb some iha) (fun _ _ _ iha ihb => Option.rec ihb some iha) (fun _ _ ih => ih) (fun _ ih => ih) (fun _ ps assign body _ _ => some (ps, assign, body)) (fun _ => none) (fun _ ih => ih) (fun _ => none)
  (fun _ => none) none (fun _ => none) c
noncomputable def lpB (fn : Func) (st : LoopState) (S : List (Nat × AV)) (d : Nat) : Blk := .loop ⟨st, none, fn.ntmps, ofL S, ((rgn (fn.body.getD .skip)).getD (#[], .skip, .skip)).1, ((rgn (fn.body.getD .skip)).getD (#[], .skip, .skip)).2.1, ((rgn (fn.body.getD .skip)).getD (#[], .skip, .skip)).2.2, d⟩
def UnderS (n : Nat) : List (Nat × AV) → Prop
 | [] => True
 | p :: l => p.2.under n ∧ UnderS n l
theorem UnderS.mem {n : Nat} : ∀ {l : List (Nat × AV)}, UnderS n l → ∀ p ∈ l, p.2.under n
 | [], _, _, h => by cases h
 | q :: l, hs, p, h => by
  rcases List.mem_cons.1 h with rfl | h
  ·exact hs.1
  ·exact UnderS.mem hs.2 p h
theorem under_lpB {fn : Func} {st : LoopState} {n d : Nat} {S : List (Nat × AV)} (h : UnderS n S) (hd : d < n) : (lpB fn st S d).under n := ⟨fun _ _ hg => h.mem _ (get_ofL hg), hd⟩
end Go.Vm

namespace Go.Vm
open Go.Proofs Go.RowKit
inductive Lent (id gen : Nat) (cells : List AV) : List AV → List AV → Prop
 | nil : Lent id gen cells [] []
 | same {a : AV} {l l' : List AV} (t : Lent id gen cells l l') : Lent id gen cells (a :: l) (a :: l')
 | this {len : Nat} {l l' : List AV} (h : len = cells.length) (t : Lent id gen cells l l') : Lent id gen cells (.msl id gen len 1 :: l) (.sl len cells .unk :: l')
end Go.Vm

namespace Go.Vm
open Go.Proofs Go.RowKit
inductive Lend (id N : Nat) (cells : List AV) : List AV → List AV → Prop
 | nil : Lend id N cells [] []
 | same {a : AV} {l l' : List AV} (h : a.under 0) (t : Lend id N cells l l') : Lend id N cells (a :: l) (a :: l')
 | this {l l' : List AV} (t : Lend id N cells l l') : Lend id N cells (.hsl id 0 N N :: l) (.sl N cells .unk :: l')
end Go.Vm

namespace Go.Vm
open Go.Proofs Go.RowKit
inductive Dry : AV → Prop
 | lit (v : Value) : Dry (.lit v)
 | tup {l : List AV} (h : ∀ a ∈ l, ∃ v, a = .lit v) : Dry (.tup l)
inductive LendM (id gen N : Nat) (cells : List AV) : List AV → List AV → Prop
 | nil : LendM id gen N cells [] []
 | same {a : AV} {l l' : List AV} (h : a.under 0) (t : LendM id gen N cells l l') : LendM id gen N cells (a :: l) (a :: l')
 | this {l l' : List AV} (t : LendM id gen N cells l l') : LendM id gen N cells (.msl id gen N 1 :: l) (.sl N cells .unk :: l')
end Go.Vm

namespace Go.Vm
def Inc : List Nat → Prop
 | a :: b :: l => a < b ∧ Inc (b :: l)
 | _ => True
end Go.Vm

namespace Go.Vm
section
variable {K : Type} {next : K → Nat → K} {done : K → Prop} {start : K} {c : Nat}
variable [DecidableEq K]
end
def stpK (key : List Nat → Nat) (s : List Nat × List (List Nat)) (m : List Nat) : List Nat × List (List Nat) := if key m ∈ s.1 then s else (s.1 ++ [key m], s.2 ++ [m])
section
variable {K : Type} (next : K → Nat → K) (done : K → Prop) (start : K) (c : Nat) (key : List Nat → Nat)
def nxO : Option K → Nat → Option K
 | none, d => some (next start d)
 | some y, d => some (next y d)
def dnO : Option K → Prop
 | none => done start
 | some y => done y
structure InvW (ks : List Nat) (lev : List (List Nat)) (n : Nat) : Prop where
 inv : ∃ met proc, InvO (nxO next start) (dnO done start) none c (lev.map fun l => (runB (nxO next start) none l, l)) met proc ∧ ∃ ls : List (List Nat), (∀ l ∈ ls, OkL c l ∧ ∃ l' d, l = l' ++ [d]) ∧ met = none :: ls.map (fun l => runB (nxO next start) none l) ∧ ks = ls.map key
 len : ∀ l ∈ lev, l.length = n ∧ OkL c l
 nodup : ks.Nodup
 few : lev.length ≤ ks.length + 1
 long : n ≤ ks.length ∨ lev = []
 keys : ∀ x ∈ ks, ∃ l, OkL c l ∧ x = key l
variable {next done start c key}
structure Adds (key : List Nat → Nat) (w : List (List Nat)) (ks : List Nat) (nx : List (List Nat)) (s : List Nat × List (List Nat)) : Prop where
 sub : ∀ m ∈ s.2, m ∈ nx ∨ m ∈ w
 nodup : ks.Nodup → s.1.Nodup
 keys : ∀ x ∈ s.1, x ∈ ks ∨ ∃ m ∈ w, x = key m
 many : s.1.length + nx.length = ks.length + s.2.length
theorem adds : ∀ (w : List (List Nat)) (ks : List Nat) (nx : List (List Nat)), Adds key w ks nx (w.foldl (stpK key) (ks, nx))
 | [], ks, nx => ⟨fun m h => .inl h, fun h => h, fun x h => .inl h, rfl⟩
 | m :: w, ks, nx => by
  rw [List.foldl_cons]
  by_cases hm : key m ∈ ks
  ·have e1 : stpK key (ks, nx) m = (ks, nx) := if_pos hm
   rw [e1]
   obtain ⟨a, b, d, e⟩ := adds w ks nx
   exact ⟨fun x hx => (a x hx).imp id fun h => by simp [h], b, fun x hx => (d x hx).imp id fun ⟨y, h1, h2⟩ => ⟨y, by simp [h1], h2⟩, e⟩
  ·have e1 : stpK key (ks, nx) m = (ks ++ [key m], nx ++ [m]) := if_neg hm
   rw [e1]
   obtain ⟨a, b, d, e⟩ := adds w (ks ++ [key m]) (nx ++ [m])
   refine ⟨fun x hx => ?_, fun h => b ?_, fun x hx => ?_, ?_⟩
   ·rcases a x hx with h | h
    ·rcases List.mem_append.1 h with h | h
     ·exact .inl h
     ·rw [List.mem_singleton] at h; subst h; exact .inr (by simp)
    ·exact .inr (by simp [h])
   ·refine List.nodup_append.2 ⟨h, by simp, fun a ha b hb hab => ?_⟩
    rw [List.mem_singleton] at hb
    subst hb hab
    exact hm ha
   ·rcases d x hx with h | ⟨y, h1, h2⟩
    ·rcases List.mem_append.1 h with h | h
     ·exact .inl h
     ·rw [List.mem_singleton] at h; exact .inr ⟨m, by simp, h⟩
    ·exact .inr ⟨y, by simp [h1], h2⟩
   ·rw [List.length_append, List.length_append] at e
    simp only [List.length_singleton] at e
    omega
end
end Go.Vm

namespace Go.Vm
open Go.Proofs
theorem RoundG.fresh {P : Program} {id : Nat} {args : List AV} {t : Trie Blk} {n n0 : Nat} {K : AV → Trie Blk → Nat → Nat → Prop} (T : List (Nat × Blk)) (hn : n = n0) (hT : Blks (get t) noLo T)
  (h : RoundG P id args (ofL T) n0 K) : RoundG P id args t n K := by
 subst hn
 obtain ⟨h⟩ := h
 exact ⟨fun H hH => h H (hH.subN hT)⟩
theorem RoundG.introF {P : Program} {m : Bool} {id : Nat} {args : List AV} {t : Trie Blk} {n : Nat} {K : AV → Trie Blk → Nat → Nat → Prop} {l : ALoop} (hm : P.follows .mixedOrders = true) (hl : get t id = some (.loop l)) (hlen : args.length = l.params.size) (hp : ∀ s ∈ l.params, s < l.n)
  (h : gCode P m l.n (some id) l.assign (putParams l.vars l.params.toList args) t n [] noLo fun x e lo => x = .normal ∧ ∃ l1, get e.t id = some (.loop l1) ∧ l1.state = .ready ∧ ∃ S T n1, e.n = n1 ∧ SlotsW (get e.vars) (set e.t id (.loop { l1 with state := .busy })) S ∧ Blks (get (set e.t id (.loop { l1 with state := .busy }))) noLo T ∧
   gCode P m l.n (some id) l.body (ofL S) (ofL T) n1 e.defs (min lo id) fun x2 e2 lo2 => ∃ j l2, jumpOf x2 = some j ∧ get e2.t id = some (.loop l2) ∧
    K (.lit (.bool j.isNone)) (set e2.t id (.loop { l2 with state := if j.isNone then .ready else .done, pending := j })) e2.n (min lo2 id)) : RoundG P id args t n K := by
 refine ⟨fun H hH => ?_⟩
 obtain ⟨x, ⟨vars1, t1, n1, d1⟩, lo, H1, hH1, hk1, r1, rfl, l1, hl1, hst, S, T, n2, hn, hS, hT, h⟩ := gCode_spec hm _ _ _ _ _ _ _ h H H hH (Keep.refl _ _)
 have hn : n1 = n2 := hn
 subst hn
 have hb1 := hH1.blk _ _ hl1
 have hlt1 : id < n1 := hH1.lt hl1
 have hkset : ∀ {H2 : List Blk} {lo2 : Nat} {l3 : ALoop} {B : Blk}, Keep H H2 lo2 → H2[id]? = some (.loop l3) → Keep H (H2.set id B) (min lo2 id) := fun hk hb =>
  hk.trans (Keep.set hb (by intro e; cases e)) (Nat.min_le_left _ _) (Nat.min_le_right _ _)
 have hH1b : HT (set t1 id (.loop { l1 with state := .busy })) n1 (H1.set id (.loop { l1 with state := .busy })) := hH1.set hlt1 _
 obtain ⟨x2, ⟨vars2, t2, n2, d2⟩, lo2, H2, hH2, hk2, r2, j, l2, hj, hl2, hK⟩ := gCode_spec hm _ _ _ _ _ _ _ h (H1.set id (.loop { l1 with state := .busy })) H (hH1b.subN hT) (hkset hk1 hb1)
 have hb2 := hH2.blk _ _ hl2
 have r2' := r2.fewer (V := vars1) fun s v hg => by
  obtain ⟨v1, g1, g2⟩ := hS.mem _ (get_ofL hg)
  exact ⟨v1, g1, g2 _ _ hH1b⟩
 exact ⟨_, _, _, _, _, hH2.set (hH2.lt hl2) _, ARound.intro (hH.blk _ _ hl) hlen hp r1 hb1 hst r2' hb2 hj, hkset hk2 hb2, hK⟩
end Go.Vm

namespace Go.Vm
open Go.Proofs
theorem Weaks.row [O : Outer] {S : Sit} {b : Nat} {l l' : List AV} (h : Weaks l l') : ∀ {o : Nat}, VRow S b o l → VRow S b o l' := by
 obtain ⟨H, ι, w⟩ := S
 induction h with
 | nil => intro o h; exact h
 | cons hv _ ih =>
  intro o h
  simp only [VRow] at h ⊢
  obtain ⟨⟨c, h1, h2⟩, h3⟩ := h
  exact ⟨⟨c, h1, hv H O ι w c h2⟩, ih h3⟩
theorem Weaks.length {l l' : List AV} (h : Weaks l l') : l.length = l'.length := by
 induction h with
 | nil => rfl
 | cons _ _ ih => simp [ih]
theorem wk_sl {H : List Blk} {n : Nat} {l l' : List AV} {tl : Tail} (h : Weaks l l') : WeakH H (.sl n l tl) (.sl n l' tl) := fun _ ι w c x => by
 simp only [VRel] at x ⊢
 obtain ⟨base, cap, hc, hle, hr, ht⟩ := x
 refine ⟨base, cap, hc, hle, ?_, by rw [← h.length]; exact ht⟩
 rcases hr with rfl | ⟨b, o, h1, h2, h3⟩
 ·cases h; exact .inl rfl
 ·exact .inr ⟨b, o, h1, by rw [← h.length]; exact h2, h.row h3⟩
theorem Weaks.snoc {a b : AV} (h : ∀ H, WeakH H a b) : ∀ l : List AV, Weaks (l ++ [a]) (l ++ [b])
 | [] => .cons h .nil
 | x :: l => .cons (fun H => WeakH.refl x H) (Weaks.snoc h l)
end Go.Vm

namespace Go.Vm
open Go.Proofs
section
variable (al : Nat → Nat → Bool)
def plcB : List Nat → Nat → Option Nat
 | [], _ => none
 | x :: l, n => if al x n = true then some 0 else (plcB l n).map (· + 1)
def insB (S : List Nat) (n : Nat) : List Nat := if (plcB al S n).isSome then S else S ++ [n]
variable (v : Vers) (K : Nat)
def nxS (a c : Nat) : Nat := (mv v a c).1.toNat
def rowF (S : List Nat) (i : Nat) : Nat → List Nat
 | 0 => S
 | c + 1 => insB al (rowF S i c) (nxS v (S.getD i 0) c)
def stF : Nat → List Nat
 | 0 => [0]
 | i + 1 => rowF al v (stF i) i K
structure Exit (N : Nat) : Prop where
 on : ∀ i, i < N → i < (stF al v K i).length
 off : (stF al v K N).length ≤ N
end
section
variable {al : Nat → Nat → Bool}
variable {v : Vers} {K : Nat}
variable (hnx : ∀ x, x < v.length → ∀ c, c < K → nxS v x c < v.length)
include hnx
omit hnx
end
end Go.Vm

namespace Go.Vm
open Go.Proofs
theorem loop_hand0 {P : Program} {m : Bool} {k : Nat} {ro : Option Nat} {c : Code} {α : Type} (hm : P.follows .mixedOrders = true) {vars : Trie AV} {t : Trie Blk} {n lo : Nat} {d : List Nat} {Q : CodeQ}
  (S : α → List (Nat × AV)) (T : α → List (Nat × Blk)) (μ : α → Nat) (L : Nat) (a0 : α) (hlo : L ≤ lo) (hv : Slots (get vars) t noLo (S a0)) (ht : Blks (get t) noLo (T a0))
  (R : α → CodeQ) (hR : ∀ a x e lo', R a x e lo' → RoundR S T μ L n d Q a x e lo')
  (body : ∀ a, gCode P m k ro c (ofL (S a)) (ofL (T a)) n d noLo (fun x e lo' => R a x e lo' ∨ (x = .normal ∧ L ≤ lo' ∧ LoopG P ro c k e.vars e.t e.n e.defs L Q))) : LoopG P ro c k vars t n d lo Q := by
 have key : ∀ j a, μ a = j → ∀ H H0, HT (ofL (T a)) n H → Keep H0 H L → ∃ x e lo' H', HT e.t e.n H' ∧ Keep H0 H' lo' ∧ InL P ro c ⟨k, ofL (S a), H, d⟩ x ⟨k, e.vars, H', e.defs⟩ ∧ Q x e lo' := by
  intro j
  induction j using Nat.strongRecOn with
  | _ j ih =>
  intro a hj H H0 hH hk
  obtain ⟨x, e, lo', H1, hH1, hk1, hrun, hq⟩ := gCode_spec hm c _ _ _ _ _ _ (body a) H H hH (Keep.refl _ _)
  rcases hq with hq0 | ⟨rfl, hL, ⟨hq⟩⟩
  ·have hq := hR _ _ _ _ hq0
   cases x with
   | normal =>
    obtain ⟨hL, hd, a', hμ, hS, hT, hB⟩ := hq
    have hlen := hH.len
    have hchg : ∀ id, id < H.length → H1[id]? = H[id]? ∨ ∃ B, H1[id]? = some B ∧ B.under H.length := by
     intro id hlt
     rcases Nat.lt_or_ge id lo' with h | h
     ·exact .inl (hk1.low id h hlt)
     ·obtain ⟨B, hB1, hB2⟩ := hB.mem id (by rw [List.mem_range'_1]; omega)
      exact .inr ⟨B, hH1.blk _ _ hB1, by rw [hlen]; exact hB2⟩
    have hback := hrun.back (V2 := ofL (S a')) (by rw [hlen]; exact hd) (fun s v hg => by
     obtain ⟨v1, h1, h2, h3⟩ := hS.mem _ (get_ofL hg)
     exact ⟨v1, h1, h2 _ _ hH1, by rw [hlen]; exact h3⟩) hchg
    have hle := hk1.le
    have hH2 : HT (ofL (T a')) n (H1.take H.length) := by
     refine ⟨by rw [List.length_take]; omega, fun id B hg => ?_⟩
     obtain ⟨h1, h2⟩ := hT.mem _ (get_ofL hg)
     rw [List.getElem?_take_of_lt (by omega)]
     exact hH1.blk _ _ h1
    have hk2 : Keep H (H1.take H.length) L := by
     refine ⟨by rw [List.length_take]; omega, fun id h1 h2 => ?_, fun id hid => ?_⟩
     ·rw [List.getElem?_take_of_lt h2]; exact hk1.low id (by omega) h2
     ·have hlt := (List.getElem?_eq_some_iff.1 hid).1
      rw [List.getElem?_take_of_lt hlt]; exact hk1.marks id hid
    obtain ⟨x, e2, lo2, H2, hH3, hk3, hin, hq2⟩ := ih (μ a') (by omega) a' rfl (H1.take H.length) H0 hH2 (hk.trans hk2 (Nat.le_refl _) (Nat.le_refl _))
    exact ⟨x, e2, lo2, H2, hH3, hk3, .go hback hin, hq2⟩
   | exit i => exact ⟨_, e, L, H1, hH1, hk.trans hk1 (Nat.le_refl _) hq.1, .out hrun rfl, hq.2⟩
   | ret => exact ⟨_, e, L, H1, hH1, hk.trans hk1 (Nat.le_refl _) hq.1, .out hrun rfl, hq.2⟩
   | pan v => exact ⟨_, e, L, H1, hH1, hk.trans hk1 (Nat.le_refl _) hq.1, .out hrun rfl, hq.2⟩
  ·obtain ⟨x, e2, lo2, H2, hH3, hk3, hin, hq2⟩ := hq H1 H0 hH1 (hk.trans hk1 (Nat.le_refl _) hL)
   exact ⟨x, e2, lo2, H2, hH3, hk3, .go hrun hin, hq2⟩
 refine ⟨fun H H0 hH hk => ?_⟩
 obtain ⟨x, e, lo', H', h1, h2, h3, h4⟩ := key _ a0 rfl H H0 ⟨hH.len, fun id B hg => hH.blk _ _ (ht.mem _ (get_ofL hg)).1⟩ (hk.mono hlo)
 exact ⟨x, e, lo', H', h1, h2, (h3.fewer fun s v hg => by
  obtain ⟨v1, g1, g2, _⟩ := hv.mem _ (get_ofL hg)
  exact ⟨v1, g1, g2 _ _ hH⟩), h4⟩
theorem loop_hup {P : Program} {m : Bool} {k : Nat} {ro : Option Nat} {c : Code} (hm : P.follows .mixedOrders = true) {vars : Trie AV} {t : Trie Blk} {n lo : Nat} {d : List Nat} {Q : CodeQ}
  (S : Nat → List (Nat × AV)) (T : Nat → List (Nat × Blk)) (I : Nat → Prop) (N : Nat) (L : Nat) (hlo : L ≤ lo) (h0 : I 0) (hv : Slots (get vars) t noLo (S 0)) (ht : Blks (get t) noLo (T 0))
  (body : ∀ r, r ≤ N → I r → gCode P m k ro c (ofL (S r)) (ofL (T r)) n d noLo (fun x e lo' => RoundU S T I N L n d Q r x e lo' ∨ (x = .normal ∧ L ≤ lo' ∧ LoopG P ro c k e.vars e.t e.n e.defs L Q))) : LoopG P ro c k vars t n d lo Q :=
 loop_hand0 (α := { r : Nat // r ≤ N ∧ I r }) hm (fun a => S a.1) (fun a => T a.1) (fun a => N - a.1) L ⟨0, Nat.zero_le _, h0⟩ hlo hv ht (fun a => RoundU S T I N L n d Q a.1) (fun a x e lo' h => by
  cases x with
  | normal =>
   obtain ⟨h1, h2, h3, h4, h5, h6, h7⟩ := h
   exact ⟨h1, h2, ⟨a.1 + 1, h3, h4⟩, by show N - (a.1 + 1) < N - a.1; omega, h5, h6, h7⟩
  | _ => exact h) fun a => body a.1 a.2.1 a.2.2
end Go.Vm

namespace Go.Vm
open Go.Proofs
def bV : AV := (.agg [n' 2, n' 3, (.sl 4 [(.sl 2 [(.sl 2 [n' 1, n' 0, n' 0, n' 1] .unk), (.sl 2 [n' 0, n' 2, n' 1, n' 1] .unk)] .full), (.sl 2 [(.sl 2 [n' 1, n' 0, n' 0, n' 1] .unk), (.sl 2 [n' 0, n' 2, n' 0, n' 1] .unk)] .full), (.sl 1 [(.sl 2 [n' 0, n' 0, n' 0, n' 1] .unk)] .full), (.sl 2 [(.sl 2 [n' 0, n' 1, n' 1, n' 1] .unk), (.sl 2 [n' 1, n' 0, n' 1, n' 1] .unk)] .full)] .full)])
end Go.Vm
