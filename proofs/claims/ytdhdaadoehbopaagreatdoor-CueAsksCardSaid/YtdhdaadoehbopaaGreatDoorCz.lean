/-
  Games of several versions: how many cues are needed; code told in pieces, on which this claim rests; no statement of the program is proved here. Conditions: none.
-/
import Derived.Test.YtdhdaadoehbopaaGreatDoorCo
import Derived.Test.YtdhdaadoehbopaaGreatDoorCt
import Derived.Test.YtdhdaadoehbopaaGreatDoorCf
import Derived.Test.YtdhdaadoehbopaaGreatDoorCh
import Derived.Test.YtdhdaadoehbopaaGreatDoorCr
import Derived.Test.YtdhdaadoehbopaaGreatDoorVc

namespace Go.Vm
section
variable {X : Type} (base : X → Prop) (succ : X → Nat → List X) (K : Nat)
def win : Nat → X → Prop
 | 0, x => base x
 | n + 1, x => base x ∨ ∃ c, c < K ∧ ∀ y ∈ succ x c, win n y
def Val (x : X) (n : Nat) : Prop := win base succ K n x ∧ ∀ m, win base succ K m x → n ≤ m
variable {base succ K}
theorem win_step : ∀ {n : Nat} {x : X}, win base succ K n x → win base succ K (n + 1) x
 | 0, _, h => .inl h
 | n + 1, x, h => by
  rcases h with h | ⟨c, hc, h⟩
  ·exact .inl h
  ·exact .inr ⟨c, hc, fun y hy => win_step (h y hy)⟩
theorem win_mono {n m : Nat} {x : X} (h : win base succ K n x) (hm : n ≤ m) : win base succ K m x := by
 obtain ⟨d, rfl⟩ := Nat.exists_eq_add_of_le hm
 clear hm
 induction d with
 | zero => exact h
 | succ d ih => exact win_step ih
theorem win_base {n : Nat} {x : X} (h : base x) : win base succ K n x := win_mono (n := 0) h (Nat.zero_le n)
theorem Val.unique {x : X} {n m : Nat} (h : Val base succ K x n) (h' : Val base succ K x m) : n = m := Nat.le_antisymm (h.2 m h'.1) (h'.2 n h.1)
theorem Val.least {x : X} : ∀ {n : Nat}, win base succ K n x → ∃ m, m ≤ n ∧ Val base succ K x m := fun {n} => by
 induction n using Nat.strongRecOn with
 | _ n ih =>
 intro h
 by_cases hm : ∃ m, m < n ∧ win base succ K m x
 ·obtain ⟨m, h1, h2⟩ := hm
  obtain ⟨k, k1, k2⟩ := ih m h1 h2
  exact ⟨k, by omega, k2⟩
 ·refine ⟨n, Nat.le_refl n, h, fun m hw => ?_⟩
  rcases Nat.lt_or_ge m n with h1 | h1
  ·exact absurd ⟨m, h1, hw⟩ hm
  ·exact h1
theorem Val.zero {x : X} : Val base succ K x 0 ↔ base x := ⟨fun h => h.1, fun h => ⟨h, fun m _ => Nat.zero_le m⟩⟩
theorem win_bound {U : List X} (hc : ∀ x ∈ U, ∀ c, c < K → ∀ y ∈ succ x c, y ∈ U) {x : X} (hx : x ∈ U) {n : Nat} (h : Val base succ K x n) : n ≤ U.length := by
 classical
 have cnt : ∀ n, (∀ m, m < n → ∃ x ∈ U, win base succ K (m + 1) x ∧ ¬ win base succ K m x) → n ≤ (U.filter fun x => decide (win base succ K n x)).length := fun n => by
  induction n with
  | zero => intro _; exact Nat.zero_le _
  | succ n ih =>
   intro hm
   have h1 := ih fun m hmn => hm m (by omega)
   obtain ⟨z, hz, z1, z2⟩ := hm n (by omega)
   have h2 : (U.filter fun x => decide (win base succ K n x)).length < (U.filter fun x => decide (win base succ K (n + 1) x)).length := by
    have e : (U.filter fun x => decide (win base succ K n x)) = (U.filter fun x => decide (win base succ K (n + 1) x)).filter fun x => decide (win base succ K n x) := by
     rw [List.filter_filter]
     refine List.filter_congr fun y _ => ?_
     by_cases hy : win base succ K n y
     ·simp [hy, win_step hy]
     ·simp [hy]
    rw [e]
    refine List.length_filter_lt_length_iff_exists.2 ⟨z, ?_, by simpa using z2⟩
    rw [List.mem_filter]
    exact ⟨hz, by simpa using z1⟩
   omega
 by_cases hall : ∀ m, m < n → ∃ x ∈ U, win base succ K (m + 1) x ∧ ¬ win base succ K m x
 ·have := cnt n hall
  have h2 := List.length_filter_le (fun x => decide (win base succ K n x)) U
  omega
 ·simp only [Classical.not_forall] at hall
  obtain ⟨m, hm, hno⟩ := hall
  have hst : ∀ x ∈ U, win base succ K (m + 1) x → win base succ K m x := fun x hx hw => Classical.byContradiction fun h' => hno ⟨x, hx, hw, h'⟩
  have all : ∀ d, ∀ x ∈ U, win base succ K (m + d) x → win base succ K m x := fun d => by
   induction d with
   | zero => exact fun x _ h => h
   | succ d ih =>
    intro x hx hw
    refine hst x hx ?_
    rcases hw with hw | ⟨c, hcK, hw⟩
    ·exact .inl hw
    ·exact .inr ⟨c, hcK, fun y hy => ih y (hc x hx c hcK y hy) (hw y hy)⟩
  have := h.2 m (all (n - m) x hx (by rw [show m + (n - m) = n by omega]; exact h.1))
  omega
def needC (N : X → Option Nat) : List X → Nat → Option Nat
 | [], acc => some acc
 | y :: l, acc => match N y with
  | none => none
  | some n => needC N l (max acc (n + 1))
theorem needC_some {N : X → Option Nat} : ∀ {l : List X} {acc k : Nat}, needC N l acc = some k → (∀ y ∈ l, ∃ n, N y = some n ∧ n + 1 ≤ k) ∧ acc ≤ k ∧ (k = acc ∨ ∃ y ∈ l, N y = some (k - 1) ∧ 0 < k)
 | [], acc, k, h => by
  obtain rfl := Option.some.inj h
  exact ⟨fun _ h => (by cases h), Nat.le_refl _, .inl rfl⟩
 | y :: l, acc, k, h => by
  have h : (match N y with | none => none | some n => needC N l (max acc (n + 1))) = some k := h
  cases hy : N y with
  | none => rw [hy] at h; cases h
  | some n =>
   rw [hy] at h
   obtain ⟨h1, h2, h3⟩ := needC_some h
   refine ⟨fun z hz => ?_, by omega, ?_⟩
   ·rcases List.mem_cons.1 hz with rfl | hz
    ·exact ⟨n, hy, by omega⟩
    ·exact h1 z hz
   ·rcases h3 with h3 | ⟨z, hz, h4⟩
    ·rcases Nat.le_total acc (n + 1) with h5 | h5
     ·refine .inr ⟨y, by simp, ?_, by omega⟩
      rw [hy]
      congr 1
      omega
     ·exact .inl (by omega)
    ·exact .inr ⟨z, by simp [hz], h4⟩
theorem needC_none {N : X → Option Nat} : ∀ {l : List X} {acc : Nat}, needC N l acc = none ↔ ∃ y ∈ l, N y = none
 | [], acc => by simp [needC]
 | y :: l, acc => by
  show (match N y with | none => none | some n => needC N l (max acc (n + 1))) = none ↔ _
  cases hy : N y with
  | none => simp [hy]
  | some n =>
   show needC N l (max acc (n + 1)) = none ↔ _
   rw [needC_none]
   simp [hy]
def bestC (N : X → Option Nat) (succ : X → Nat → List X) (x : X) : Nat → Option (Nat × Nat)
 | 0 => none
 | c + 1 => match needC N (succ x c) 0, bestC N succ x c with
  | none, b => b
  | some k, none => some (c, k)
  | some k, some b => if k < b.2 then some (c, k) else some b
theorem bestC_spec {N : X → Option Nat} {x : X} : ∀ {K : Nat}, (∀ c k, bestC N succ x K = some (c, k) → c < K ∧ needC N (succ x c) 0 = some k ∧ ∀ d j, d < K → needC N (succ x d) 0 = some j → k ≤ j ∧ (d < c → k < j)) ∧ (bestC N succ x K = none → ∀ d, d < K → needC N (succ x d) 0 = none)
 | 0 => ⟨(fun c k h => by cases h), (fun _ d hd => by omega)⟩
 | K + 1 => by
  obtain ⟨h1, h2⟩ := bestC_spec (N := N) (x := x) (K := K)
  have e : bestC N succ x (K + 1) = (match needC N (succ x K) 0, bestC N succ x K with
   | none, b => b
   | some k, none => some (K, k)
   | some k, some b => if k < b.2 then some (K, k) else some b) := rfl
  rw [e]
  cases hn : needC N (succ x K) 0 with
  | none =>
   refine ⟨fun c k h => ?_, fun h d hd => ?_⟩
   ·obtain ⟨a1, a2, a3⟩ := h1 c k h
    refine ⟨by omega, a2, fun d j hd hj => ?_⟩
    by_cases hdK : d = K
    ·subst hdK; rw [hn] at hj; cases hj
    ·exact a3 d j (by omega) hj
   ·by_cases hdK : d = K
    ·subst hdK; exact hn
    ·exact h2 h d (by omega)
  | some m =>
   cases hb : bestC N succ x K with
   | none =>
    refine ⟨fun c k h => ?_, fun h => by cases h⟩
    obtain ⟨rfl, rfl⟩ := Prod.mk.inj (Option.some.inj h)
    refine ⟨by omega, hn, fun d j hd hj => ?_⟩
    by_cases hdK : d = K
    ·subst hdK
     rw [hn] at hj
     obtain rfl := Option.some.inj hj
     exact ⟨Nat.le_refl _, fun h => by omega⟩
    ·rw [h2 hb d (by omega)] at hj; cases hj
   | some b =>
    obtain ⟨c0, k0⟩ := b
    obtain ⟨a1, a2, a3⟩ := h1 c0 k0 hb
    refine ⟨fun c k h => ?_, fun h => ?_⟩
    ·have h : (if m < k0 then some (K, m) else some (c0, k0)) = some (c, k) := h
     by_cases hm : m < k0
     ·rw [if_pos hm] at h
      obtain ⟨rfl, rfl⟩ := Prod.mk.inj (Option.some.inj h)
      refine ⟨by omega, hn, fun d j hd hj => ?_⟩
      by_cases hdK : d = K
      ·subst hdK
       rw [hn] at hj
       obtain rfl := Option.some.inj hj
       exact ⟨Nat.le_refl _, fun h => by omega⟩
      ·have := (a3 d j (by omega) hj).1
       exact ⟨by omega, fun _ => by omega⟩
     ·rw [if_neg hm] at h
      obtain ⟨rfl, rfl⟩ := Prod.mk.inj (Option.some.inj h)
      refine ⟨by omega, a2, fun d j hd hj => ?_⟩
      by_cases hdK : d = K
      ·subst hdK
       rw [hn] at hj
       obtain rfl := Option.some.inj hj
       exact ⟨by omega, fun h => by omega⟩
      ·exact a3 d j (by omega) hj
    ·have h : (if m < k0 then some (K, m) else some (c0, k0)) = none := h
     by_cases hm : m < k0
     ·rw [if_pos hm] at h; cases h
     ·rw [if_neg hm] at h; cases h
def Knows (base : X → Prop) (succ : X → Nat → List X) (K : Nat) (U : List X) (N : X → Option Nat) (r : Nat) : Prop := ∀ x ∈ U, ∀ n, N x = some n ↔ Val base succ K x n ∧ n ≤ r
section
variable {U : List X} (hc : ∀ x ∈ U, ∀ c, c < K → ∀ y ∈ succ x c, y ∈ U) (hne : ∀ x ∈ U, ¬ base x → ∀ c, c < K → succ x c ≠ [])
theorem Knows.unk {N : X → Option Nat} {r : Nat} (h : Knows base succ K U N r) {x : X} (hx : x ∈ U) : N x = none ↔ ¬ win base succ K r x := by
 constructor
 ·intro hN hw
  obtain ⟨m, hm, hV⟩ := Val.least hw
  rw [(h x hx m).2 ⟨hV, hm⟩] at hN
  cases hN
 ·intro hw
  cases hN : N x with
  | none => rfl
  | some n =>
   obtain ⟨hV, hn⟩ := (h x hx n).1 hN
   exact absurd (win_mono hV.1 hn) hw
include hc hne in
theorem Knows.next {N : X → Option Nat} {r : Nat} (h : Knows base succ K U N r) {x : X} (hx : x ∈ U) (hN : N x = none) :
  (∀ c k, bestC N succ x K = some (c, k) → k = r + 1 ∧ Val base succ K x (r + 1)) ∧ (bestC N succ x K = none → ¬ win base succ K (r + 1) x) := by
 have hnw := (h.unk hx).1 hN
 have hnb : ¬ base x := fun hb => hnw (win_base hb)
 obtain ⟨h1, h2⟩ := bestC_spec (succ := succ) (N := N) (x := x) (K := K)
 refine ⟨fun c k hb => ?_, fun hb hw => ?_⟩
 ·obtain ⟨a1, a2, _⟩ := h1 c k hb
  obtain ⟨b1, b2, b3⟩ := needC_some a2
  have hk : 0 < k := by
   obtain ⟨y, hy⟩ := List.exists_mem_of_ne_nil _ (hne x hx hnb c a1)
   obtain ⟨n, _, h4⟩ := b1 y hy
   omega
  have hwk : win base succ K k x := by
   obtain ⟨d, rfl⟩ : ∃ d, k = d + 1 := ⟨k - 1, by omega⟩
   refine .inr ⟨c, a1, fun y hy => ?_⟩
   obtain ⟨n, e, h4⟩ := b1 y hy
   exact win_mono ((h y (hc x hx c a1 y hy) n).1 e).1.1 (by omega)
  have hle : k ≤ r + 1 := by
   rcases b3 with b3 | ⟨y, hy, e, _⟩
   ·omega
   ·have := ((h y (hc x hx c a1 y hy) (k - 1)).1 e).2
    omega
  have hge : r < k := by
   rcases Nat.lt_or_ge r k with h5 | h5
   ·exact h5
   ·exact absurd (win_mono hwk h5) hnw
  obtain rfl : k = r + 1 := by omega
  refine ⟨rfl, hwk, fun m hm => ?_⟩
  rcases Nat.lt_or_ge r m with h5 | h5
  ·exact h5
  ·exact absurd (win_mono hm h5) hnw
 ·rcases hw with hw | ⟨c, hcK, hw⟩
  ·exact hnb hw
  ·obtain ⟨y, hy, e⟩ := needC_none.1 (h2 hb c hcK)
   exact (h.unk (hc x hx c hcK y hy)).1 e (hw y hy)
include hc hne in
theorem Knows.step {N N' : X → Option Nat} {r : Nat} (h : Knows base succ K U N r) (h1 : ∀ x ∈ U, ∀ n, N x = some n → N' x = some n) (h2 : ∀ x ∈ U, N x = none → N' x = (bestC N succ x K).map (·.2)) : Knows base succ K U N' (r + 1) := fun x hx n => by
 cases hN : N x with
 | some m =>
  rw [h1 x hx m hN]
  obtain ⟨hV, hm⟩ := (h x hx m).1 hN
  constructor
  ·intro e
   obtain rfl := Option.some.inj e
   exact ⟨hV, by omega⟩
  ·rintro ⟨hV', _⟩
   rw [hV.unique hV']
 | none =>
  rw [h2 x hx hN]
  obtain ⟨a, b⟩ := h.next hc hne hx hN
  cases hb : bestC N succ x K with
  | none =>
   constructor
   ·intro e; cases e
   ·rintro ⟨hV, hn⟩
    exact absurd (win_mono hV.1 hn) (b hb)
  | some p =>
   obtain ⟨c, k⟩ := p
   obtain ⟨rfl, hV⟩ := a c k hb
   constructor
   ·intro e
    obtain rfl := Option.some.inj e
    exact ⟨hV, Nat.le_refl _⟩
   ·rintro ⟨hV', _⟩
    rw [hV'.unique hV]
    rfl
include hc hne in
theorem Knows.all {N : X → Option Nat} {r : Nat} (h : Knows base succ K U N r) (hno : ∀ x ∈ U, N x = none → bestC N succ x K = none) {x : X} (hx : x ∈ U) {n : Nat} : N x = some n ↔ Val base succ K x n := by
 have hst : ∀ x ∈ U, win base succ K (r + 1) x → win base succ K r x := fun x hx hw => by
  apply Classical.byContradiction
  intro hnw
  have hN := (h.unk hx).2 hnw
  exact (h.next hc hne hx hN).2 (hno x hx hN) hw
 have all : ∀ d, ∀ x ∈ U, win base succ K (r + d) x → win base succ K r x := fun d => by
  induction d with
  | zero => exact fun x _ h => h
  | succ d ih =>
   intro x hx hw
   refine hst x hx ?_
   rcases hw with hw | ⟨c, hcK, hw⟩
   ·exact .inl hw
   ·exact .inr ⟨c, hcK, fun y hy => ih y (hc x hx c hcK y hy) (hw y hy)⟩
 rw [h x hx n]
 refine ⟨fun h => h.1, fun hV => ⟨hV, hV.2 r (all n x hx (win_mono hV.1 (by omega)))⟩⟩
include hc hne in
theorem best_val {N : X → Option Nat} (h : ∀ x ∈ U, ∀ n, N x = some n ↔ Val base succ K x n) {x : X} (hx : x ∈ U) {n : Nat} (hV : Val base succ K x n) (hnb : ¬ base x) :
  ∃ c, bestC N succ x K = some (c, n) ∧ c < K ∧ (∀ y ∈ succ x c, ∃ m, Val base succ K y m ∧ m + 1 ≤ n) ∧ (∃ y ∈ succ x c, Val base succ K y (n - 1)) ∧ 0 < n ∧ ∀ d, d < K → ∀ j, (∀ y ∈ succ x d, ∃ m, Val base succ K y m ∧ m + 1 ≤ j) → n ≤ j ∧ (d < c → n < j) := by
 obtain ⟨h1, h2⟩ := bestC_spec (succ := succ) (N := N) (x := x) (K := K)
 have hn0 : 0 < n := by
  rcases Nat.eq_zero_or_pos n with h3 | h3
  ·subst h3; exact absurd (Val.zero.1 hV) hnb
  ·exact h3
 have need : ∀ d, d < K → ∀ j, (∀ y ∈ succ x d, ∃ m, Val base succ K y m ∧ m + 1 ≤ j) → ∃ k, needC N (succ x d) 0 = some k ∧ k ≤ j := fun d hd j hj => by
  cases hk : needC N (succ x d) 0 with
  | none =>
   obtain ⟨y, hy, e⟩ := needC_none.1 hk
   obtain ⟨m, hm, _⟩ := hj y hy
   rw [(h y (hc x hx d hd y hy) m).2 hm] at e
   cases e
  | some k =>
   refine ⟨k, rfl, ?_⟩
   obtain ⟨_, _, b3⟩ := needC_some hk
   rcases b3 with b3 | ⟨y, hy, e, _⟩
   ·omega
   ·obtain ⟨m, hm, hmj⟩ := hj y hy
    have := hm.unique ((h y (hc x hx d hd y hy) (k - 1)).1 e)
    omega
 have good : ∀ d, d < K → ∀ k, needC N (succ x d) 0 = some k → win base succ K k x := fun d hd k hk => by
  obtain ⟨b1, _, _⟩ := needC_some hk
  obtain ⟨y, hy⟩ := List.exists_mem_of_ne_nil _ (hne x hx hnb d hd)
  obtain ⟨_, _, h4⟩ := b1 y hy
  obtain ⟨e, rfl⟩ : ∃ e, k = e + 1 := ⟨k - 1, by omega⟩
  refine .inr ⟨d, hd, fun z hz => ?_⟩
  obtain ⟨m, em, hm⟩ := b1 z hz
  exact win_mono ((h z (hc x hx d hd z hz) m).1 em).1 (by omega)
 have some : ∃ d, d < K ∧ ∀ y ∈ succ x d, ∃ m, Val base succ K y m ∧ m + 1 ≤ n := by
  obtain ⟨e, rfl⟩ : ∃ e, n = e + 1 := ⟨n - 1, by omega⟩
  rcases hV.1 with hb | ⟨d, hd, hw⟩
  ·exact absurd hb hnb
  ·refine ⟨d, hd, fun y hy => ?_⟩
   obtain ⟨m, hm, hv⟩ := Val.least (hw y hy)
   exact ⟨m, hv, by omega⟩
 cases hb : bestC N succ x K with
 | none =>
  obtain ⟨d, hd, hj⟩ := some
  obtain ⟨k, hk, _⟩ := need d hd n hj
  rw [h2 hb d hd] at hk
  cases hk
 | some p =>
  obtain ⟨c, k⟩ := p
  obtain ⟨a1, a2, a3⟩ := h1 c k hb
  have hkn : k = n := by
   obtain ⟨d, hd, hj⟩ := some
   obtain ⟨k', hk', hle⟩ := need d hd n hj
   have := (a3 d k' hd hk').1
   have := hV.2 k (good c a1 k a2)
   omega
  subst hkn
  obtain ⟨b1, _, b3⟩ := needC_some a2
  refine ⟨c, rfl, a1, fun y hy => ?_, ?_, hn0, fun d hd j hj => ?_⟩
  ·obtain ⟨m, em, hm⟩ := b1 y hy
   exact ⟨m, (h y (hc x hx c a1 y hy) m).1 em, hm⟩
  ·rcases b3 with b3 | ⟨y, hy, e, _⟩
   ·omega
   ·exact ⟨y, hy, (h y (hc x hx c a1 y hy) _).1 e⟩
  ·obtain ⟨k', hk', hle⟩ := need d hd j hj
   obtain ⟨c1, c2⟩ := a3 d k' hd hk'
   exact ⟨by omega, fun h => by have := c2 h; omega⟩
end
end
section
variable {X : Type} {base : X → Prop} {succ : X → Nat → List X} {K : Nat}
def maxL (k : X → Nat) (l : List X) : Nat := l.foldl (fun m y => max m (k y)) 0
theorem maxL_snoc (k : X → Nat) (l : List X) (y : X) : maxL k (l ++ [y]) = max (maxL k l) (k y) := by unfold maxL; rw [List.foldl_append]; rfl
theorem maxL_le {k : X → Nat} {j : Nat} : ∀ {l : List X}, maxL k l ≤ j ↔ ∀ y ∈ l, k y ≤ j := fun {l} => by
 have key : ∀ (l : List X) (a : Nat), l.foldl (fun m y => max m (k y)) a ≤ j ↔ a ≤ j ∧ ∀ y ∈ l, k y ≤ j := fun l => by
  induction l with
  | nil => intro a; simp
  | cons y l ih =>
   intro a
   rw [List.foldl_cons, ih]
   simp only [List.mem_cons, forall_eq_or_imp]
   constructor
   ·rintro ⟨h1, h2⟩
    exact ⟨by omega, by omega, h2⟩
   ·rintro ⟨h1, h2, h3⟩
    exact ⟨by omega, h3⟩
 unfold maxL
 rw [key]
 simp
def worstN (k : X → Nat) (succ : X → Nat → List X) (x : X) (c : Nat) : Nat := min 1000 (maxL k (succ x c) + 1)
structure Nums (base : X → Prop) (succ : X → Nat → List X) (K : Nat) (U : List X) (k : X → Nat) : Prop where
 base0 : ∀ x ∈ U, base x → k x = 0
 right : ∀ x ∈ U, k x < 1000 → win base succ K (k x) x
 le : ∀ x ∈ U, k x ≤ 1000
section
variable {U : List X} (hc : ∀ x ∈ U, ∀ c, c < K → ∀ y ∈ succ x c, y ∈ U)
include hc in
theorem Nums.less {k : X → Nat} (h : Nums base succ K U k) {x : X} (hx : x ∈ U) {c : Nat} (hcK : c < K) (hl : worstN k succ x c < k x) [DecidableEq X] : Nums base succ K U fun y => if y = x then worstN k succ x c else k y := by
 have hle := h.le x hx
 refine ⟨fun y hy hb => ?_, fun y hy hlt => ?_, fun y hy => ?_⟩
 ·by_cases e : y = x
  ·subst e
   have := h.base0 y hy hb
   omega
  ·show (if y = x then _ else _) = _
   rw [if_neg e]; exact h.base0 y hy hb
 ·by_cases e : y = x
  ·subst e
   show win base succ K (if y = y then worstN k succ y c else k y) y
   rw [if_pos rfl]
   have hw : worstN k succ y c = maxL k (succ y c) + 1 := by unfold worstN at hl ⊢; omega
   rw [hw]
   refine .inr ⟨c, hcK, fun z hz => ?_⟩
   have h1 : k z ≤ maxL k (succ y c) := maxL_le.1 (Nat.le_refl _) z hz
   exact win_mono (h.right z (hc y hy c hcK z hz) (by unfold worstN at hl; omega)) h1
  ·have e2 : (if y = x then worstN k succ x c else k y) = k y := if_neg e
   have hlt : (if y = x then worstN k succ x c else k y) < 1000 := hlt
   show win base succ K (if y = x then worstN k succ x c else k y) y
   rw [e2] at hlt ⊢
   exact h.right y hy hlt
 ·by_cases e : y = x
  ·show (if y = x then _ else _) ≤ _
   rw [if_pos e]; unfold worstN; omega
  ·show (if y = x then _ else _) ≤ _
   rw [if_neg e]; exact h.le y hy
include hc in
theorem Nums.end_ {k : X → Nat} (h : Nums base succ K U k) (hU : U.length < 1000) (he : ∀ x ∈ U, ∀ c, c < K → k x ≤ worstN k succ x c) {x : X} (hx : x ∈ U) :
  (∀ n, Val base succ K x n → k x = n) ∧ ((∀ n, ¬ win base succ K n x) → k x = 1000) ∧ (k x < 1000 → Val base succ K x (k x)) := by
 have low : ∀ n x, x ∈ U → win base succ K n x → n < 1000 → k x ≤ n := fun n => by
  induction n with
  | zero =>
   intro x hx hw _
   have := h.base0 x hx hw
   omega
  | succ n ih =>
   intro x hx hw hn
   rcases hw with hw | ⟨c, hcK, hw⟩
   ·have := h.base0 x hx hw
    omega
   ·have h1 := he x hx c hcK
    have h2 : maxL k (succ x c) ≤ n := maxL_le.2 fun y hy => ih y (hc x hx c hcK y hy) (hw y hy) (by omega)
    unfold worstN at h1
    omega
 have key : ∀ n, Val base succ K x n → k x = n := fun n hV => by
  have hb := win_bound hc hx hV
  have h1 := low n x hx hV.1 (by omega)
  have h2 := hV.2 (k x) (h.right x hx (by omega))
  omega
 refine ⟨key, fun hno => ?_, fun hlt => ?_⟩
 ·have := h.le x hx
  rcases Nat.lt_or_ge (k x) 1000 with h1 | h1
  ·exact absurd (h.right x hx h1) (hno _)
  ·omega
 ·obtain ⟨m, hm, hV⟩ := Val.least (h.right x hx hlt)
  rw [key m hV]
  exact hV
end
end
end Go.Vm

namespace Go.Vm
open Go.Proofs
abbrev P4 := Int × Int × Int × Int
def noM : Bool × Bool × Bool × Bool × Bool × Bool := (false, false, false, false, false, false)
def spI (vs : List Vers) (c t n : Nat) (p : Int) : Int := if 0 ≤ p then (if (mv (vAt vs n) p.toNat c).2 = (t : Int) then (mv (vAt vs n) p.toNat c).1 else -1) else p
def sp4 (vs : List Vers) (c t : Nat) (p : P4) : P4 := (spI vs c t 0 p.1, spI vs c t 1 p.2.1, spI vs c t 2 p.2.2.1, spI vs c t 3 p.2.2.2)
def some4 (p : P4) : Bool := decide (0 ≤ p.1) || (decide (0 ≤ p.2.1) || (decide (0 ≤ p.2.2.1) || decide (0 ≤ p.2.2.2)))
def succ4 (vs : List Vers) (T : Nat) (p : P4) (c : Nat) : List P4 := ((List.range T).map fun t => sp4 vs c t p).filter some4
def base4 (vs : List Vers) (K : Nat) (p : P4) : Prop := doneS vs K (p, noM)
def P4Ok (vs : List Vers) (p : P4) : Prop := PosK vs (p, noM)
def at4 (p : P4) : Nat → Int
 | 0 => p.1
 | 1 => p.2.1
 | 2 => p.2.2.1
 | 3 => p.2.2.2
 | _ => -1
theorem at4_sp4 {vs : List Vers} {c t : Nat} {p : P4} : ∀ {n : Nat}, n < 4 → at4 (sp4 vs c t p) n = spI vs c t n (at4 p n)
 | 0, _ => rfl
 | 1, _ => rfl
 | 2, _ => rfl
 | 3, _ => rfl
 | _ + 4, h => by omega
theorem four {P : Nat → Prop} : (∀ n, n < 4 → P n) ↔ P 0 ∧ P 1 ∧ P 2 ∧ P 3 := by
 constructor
 ·intro h
  exact ⟨h 0 (by omega), h 1 (by omega), h 2 (by omega), h 3 (by omega)⟩
 ·rintro ⟨h0, h1, h2, h3⟩ n hn
  rcases (show n = 0 ∨ n = 1 ∨ n = 2 ∨ n = 3 by omega) with rfl | rfl | rfl | rfl <;> assumption
theorem some4_iff {p : P4} : some4 p = true ↔ ∃ n, n < 4 ∧ 0 ≤ at4 p n := by
 unfold some4
 simp only [Bool.or_eq_true, decide_eq_true_eq]
 constructor
 ·rintro (h | h | h | h)
  ·exact ⟨0, by omega, h⟩
  ·exact ⟨1, by omega, h⟩
  ·exact ⟨2, by omega, h⟩
  ·exact ⟨3, by omega, h⟩
 ·rintro ⟨n, hn, h⟩
  rcases (show n = 0 ∨ n = 1 ∨ n = 2 ∨ n = 3 by omega) with rfl | rfl | rfl | rfl
  ·exact .inl h
  ·exact .inr (.inl h)
  ·exact .inr (.inr (.inl h))
  ·exact .inr (.inr (.inr h))
theorem P4Ok_iff {vs : List Vers} {p : P4} : P4Ok vs p ↔ ∀ n, n < 4 → PosOk vs n (at4 p n) := (four (P := fun n => PosOk vs n (at4 p n))).symm
theorem base4_iff {vs : List Vers} {K : Nat} {p : P4} : base4 vs K p ↔ ∀ a b, a < 4 → b < 4 → 0 ≤ at4 p a → 0 ≤ at4 p b → alS vs K (a, 0) (b, 0) := by
 have e : base4 vs K p ↔ ∀ a b, a < 4 → b < a → pairS vs K false a b (at4 p a) (at4 p b) := six (P := fun a b => pairS vs K false a b (at4 p a) (at4 p b))
 rw [e]
 constructor
 ·intro h a b ha hb pa pb
  rcases Nat.lt_trichotomy a b with h1 | h1 | h1
  ·rcases h b a hb h1 pb pa with h2 | h2
   ·cases h2
   ·exact h2.symm
  ·subst h1; exact alS.refl _
  ·rcases h a b ha h1 pa pb with h2 | h2
   ·cases h2
   ·exact h2
 ·intro h a b ha hb pa pb
  exact .inr (h a b ha (by omega) pa pb)
structure GameOk (vs : List Vers) (K T : Nat) : Prop where
 hv : ∀ v ∈ vs, VersOk v K
 hv0 : ∀ v ∈ vs, 0 < v.length
 hs : ∀ v ∈ vs, v.length ≤ 4
 hn : vs.length ≤ 4
 ht : ∀ n, n < vs.length → ∀ s, s < (vAt vs n).length → ∀ c, c < K → ∃ t, t < T ∧ (mv (vAt vs n) s c).2 = (t : Int)
theorem BOk.game {b : Book} (hB : BOk b) : GameOk b.vs b.cues.toNat b.tunes.toNat := by
 have hvn := hB.1.2.2
 have htu := hB.1.2.1
 unfold inI at hvn htu
 refine ⟨fun v hv => (hB.2 v hv).vers.1, fun v hv => (hB.2 v hv).vers.2, fun v hv => by have := (hB.2 v hv).2; unfold inI at this; omega, by omega, fun n hn s hs c hc => ?_⟩
 have hV := hB.2 _ (vAt_in hn)
 obtain ⟨x, k1, k2, _, _⟩ := mv_at hV.vers.1 hs hc
 have := (hV.1 x (List.mem_of_getElem? k1)).2 _ (List.mem_of_getElem? k2)
 unfold inI at this
 exact ⟨(mv (vAt b.vs n) s c).2.toNat, by omega, by omega⟩
section
variable {vs : List Vers} {K T : Nat} (G : GameOk vs K T)
include G
theorem GameOk.mvOk {n c : Nat} {p : Int} (h : PosOk vs n p) (h0 : 0 ≤ p) (hc : c < K) : n < vs.length ∧ p.toNat < (vAt vs n).length ∧ 0 ≤ (mv (vAt vs n) p.toNat c).1 ∧ (mv (vAt vs n) p.toNat c).1 < (vAt vs n).length := by
 rcases h with rfl | ⟨_, h2, h3⟩
 ·omega
 ·have h4 : p.toNat < (vAt vs n).length := by
   show p.toNat < (vs.getD n []).length
   omega
  obtain ⟨x, _, _, k3, k4⟩ := mv_at (G.hv _ (vAt_in h2)) h4 hc
  exact ⟨h2, h4, by omega, by omega⟩
theorem GameOk.sp_pos {n c t : Nat} {p : Int} (h : PosOk vs n p) (hc : c < K) : 0 ≤ spI vs c t n p ↔ 0 ≤ p ∧ (mv (vAt vs n) p.toNat c).2 = (t : Int) := by
 unfold spI
 by_cases h0 : 0 ≤ p
 ·rw [if_pos h0]
  by_cases ht : (mv (vAt vs n) p.toNat c).2 = (t : Int)
  ·rw [if_pos ht]
   exact ⟨fun _ => ⟨h0, ht⟩, fun _ => (G.mvOk h h0 hc).2.2.1⟩
  ·rw [if_neg ht]
   exact ⟨fun h => by omega, fun h => absurd h.2 ht⟩
 ·rw [if_neg h0]
  exact ⟨fun h => absurd h h0, fun h => absurd h.1 h0⟩
theorem GameOk.sp_ok {n c t : Nat} {p : Int} (h : PosOk vs n p) (hc : c < K) : PosOk vs n (spI vs c t n p) := by
 unfold spI
 by_cases h0 : 0 ≤ p
 ·rw [if_pos h0]
  by_cases ht : (mv (vAt vs n) p.toNat c).2 = (t : Int)
  ·rw [if_pos ht]
   obtain ⟨k1, _, k3, k4⟩ := G.mvOk h h0 hc
   exact .inr ⟨k3, k1, k4⟩
  ·rw [if_neg ht]; exact .inl rfl
 ·rw [if_neg h0]; exact h
theorem GameOk.sp4_ok {c t : Nat} {p : P4} (h : P4Ok vs p) (hc : c < K) : P4Ok vs (sp4 vs c t p) := by
 rw [P4Ok_iff] at h ⊢
 intro n hn
 rw [at4_sp4 hn]
 exact G.sp_ok (h n hn) hc
omit G in
theorem succ4_mem {p y : P4} {c : Nat} : y ∈ succ4 vs T p c ↔ ∃ t, t < T ∧ y = sp4 vs c t p ∧ some4 y = true := by
 unfold succ4
 rw [List.mem_filter, List.mem_map]
 constructor
 ·rintro ⟨⟨t, ht, rfl⟩, h⟩
  exact ⟨t, List.mem_range.1 ht, rfl, h⟩
 ·rintro ⟨t, ht, rfl, h⟩
  exact ⟨⟨t, List.mem_range.2 ht, rfl⟩, h⟩
theorem GameOk.succ_ok {p y : P4} {c : Nat} (h : P4Ok vs p) (hc : c < K) (hy : y ∈ succ4 vs T p c) : P4Ok vs y := by
 obtain ⟨t, _, rfl, _⟩ := succ4_mem.1 hy
 exact G.sp4_ok h hc
theorem GameOk.ne {p : P4} {c : Nat} (h : P4Ok vs p) (hp : some4 p = true) (hc : c < K) : succ4 vs T p c ≠ [] := by
 obtain ⟨n, hn, h0⟩ := some4_iff.1 hp
 have hk := P4Ok_iff.1 h n hn
 obtain ⟨k1, k2, _, _⟩ := G.mvOk hk h0 hc
 obtain ⟨t, ht, e⟩ := G.ht n k1 _ k2 c hc
 have hm : sp4 vs c t p ∈ succ4 vs T p c := succ4_mem.2 ⟨t, ht, rfl, some4_iff.2 ⟨n, hn, by rw [at4_sp4 hn]; exact (G.sp_pos hk hc).2 ⟨h0, e⟩⟩⟩
 intro e
 rw [e] at hm
 cases hm
omit G in
theorem base_none {p : P4} (h : some4 p = false) : base4 vs K p := base4_iff.2 fun a b ha _ pa _ => by
 rw [some4_iff.2 ⟨a, ha, pa⟩] at h
 cases h
theorem GameOk.ne' {p : P4} {c : Nat} (h : P4Ok vs p) (hb : ¬ base4 vs K p) (hc : c < K) : succ4 vs T p c ≠ [] := by
 refine G.ne h ?_ hc
 cases hp : some4 p with
 | true => rfl
 | false => exact absurd (base_none hp) hb
end
structure BestQ (vs : List Vers) (K T : Nat) (p : P4) (c n : Nat) : Prop where
 val : Val (base4 vs K) (succ4 vs T) K p n
 nb : ¬ base4 vs K p
 lt : c < K
 good : ∀ y ∈ succ4 vs T p c, ∃ m, Val (base4 vs K) (succ4 vs T) K y m ∧ m + 1 ≤ n
 min : ∀ d, d < c → ¬ ∀ y ∈ succ4 vs T p d, ∃ m, Val (base4 vs K) (succ4 vs T) K y m ∧ m + 1 ≤ n
theorem BestQ.unique {vs : List Vers} {K T : Nat} {p : P4} {c n c' n' : Nat} (h : BestQ vs K T p c n) (h' : BestQ vs K T p c' n') : c = c' ∧ n = n' := by
 obtain rfl := h.val.unique h'.val
 refine ⟨?_, rfl⟩
 rcases Nat.lt_trichotomy c c' with h1 | h1 | h1
 ·exact absurd h.good (h'.min c h1)
 ·exact h1
 ·exact absurd h'.good (h.min c' h1)
inductive AskR (vs : List Vers) (K T : Nat) (p : P4) : Option (Option (Nat × Nat)) → Prop
 | done (h : base4 vs K p) : AskR vs K T p (some none)
 | best {c n : Nat} (h : BestQ vs K T p c n) : AskR vs K T p (some (some (c, n)))
 | none (h : ∀ n, ¬ win (base4 vs K) (succ4 vs T) K n p) : AskR vs K T p none
theorem AskR.unique {vs : List Vers} {K T : Nat} {p : P4} {o o' : Option (Option (Nat × Nat))} (h : AskR vs K T p o) (h' : AskR vs K T p o') : o = o' := by
 cases h with
 | done h =>
  cases h' with
  | done _ => rfl
  | best h' => exact absurd h h'.nb
  | none h' => exact absurd (win_base (n := 0) h) (h' 0)
 | best h =>
  cases h' with
  | done h' => exact absurd h' h.nb
  | best h' => obtain ⟨rfl, rfl⟩ := h.unique h'; rfl
  | none h' => exact absurd h.val.1 (h' _)
 | none h =>
  cases h' with
  | done h' => exact absurd (win_base (n := 0) h') (h 0)
  | best h' => exact absurd h'.val.1 (h _)
  | none _ => rfl
def toP (l : List Int) : P4 := (l.getD 0 (-1), l.getD 1 (-1), l.getD 2 (-1), l.getD 3 (-1))
def spL (vs : List Vers) (c t : Nat) (l : List Int) : List Int := (List.range l.length).map fun n => spI vs c t n (l.getD n (-1))
def someL (l : List Int) : Bool := l.any fun x => decide (0 ≤ x)
def succL (vs : List Vers) (T : Nat) (l : List Int) (c : Nat) : List (List Int) := ((List.range T).map fun t => spL vs c t l).filter someL
def baseL (vs : List Vers) (K : Nat) (l : List Int) : Prop := base4 vs K (toP l)
theorem spL_length (vs : List Vers) (c t : Nat) (l : List Int) : (spL vs c t l).length = l.length := by unfold spL; rw [List.length_map, List.length_range]
theorem spL_get {vs : List Vers} {c t n : Nat} {l : List Int} : (spL vs c t l).getD n (-1) = spI vs c t n (l.getD n (-1)) := by
 unfold spL
 rcases Nat.lt_or_ge n l.length with h | h
 ·simp [List.getD, h]
 ·have h1 : ((List.range l.length).map fun n => spI vs c t n (l.getD n (-1)))[n]? = none := List.getElem?_eq_none (by simpa using h)
  have h2 : l[n]? = none := List.getElem?_eq_none h
  rw [List.getD, List.getD, h1, h2]
  show (-1 : Int) = if 0 ≤ (-1 : Int) then _ else -1
  rw [if_neg (by decide)]
theorem toP_spL {vs : List Vers} {c t : Nat} {l : List Int} : toP (spL vs c t l) = sp4 vs c t (toP l) := by
 unfold toP sp4
 simp only [spL_get]
theorem at4_toP {l : List Int} : ∀ {n : Nat}, n < 4 → at4 (toP l) n = l.getD n (-1)
 | 0, _ => rfl
 | 1, _ => rfl
 | 2, _ => rfl
 | 3, _ => rfl
 | _ + 4, h => by omega
theorem some_toP {l : List Int} (h : l.length ≤ 4) : some4 (toP l) = someL l := by
 rw [Bool.eq_iff_iff, some4_iff]
 unfold someL
 rw [List.any_eq_true]
 constructor
 ·rintro ⟨n, hn, h0⟩
  rw [at4_toP hn] at h0
  rcases Nat.lt_or_ge n l.length with h1 | h1
  ·have e : l.getD n (-1) = l[n] := by simp [List.getD, List.getElem?_eq_getElem h1]
   rw [e] at h0
   exact ⟨_, List.getElem_mem h1, by simpa using h0⟩
  ·have e : l.getD n (-1) = -1 := by simp [List.getD, List.getElem?_eq_none h1]
   omega
 ·rintro ⟨x, hx, h0⟩
  obtain ⟨n, hn, rfl⟩ := List.getElem_of_mem hx
  refine ⟨n, by omega, ?_⟩
  rw [at4_toP (by omega)]
  have e : l.getD n (-1) = l[n] := by simp [List.getD, List.getElem?_eq_getElem hn]
  rw [e]
  simpa using h0
theorem succL_mem {vs : List Vers} {T : Nat} {l y : List Int} {c : Nat} : y ∈ succL vs T l c ↔ ∃ t, t < T ∧ y = spL vs c t l ∧ someL y = true := by
 unfold succL
 rw [List.mem_filter, List.mem_map]
 constructor
 ·rintro ⟨⟨t, ht, rfl⟩, h⟩
  exact ⟨t, List.mem_range.1 ht, rfl, h⟩
 ·rintro ⟨t, ht, rfl, h⟩
  exact ⟨⟨t, List.mem_range.2 ht, rfl⟩, h⟩
theorem succL_toP {vs : List Vers} {T : Nat} {l : List Int} (h : l.length ≤ 4) (c : Nat) : succ4 vs T (toP l) c = (succL vs T l c).map toP := by
 unfold succ4 succL
 induction (List.range T) with
 | nil => rfl
 | cons t R ih =>
  rw [List.map_cons, List.map_cons, List.filter_cons, List.filter_cons, ← toP_spL, some_toP (by rw [spL_length]; exact h)]
  by_cases hs : someL (spL vs c t l) = true
  ·rw [if_pos hs, if_pos hs, List.map_cons, ih]
  ·rw [if_neg hs, if_neg hs, ih]
theorem win_map {X Y : Type} {base : X → Prop} {succ : X → Nat → List X} {base' : Y → Prop} {succ' : Y → Nat → List Y} {K : Nat} {f : X → Y} {S : X → Prop} (hS : ∀ x, S x → ∀ c, ∀ y ∈ succ x c, S y) (hb : ∀ x, S x → (base' (f x) ↔ base x)) (hs : ∀ x, S x → ∀ c, succ' (f x) c = (succ x c).map f) :
  ∀ {n : Nat} {x : X}, S x → (win base' succ' K n (f x) ↔ win base succ K n x)
 | 0, x, hx => hb x hx
 | n + 1, x, hx => by
  show (base' (f x) ∨ ∃ c, c < K ∧ ∀ y ∈ succ' (f x) c, win base' succ' K n y) ↔ (base x ∨ ∃ c, c < K ∧ ∀ y ∈ succ x c, win base succ K n y)
  rw [hb x hx]
  refine or_congr Iff.rfl ⟨?_, ?_⟩
  ·rintro ⟨c, hc, h⟩
   refine ⟨c, hc, fun y hy => ?_⟩
   have := h (f y) (by rw [hs x hx c]; exact List.mem_map.2 ⟨y, hy, rfl⟩)
   exact (win_map hS hb hs (hS x hx c y hy)).1 this
  ·rintro ⟨c, hc, h⟩
   refine ⟨c, hc, fun z hz => ?_⟩
   rw [hs x hx c] at hz
   obtain ⟨y, hy, rfl⟩ := List.mem_map.1 hz
   exact (win_map hS hb hs (hS x hx c y hy)).2 (h y hy)
theorem winL {vs : List Vers} {K T n : Nat} {l : List Int} (h : l.length ≤ 4) : win (base4 vs K) (succ4 vs T) K n (toP l) ↔ win (baseL vs K) (succL vs T) K n l :=
 win_map (S := fun l => l.length ≤ 4) (fun l hl c y hy => by
  obtain ⟨t, _, rfl, _⟩ := succL_mem.1 hy
  show (spL vs c t l).length ≤ 4
  rw [spL_length]; exact hl) (fun _ _ => Iff.rfl) (fun l hl c => succL_toP hl c) h
theorem valL {vs : List Vers} {K T n : Nat} {l : List Int} (h : l.length ≤ 4) : Val (base4 vs K) (succ4 vs T) K (toP l) n ↔ Val (baseL vs K) (succL vs T) K l n := by
 unfold Val
 rw [winL h]
 refine and_congr Iff.rfl ⟨fun k m hm => k m ((winL h).2 hm), fun k m hm => k m ((winL h).1 hm)⟩
end Go.Vm

namespace Go.Vm
open Go.Proofs
def allL (vs : List Vers) : Nat → List (List Int)
 | 0 => [[]]
 | m + 1 => (allL vs m).flatMap fun l => (List.range ((vAt vs m).length + 1)).map fun s => l ++ [((s : Nat) : Int) - 1]
def StL (vs : List Vers) (m : Nat) (l : List Int) : Prop := l.length = m ∧ ∀ n, n < m → PosOk vs n (l.getD n (-1))
theorem getD_snoc {l : List Int} {x : Int} : (l ++ [x]).getD l.length (-1) = x := by simp [List.getD]
theorem getD_low {l : List Int} {x : Int} {n : Nat} (h : n < l.length) : (l ++ [x]).getD n (-1) = l.getD n (-1) := by
 simp [List.getD, List.getElem?_append_left h]
theorem allL_mem {vs : List Vers} : ∀ {m : Nat} {l : List Int}, m ≤ vs.length → (l ∈ allL vs m ↔ StL vs m l)
 | 0, l, _ => by
  unfold allL StL
  rw [List.mem_singleton, List.length_eq_zero_iff]
  exact ⟨fun h => ⟨h, fun n hn => by omega⟩, fun h => h.1⟩
 | m + 1, l, hm => by
  have ih := fun {l : List Int} => allL_mem (vs := vs) (m := m) (l := l) (by omega)
  unfold allL
  rw [List.mem_flatMap]
  constructor
  ·rintro ⟨k, hk, h⟩
   obtain ⟨s, hs, rfl⟩ := List.mem_map.1 h
   have hs := List.mem_range.1 hs
   obtain ⟨h1, h2⟩ := ih.1 hk
   refine ⟨by rw [List.length_append, h1]; rfl, fun n hn => ?_⟩
   rcases Nat.lt_or_ge n m with h3 | h3
   ·rw [getD_low (by omega)]; exact h2 n h3
   ·obtain rfl : n = m := by omega
    rw [← h1, getD_snoc]
    by_cases h0 : s = 0
    ·subst h0; exact .inl rfl
    ·refine .inr ⟨by omega, by omega, ?_⟩
     rw [h1]
     show (s : Int) - 1 < ((vAt vs n).length : Nat)
     omega
  ·rintro ⟨h1, h2⟩
   rcases List.eq_nil_or_concat l with rfl | ⟨k, x, rfl⟩
   ·simp at h1
   ·rw [List.concat_eq_append] at *
    have hk : k.length = m := by simpa using h1
    refine ⟨k, ih.2 ⟨hk, fun n hn => ?_⟩, ?_⟩
    ·have := h2 n (by omega)
     rwa [getD_low (by omega)] at this
    ·have h3 := h2 m (by omega)
     rw [← hk, getD_snoc, hk] at h3
     rw [List.mem_map]
     rcases h3 with rfl | ⟨h4, _, h5⟩
     ·exact ⟨0, List.mem_range.2 (by omega), rfl⟩
     ·have h6 : x < ((vAt vs m).length : Nat) := h5
      refine ⟨(x + 1).toNat, List.mem_range.2 (by omega), ?_⟩
      rw [show (((x + 1).toNat : Nat) : Int) - 1 = x by omega]
theorem allL_count {vs : List Vers} (hs : ∀ v ∈ vs, v.length ≤ 4) : ∀ {m : Nat}, m ≤ vs.length → (allL vs m).length ≤ 5 ^ m
 | 0, _ => Nat.le_refl _
 | m + 1, hm => by
  have ih := allL_count hs (m := m) (by omega)
  have h4 := hs _ (vAt_in (show m < vs.length by omega))
  unfold allL
  have key : ∀ L : List (List Int), (L.flatMap fun l => (List.range ((vAt vs m).length + 1)).map fun s => l ++ [((s : Nat) : Int) - 1]).length = L.length * ((vAt vs m).length + 1) := fun L => by
   induction L with
   | nil => simp
   | cons l L ih =>
    rw [List.flatMap_cons, List.length_append, ih, List.length_map, List.length_range, List.length_cons, Nat.succ_mul]
    omega
  rw [key, Nat.pow_succ]
  exact Nat.mul_le_mul ih (by omega)
def chL (l : List Int) : Nat := l.foldl (fun n s => n * 5 + (s + 1).toNat) 0
theorem chL_snoc (l : List Int) (x : Int) : chL (l ++ [x]) = chL l * 5 + (x + 1).toNat := by unfold chL; rw [List.foldl_append]; rfl
theorem chL_lt : ∀ (n : Nat) {l : List Int}, l.length = n → (∀ x ∈ l, -1 ≤ x ∧ x ≤ 3) → chL l < 5 ^ n
 | 0, l, h, _ => by
  obtain rfl := List.length_eq_zero_iff.1 h
  exact Nat.zero_lt_one
 | n + 1, l, h, hd => by
  rcases List.eq_nil_or_concat l with rfl | ⟨k, x, rfl⟩
  ·simp at h
  ·rw [List.concat_eq_append] at *
   have hl : k.length = n := by simpa using h
   have h1 := chL_lt n hl fun y hy => hd y (by simp [hy])
   have h2 := hd x (by simp)
   rw [chL_snoc, Nat.pow_succ]
   omega
theorem chL_inj : ∀ (n : Nat) {l m : List Int}, l.length = n → m.length = n → (∀ x ∈ l, -1 ≤ x ∧ x ≤ 3) → (∀ x ∈ m, -1 ≤ x ∧ x ≤ 3) → chL l = chL m → l = m
 | 0, l, m, h, h', _, _, _ => by
  obtain rfl := List.length_eq_zero_iff.1 h
  obtain rfl := List.length_eq_zero_iff.1 h'
  rfl
 | n + 1, l, m, h, h', hd, he, e => by
  rcases List.eq_nil_or_concat l with rfl | ⟨k, x, rfl⟩
  ·simp at h
  ·rcases List.eq_nil_or_concat m with rfl | ⟨j, y, rfl⟩
   ·simp at h'
   ·rw [List.concat_eq_append, List.concat_eq_append] at *
    have hl : k.length = n := by simpa using h
    have hm : j.length = n := by simpa using h'
    have h1 := hd x (by simp)
    have h2 := he y (by simp)
    rw [chL_snoc, chL_snoc] at e
    have e1 : chL k = chL j := by omega
    have e2 : x = y := by omega
    rw [chL_inj n hl hm (fun z hz => hd z (by simp [hz])) (fun z hz => he z (by simp [hz])) e1, e2]
section
variable {vs : List Vers} {K T : Nat} (G : GameOk vs K T)
include G
theorem GameOk.small {n : Nat} {p : Int} (h : PosOk vs n p) : -1 ≤ p ∧ p ≤ 3 := h.small G.hs
theorem GameOk.stSmall {l : List Int} (h : StL vs vs.length l) : ∀ x ∈ l, -1 ≤ x ∧ x ≤ 3 := fun x hx => by
 obtain ⟨n, hn, rfl⟩ := List.getElem_of_mem hx
 have := h.2 n (by rw [← h.1]; exact hn)
 have e : l.getD n (-1) = l[n] := by simp [List.getD, List.getElem?_eq_getElem hn]
 rw [e] at this
 exact G.small this
theorem GameOk.ch_lt {l : List Int} (h : StL vs vs.length l) : chL l < 625 := by
 have h1 := chL_lt vs.length h.1 (G.stSmall h)
 have h2 : 5 ^ vs.length ≤ 5 ^ 4 := Nat.pow_le_pow_right (by omega) G.hn
 have h3 : 5 ^ 4 = 625 := rfl
 omega
theorem GameOk.ch_inj {l m : List Int} (h : StL vs vs.length l) (h' : StL vs vs.length m) (e : chL l = chL m) : l = m := chL_inj vs.length h.1 h'.1 (G.stSmall h) (G.stSmall h') e
theorem GameOk.few : (allL vs vs.length).length ≤ 625 := by
 have h1 := allL_count (vs := vs) G.hs (Nat.le_refl _)
 have h2 : 5 ^ vs.length ≤ 5 ^ 4 := Nat.pow_le_pow_right (by omega) G.hn
 have h3 : 5 ^ 4 = 625 := rfl
 omega
theorem GameOk.spL_ok {l : List Int} {c t : Nat} (h : StL vs vs.length l) (hc : c < K) : StL vs vs.length (spL vs c t l) := by
 refine ⟨by rw [spL_length]; exact h.1, fun n hn => ?_⟩
 rw [spL_get]
 exact G.sp_ok (h.2 n hn) hc
theorem GameOk.closedL : ∀ x ∈ allL vs vs.length, ∀ c, c < K → ∀ y ∈ succL vs T x c, y ∈ allL vs vs.length := fun x hx c hc y hy => by
 rw [allL_mem (Nat.le_refl _)] at hx ⊢
 obtain ⟨t, _, rfl, _⟩ := succL_mem.1 hy
 exact G.spL_ok hx hc
end
abbrev Tab := Nat → Nat
def kT (τ : Tab) (l : List Int) : Nat := τ (chL l)
def updT (τ : Tab) (i v : Nat) : Tab := fun j => if j = i then v else τ j
def sumT (U : List (List Int)) (τ : Tab) : Nat := (U.map (kT τ)).sum
theorem Nums.congr {X : Type} {base : X → Prop} {succ : X → Nat → List X} {K : Nat} {U : List X} {k k' : X → Nat} (h : Nums base succ K U k) (e : ∀ x ∈ U, k' x = k x) : Nums base succ K U k' :=
 ⟨fun x hx hb => by rw [e x hx]; exact h.base0 x hx hb, fun x hx hl => by rw [e x hx] at hl ⊢; exact h.right x hx hl, fun x hx => by rw [e x hx]; exact h.le x hx⟩
theorem sum_le {U : List (List Int)} {τ τ' : Tab} (h : ∀ x ∈ U, kT τ' x ≤ kT τ x) : sumT U τ' ≤ sumT U τ := by
 unfold sumT
 induction U with
 | nil => exact Nat.le_refl _
 | cons x U ih =>
  rw [List.map_cons, List.map_cons, List.sum_cons, List.sum_cons]
  have h1 := h x (by simp)
  have h2 := ih fun y hy => h y (by simp [hy])
  omega
theorem sum_lt {U : List (List Int)} {τ τ' : Tab} {z : List Int} (h : ∀ x ∈ U, kT τ' x ≤ kT τ x) (hz : z ∈ U) (hl : kT τ' z < kT τ z) : sumT U τ' < sumT U τ := by
 unfold sumT
 induction U with
 | nil => cases hz
 | cons x U ih =>
  rw [List.map_cons, List.map_cons, List.sum_cons, List.sum_cons]
  have h1 := h x (by simp)
  have h2 := sum_le (U := U) (τ := τ) (τ' := τ') fun y hy => h y (by simp [hy])
  unfold sumT at h2
  rcases List.mem_cons.1 hz with rfl | hz
  ·omega
  ·have h3 := ih (fun y hy => h y (by simp [hy])) hz
   omega
open Classical in
noncomputable def iniT (vs : List Vers) (K : Nat) (U : List (List Int)) : Nat → Tab
 | 0 => fun _ => 0
 | r + 1 => updT (iniT vs K U r) (chL (U.getD r [])) (if baseL vs K (U.getD r []) then 0 else 1000)
def cueT (vs : List Vers) (T : Nat) (x : List Int) (s : Tab × Bool) (c : Nat) : Tab × Bool :=
 if worstN (kT s.1) (succL vs T) x c < kT s.1 x then (updT s.1 (chL x) (worstN (kT s.1) (succL vs T) x c), true) else s
def rowT (vs : List Vers) (T : Nat) (x : List Int) (s : Tab × Bool) : Nat → Tab × Bool
 | 0 => s
 | c + 1 => cueT vs T x (rowT vs T x s c) c
def rndT (vs : List Vers) (K T : Nat) (U : List (List Int)) (s : Tab × Bool) : Nat → Tab × Bool
 | 0 => s
 | i + 1 => rowT vs T (U.getD i []) (rndT vs K T U s i) K
section
variable {vs : List Vers} {K T : Nat} (G : GameOk vs K T)
include G
theorem GameOk.ini {r : Nat} (hr : r ≤ (allL vs vs.length).length) : (∀ j, j < r → kT (iniT vs K (allL vs vs.length) r) ((allL vs vs.length).getD j []) = 0 ∧ baseL vs K ((allL vs vs.length).getD j []) ∨ kT (iniT vs K (allL vs vs.length) r) ((allL vs vs.length).getD j []) = 1000 ∧ ¬ baseL vs K ((allL vs vs.length).getD j [])) ∧ ∀ i, iniT vs K (allL vs vs.length) r i ≤ 1000 := by
 induction r with
 | zero => exact ⟨fun j hj => by omega, fun i => Nat.zero_le _⟩
 | succ r ih =>
  obtain ⟨ih, ih2⟩ := ih (by omega)
  have hU : ∀ j, j < (allL vs vs.length).length → StL vs vs.length ((allL vs vs.length).getD j []) := fun j hj => by
   have e : (allL vs vs.length).getD j [] = (allL vs vs.length)[j] := by simp [List.getD, List.getElem?_eq_getElem hj]
   rw [e]
   exact (allL_mem (Nat.le_refl _)).1 (List.getElem_mem hj)
  refine ⟨fun j hj => ?_, fun i => ?_⟩
  ·unfold iniT kT updT
   by_cases e : chL ((allL vs vs.length).getD j []) = chL ((allL vs vs.length).getD r [])
   ·rw [if_pos e]
    have := G.ch_inj (hU j (by omega)) (hU r (by omega)) e
    rw [this]
    by_cases hb : baseL vs K ((allL vs vs.length).getD r [])
    ·rw [if_pos hb]; exact .inl ⟨rfl, hb⟩
    ·rw [if_neg hb]; exact .inr ⟨rfl, hb⟩
   ·rw [if_neg e]
    have hjr : j ≠ r := fun h => e (by rw [h])
    exact ih j (by omega)
  ·unfold iniT updT
   split
   ·split <;> omega
   ·exact ih2 i
theorem GameOk.ini_nums : Nums (baseL vs K) (succL vs T) K (allL vs vs.length) (kT (iniT vs K (allL vs vs.length) (allL vs vs.length).length)) := by
 obtain ⟨h1, h2⟩ := G.ini (Nat.le_refl _)
 have key : ∀ x ∈ allL vs vs.length, kT (iniT vs K (allL vs vs.length) (allL vs vs.length).length) x = 0 ∧ baseL vs K x ∨ kT (iniT vs K (allL vs vs.length) (allL vs vs.length).length) x = 1000 ∧ ¬ baseL vs K x := fun x hx => by
  obtain ⟨j, hj, rfl⟩ := List.getElem_of_mem hx
  have := h1 j hj
  rwa [show (allL vs vs.length).getD j [] = (allL vs vs.length)[j] by simp [List.getD, List.getElem?_eq_getElem hj]] at this
 refine ⟨fun x hx hb => ?_, fun x hx hl => ?_, fun x hx => ?_⟩
 ·rcases key x hx with h | h
  ·exact h.1
  ·exact absurd hb h.2
 ·rcases key x hx with h | h
  ·exact win_base h.2
  ·omega
 ·rcases key x hx with h | h <;> omega
structure TabOk (vs : List Vers) (K T : Nat) (τ0 : Tab) (s : Tab × Bool) : Prop where
 nums : Nums (baseL vs K) (succL vs T) K (allL vs vs.length) (kT s.1)
 le : ∀ x ∈ allL vs vs.length, kT s.1 x ≤ kT τ0 x
 lt : s.2 = true → sumT (allL vs vs.length) s.1 < sumT (allL vs vs.length) τ0
 same : s.2 = false → s.1 = τ0
theorem GameOk.cue_ok {τ0 : Tab} {s : Tab × Bool} (h : TabOk vs K T τ0 s) {x : List Int} (hx : x ∈ allL vs vs.length) {c : Nat} (hc : c < K) : TabOk vs K T τ0 (cueT vs T x s c) ∧ ((cueT vs T x s c).2 = false → s.2 = false ∧ kT τ0 x ≤ worstN (kT τ0) (succL vs T) x c) := by
 unfold cueT
 by_cases hl : worstN (kT s.1) (succL vs T) x c < kT s.1 x
 ·rw [if_pos hl]
  have hxS := (allL_mem (Nat.le_refl _)).1 hx
  have e : ∀ y ∈ allL vs vs.length, kT (updT s.1 (chL x) (worstN (kT s.1) (succL vs T) x c)) y = if y = x then worstN (kT s.1) (succL vs T) x c else kT s.1 y := fun y hy => by
   unfold kT updT
   by_cases e : chL y = chL x
   ·have := G.ch_inj ((allL_mem (Nat.le_refl _)).1 hy) hxS e
    rw [if_pos e, if_pos this]
   ·rw [if_neg e, if_neg fun h => e (by rw [h])]
  have hle : ∀ y ∈ allL vs vs.length, kT (updT s.1 (chL x) (worstN (kT s.1) (succL vs T) x c)) y ≤ kT s.1 y := fun y hy => by
   rw [e y hy]
   split
   ·rename_i h; subst h; omega
   ·exact Nat.le_refl _
  have hlt : sumT (allL vs vs.length) (updT s.1 (chL x) (worstN (kT s.1) (succL vs T) x c)) < sumT (allL vs vs.length) s.1 := sum_lt hle hx (by rw [e x hx, if_pos rfl]; exact hl)
  refine ⟨⟨(h.nums.less G.closedL hx hc hl).congr e, fun y hy => Nat.le_trans (hle y hy) (h.le y hy), fun _ => Nat.lt_of_lt_of_le hlt (sum_le h.le), fun h => by cases h⟩, fun h => by cases h⟩
 ·rw [if_neg hl]
  refine ⟨h, fun h2 => ⟨h2, ?_⟩⟩
  rw [h.same h2] at hl
  omega
theorem GameOk.row_ok {τ0 : Tab} {s : Tab × Bool} (h : TabOk vs K T τ0 s) {x : List Int} (hx : x ∈ allL vs vs.length) : ∀ {c : Nat}, c ≤ K → TabOk vs K T τ0 (rowT vs T x s c) ∧ ((rowT vs T x s c).2 = false → s.2 = false ∧ ∀ d, d < c → kT τ0 x ≤ worstN (kT τ0) (succL vs T) x d)
 | 0, _ => ⟨h, fun h2 => ⟨h2, fun d hd => by omega⟩⟩
 | c + 1, hc => by
  obtain ⟨h1, h2⟩ := GameOk.row_ok h hx (c := c) (by omega)
  obtain ⟨h3, h4⟩ := G.cue_ok h1 hx (c := c) (by omega)
  refine ⟨h3, fun h5 => ?_⟩
  obtain ⟨h6, h7⟩ := h4 h5
  obtain ⟨h8, h9⟩ := h2 h6
  refine ⟨h8, fun d hd => ?_⟩
  rcases Nat.lt_or_ge d c with h | h
  ·exact h9 d h
  ·obtain rfl : d = c := by omega
   exact h7
theorem GameOk.rnd_ok {τ0 : Tab} (h : Nums (baseL vs K) (succL vs T) K (allL vs vs.length) (kT τ0)) : ∀ {i : Nat}, i ≤ (allL vs vs.length).length → TabOk vs K T τ0 (rndT vs K T (allL vs vs.length) (τ0, false) i) ∧ ((rndT vs K T (allL vs vs.length) (τ0, false) i).2 = false → ∀ j, j < i → ∀ c, c < K → kT τ0 ((allL vs vs.length).getD j []) ≤ worstN (kT τ0) (succL vs T) ((allL vs vs.length).getD j []) c)
 | 0, _ => ⟨⟨h, fun _ _ => Nat.le_refl _, fun h => (by cases h), fun _ => rfl⟩, fun _ j hj => by omega⟩
 | i + 1, hi => by
  obtain ⟨h1, h2⟩ := GameOk.rnd_ok h (i := i) (by omega)
  have hm : (allL vs vs.length).getD i [] ∈ allL vs vs.length := by
   rw [show (allL vs vs.length).getD i [] = (allL vs vs.length)[i] by simp [List.getD, List.getElem?_eq_getElem (show i < (allL vs vs.length).length by omega)]]
   exact List.getElem_mem _
  obtain ⟨h3, h4⟩ := G.row_ok h1 hm (Nat.le_refl K)
  refine ⟨h3, fun h5 j hj => ?_⟩
  obtain ⟨h6, h7⟩ := h4 h5
  rcases Nat.lt_or_ge j i with h | h
  ·exact h2 h6 j h
  ·obtain rfl : j = i := by omega
   exact h7
structure TabEnd (vs : List Vers) (K T : Nat) (τ : Tab) : Prop where
 nums : Nums (baseL vs K) (succL vs T) K (allL vs vs.length) (kT τ)
 stop : ∀ x ∈ allL vs vs.length, ∀ c, c < K → kT τ x ≤ worstN (kT τ) (succL vs T) x c
theorem GameOk.rnd_end {τ0 : Tab} (h : Nums (baseL vs K) (succL vs T) K (allL vs vs.length) (kT τ0)) (h2 : (rndT vs K T (allL vs vs.length) (τ0, false) (allL vs vs.length).length).2 = false) : (rndT vs K T (allL vs vs.length) (τ0, false) (allL vs vs.length).length).1 = τ0 ∧ TabEnd vs K T τ0 := by
 obtain ⟨h3, h4⟩ := G.rnd_ok h (Nat.le_refl _)
 refine ⟨h3.same h2, h, fun x hx c hc => ?_⟩
 obtain ⟨j, hj, rfl⟩ := List.getElem_of_mem hx
 have := h4 h2 j hj c hc
 rwa [show (allL vs vs.length).getD j [] = (allL vs vs.length)[j] by simp [List.getD, List.getElem?_eq_getElem hj]] at this
theorem GameOk.ask {τ : Tab} (h : TabEnd vs K T τ) {l : List Int} (hl : StL vs vs.length l) :
  (kT τ l = 0 ∧ AskR vs K T (toP l) (some none)) ∨ (kT τ l = 1000 ∧ AskR vs K T (toP l) none) ∨ ∃ c, 0 < kT τ l ∧ kT τ l < 1000 ∧ c < K ∧ worstN (kT τ) (succL vs T) l c = kT τ l ∧ (∀ d, d < c → worstN (kT τ) (succL vs T) l d ≠ kT τ l) ∧ AskR vs K T (toP l) (some (some (c, kT τ l))) := by
 have hU : l ∈ allL vs vs.length := (allL_mem (Nat.le_refl _)).2 hl
 have hlen : l.length ≤ 4 := by rw [hl.1]; exact G.hn
 have hfew := G.few
 obtain ⟨e1, e2, e3⟩ := h.nums.end_ G.closedL (by omega) h.stop hU
 have hle := h.nums.le l hU
 rcases Nat.lt_or_ge (kT τ l) 1000 with hlt | hge
 ·have hV := e3 hlt
  rcases Nat.eq_zero_or_pos (kT τ l) with h0 | h0
  ·refine .inl ⟨h0, .done ?_⟩
   rw [h0] at hV
   have hb : baseL vs K l := Val.zero.1 hV
   exact hb
  ·refine .inr (.inr ?_)
   have hnb : ¬ base4 vs K (toP l) := fun hb => by
    have := h.nums.base0 l hU hb
    omega
   have hVs : ∀ y, y ∈ allL vs vs.length → ∀ m, Val (baseL vs K) (succL vs T) K y m → kT τ y = m := fun y hy m hm => (h.nums.end_ G.closedL (by omega) h.stop hy).1 m hm
   -- a cue is good just if the table says so
   have good : ∀ d, d < K → (worstN (kT τ) (succL vs T) l d = kT τ l ↔ ∀ y ∈ succ4 vs T (toP l) d, ∃ m, Val (base4 vs K) (succ4 vs T) K y m ∧ m + 1 ≤ kT τ l) := fun d hd => by
    have hs := h.stop l hU d hd
    have hy4 : ∀ y ∈ succL vs T l d, y.length ≤ 4 := fun y hy => by
     have := (allL_mem (Nat.le_refl _)).1 (G.closedL l hU d hd y hy)
     rw [this.1]; exact G.hn
    have hm : (∀ y ∈ succ4 vs T (toP l) d, ∃ m, Val (base4 vs K) (succ4 vs T) K y m ∧ m + 1 ≤ kT τ l) ↔ ∀ y ∈ succL vs T l d, kT τ y ≤ kT τ l - 1 := by
     rw [succL_toP hlen]
     constructor
     ·intro h5 y hy
      obtain ⟨m, hm, hm2⟩ := h5 (toP y) (List.mem_map.2 ⟨y, hy, rfl⟩)
      have := hVs y (G.closedL l hU d hd y hy) m ((valL (hy4 y hy)).1 hm)
      omega
     ·intro h5 z hz
      obtain ⟨y, hy, rfl⟩ := List.mem_map.1 hz
      have h6 := h5 y hy
      refine ⟨kT τ y, (valL (hy4 y hy)).2 ((h.nums.end_ G.closedL (by omega) h.stop (G.closedL l hU d hd y hy)).2.2 (by omega)), by omega⟩
    rw [hm, ← maxL_le]
    unfold worstN at hs ⊢
    omega
   obtain ⟨c, hc, hw⟩ : ∃ c, c < K ∧ worstN (kT τ) (succL vs T) l c = kT τ l := by
    obtain ⟨e, he⟩ : ∃ e, kT τ l = e + 1 := ⟨kT τ l - 1, by omega⟩
    have hw := hV.1
    rw [he] at hw
    rcases hw with hb | ⟨d, hd, hw⟩
    ·exact absurd hb hnb
    ·refine ⟨d, hd, (good d hd).2 fun z hz => ?_⟩
     rw [succL_toP hlen] at hz
     obtain ⟨y, hy, rfl⟩ := List.mem_map.1 hz
     have hy4 : y.length ≤ 4 := by
      have := (allL_mem (Nat.le_refl _)).1 (G.closedL l hU d hd y hy)
      rw [this.1]; exact G.hn
     obtain ⟨m, hm, hv⟩ := Val.least (hw y hy)
     exact ⟨m, (valL hy4).2 hv, by omega⟩
   obtain ⟨c0, hc0, hw0, hmin⟩ : ∃ c, c < K ∧ worstN (kT τ) (succL vs T) l c = kT τ l ∧ ∀ d, d < c → worstN (kT τ) (succL vs T) l d ≠ kT τ l := by
    clear good
    induction c using Nat.strongRecOn with
    | _ c ih =>
     by_cases hd : ∃ d, d < c ∧ worstN (kT τ) (succL vs T) l d = kT τ l
     ·obtain ⟨d, hd1, hd2⟩ := hd
      exact ih d hd1 (by omega) hd2
     ·exact ⟨c, hc, hw, fun d hd1 hd2 => hd ⟨d, hd1, hd2⟩⟩
   refine ⟨c0, h0, hlt, hc0, hw0, hmin, .best ⟨(valL hlen).2 hV, hnb, hc0, (good c0 hc0).1 hw0, fun d hd h5 => hmin d hd ((good d (by omega)).2 h5)⟩⟩
 ·refine .inr (.inl ⟨by omega, .none fun n hw => ?_⟩)
  obtain ⟨m, _, hv⟩ := Val.least ((winL hlen).1 hw)
  have h5 := e1 m hv
  have h6 := win_bound G.closedL hU hv
  omega
end
end Go.Vm

namespace Go.Vm
open Go.Proofs
def stP (vs : List Vers) (L : List Int) (l : List Nat) : P4 := (jRun vs L l).1
theorem at4_st {vs : List Vers} {L : List Int} {l : List Nat} : ∀ {n : Nat}, n < 4 → at4 (stP vs L l) n = erI vs L l n
 | 0, _ => rfl
 | 1, _ => rfl
 | 2, _ => rfl
 | 3, _ => rfl
 | _ + 4, h => by omega
theorem at4_ext {p q : P4} (h : ∀ n, n < 4 → at4 p n = at4 q n) : p = q := by
 obtain ⟨a, b, c, d⟩ := p
 obtain ⟨a', b', c', d'⟩ := q
 have h0 : a = a' := h 0 (by omega)
 have h1 : b = b' := h 1 (by omega)
 have h2 : c = c' := h 2 (by omega)
 have h3 : d = d' := h 3 (by omega)
 rw [h0, h1, h2, h3]
theorem remL_iff {vs : List Vers} {evs : List Evening} : ∀ {r : Nat} {n : Nat}, (n : Int) ∈ remL vs evs r ↔ n < r ∧ Agrees (vAt vs n) evs
 | 0, n => ⟨fun h => (by cases h), fun h => by omega⟩
 | r + 1, n => by
  have ih := remL_iff (vs := vs) (evs := evs) (r := r) (n := n)
  unfold remL
  by_cases ha : Agrees (vs.getD r []) evs
  ·rw [if_pos ha, List.mem_append, ih, List.mem_singleton]
   constructor
   ·rintro (⟨h1, h2⟩ | h)
    ·exact ⟨by omega, h2⟩
    ·obtain rfl : n = r := by omega
     exact ⟨by omega, ha⟩
   ·rintro ⟨h1, h2⟩
    rcases Nat.lt_or_ge n r with h | h
    ·exact .inl ⟨h, h2⟩
    ·exact .inr (by omega)
  ·rw [if_neg ha, ih]
   constructor
   ·rintro ⟨h1, h2⟩
    exact ⟨by omega, h2⟩
   ·rintro ⟨h1, h2⟩
    rcases Nat.lt_or_ge n r with h | h
    ·exact ⟨h, h2⟩
    ·obtain rfl : n = r := by omega
     exact absurd h2 ha
section
variable {vs : List Vers} {K T : Nat} (G : GameOk vs K T) {evs : List Evening} {cues tunes : List Int} {l : List Nat}
include G in
theorem GameOk.st_ok (hl : OkL K l) (evs : List Evening) : P4Ok vs (stP vs (remL vs evs vs.length) l) := P4Ok_iff.2 fun n hn => by
 rw [at4_st hn]
 unfold erI
 by_cases h : (n : Int) ∈ remL vs evs vs.length
 ·rw [if_pos h]
  have hnl := (remL_iff.1 h).1
  have := after_lt (G.hv _ (vAt_in hnl)) (cuesI_ok hl) (G.hv0 _ (vAt_in hnl))
  exact .inr ⟨by omega, hnl, by
   show ((after (vAt vs n) 0 (cuesI l) : Nat) : Int) < ((vAt vs n).length : Nat)
   omega⟩
 ·rw [if_neg h]; exact .inl rfl
end
end Go.Vm

namespace Go.Vm
open Go.Proofs
def p4All : List P4 := prodL r5 (prodL r5 (prodL r5 r5))
theorem p4All_length : p4All.length = 625 := by
 unfold p4All
 simp only [prodL_length]
 rfl
theorem P4Ok.all {vs : List Vers} (hs : Small vs) {p : P4} (h : P4Ok vs p) : p ∈ p4All := by
 obtain ⟨h0, h1, h2, h3⟩ := h
 obtain ⟨a, b, c, d⟩ := p
 exact prodL_mem (r5_mem (h0.small hs)) (prodL_mem (r5_mem (h1.small hs)) (prodL_mem (r5_mem (h2.small hs)) (r5_mem (h3.small hs))))
theorem p4_few {vs : List Vers} (hs : Small vs) {U : List P4} (hn : U.Nodup) (hU : ∀ x ∈ U, P4Ok vs x) : U.length ≤ 625 := by
 have := nodup_length hn (U := p4All) fun x hx => (hU x hx).all hs
 rwa [p4All_length] at this
def addP (U : List P4) (y : P4) : List P4 := if y ∈ U then U else U ++ [y]
def addR (U l : List P4) : Nat → List P4
 | 0 => U
 | r + 1 => addP (addR U l r) (l.getD r (0, 0, 0, 0))
def addC (vs : List Vers) (T : Nat) (U : List P4) (x : P4) : Nat → List P4
 | 0 => U
 | c + 1 => addR (addC vs T U x c) (succ4 vs T x c) (succ4 vs T x c).length
theorem addP_sub {U : List P4} {y x : P4} (h : x ∈ U) : x ∈ addP U y := by
 unfold addP
 split
 ·exact h
 ·simp [h]
theorem addP_has (U : List P4) (y : P4) : y ∈ addP U y := by
 unfold addP
 split
 ·assumption
 ·simp
theorem addR_sub {U l : List P4} {x : P4} (h : x ∈ U) : ∀ r, x ∈ addR U l r
 | 0 => h
 | r + 1 => addP_sub (addR_sub h r)
theorem addR_has {U l : List P4} : ∀ {r j : Nat}, j < r → l.getD j (0, 0, 0, 0) ∈ addR U l r
 | r + 1, j, h => by
  rcases Nat.lt_or_ge j r with h1 | h1
  ·exact addP_sub (addR_has h1)
  ·obtain rfl : j = r := by omega
   exact addP_has _ _
theorem addC_sub {vs : List Vers} {T : Nat} {U : List P4} {x z : P4} (h : z ∈ U) : ∀ c, z ∈ addC vs T U x c
 | 0 => h
 | c + 1 => addR_sub (addC_sub h c) _
theorem addC_has {vs : List Vers} {T : Nat} {U : List P4} {x y : P4} : ∀ {c d : Nat}, d < c → y ∈ succ4 vs T x d → y ∈ addC vs T U x c
 | c + 1, d, h, hy => by
  rcases Nat.lt_or_ge d c with h1 | h1
  ·exact addR_sub (addC_has h1 hy) _
  ·obtain rfl : d = c := by omega
   obtain ⟨j, hj, rfl⟩ := List.getElem_of_mem hy
   have := addR_has (U := addC vs T U x d) (l := succ4 vs T x d) hj
   rwa [show (succ4 vs T x d).getD j (0, 0, 0, 0) = (succ4 vs T x d)[j] by simp [List.getD, List.getElem?_eq_getElem hj]] at this
def PosU (vs : List Vers) (st : P4) (U : List P4) : Prop := U.Nodup ∧ (∀ x ∈ U, P4Ok vs x) ∧ ∃ R, U = st :: R
theorem PosU.add {vs : List Vers} {st y : P4} {U : List P4} (h : PosU vs st U) (hy : P4Ok vs y) : PosU vs st (addP U y) := by
 unfold addP
 by_cases hm : y ∈ U
 ·rw [if_pos hm]; exact h
 ·rw [if_neg hm]
  obtain ⟨h1, h2, R, rfl⟩ := h
  refine ⟨?_, fun x hx => ?_, R ++ [y], rfl⟩
  ·rw [List.nodup_append]
   refine ⟨h1, by simp, fun a ha b hb e => ?_⟩
   rw [List.mem_singleton] at hb
   subst hb e
   exact hm ha
  ·rcases List.mem_append.1 hx with hx | hx
   ·exact h2 x hx
   ·rw [List.mem_singleton] at hx; subst hx; exact hy
theorem PosU.addR {vs : List Vers} {st : P4} {U l : List P4} (h : PosU vs st U) (hl : ∀ y ∈ l, P4Ok vs y) : ∀ {r : Nat}, r ≤ l.length → PosU vs st (addR U l r)
  | 0, _ => h
  | r + 1, hr => (PosU.addR h hl (r := r) (by omega)).add (by
      rw [show l.getD r (0, 0, 0, 0) = l[r] by simp [List.getD, List.getElem?_eq_getElem (show r < l.length by omega)]]
      exact hl _ (List.getElem_mem _))
theorem PosU.addC {vs : List Vers} {K T : Nat} (G : GameOk vs K T) {st x : P4} {U : List P4} (h : PosU vs st U) (hx : P4Ok vs x) : ∀ {c : Nat}, c ≤ K → PosU vs st (addC vs T U x c)
 | 0, _ => h
 | c + 1, hc => (PosU.addC G h hx (c := c) (by omega)).addR (fun y hy => G.succ_ok hx (by omega) hy) (Nat.le_refl _)
theorem addP_get {U : List P4} {y x : P4} {i : Nat} (h : U[i]? = some x) : (addP U y)[i]? = some x := by
 unfold addP
 split
 ·exact h
 ·rw [List.getElem?_append_left (List.getElem?_eq_some_iff.1 h).1]; exact h
theorem addR_get {U l : List P4} {x : P4} {i : Nat} (h : U[i]? = some x) : ∀ r, (addR U l r)[i]? = some x
 | 0 => h
 | r + 1 => addP_get (addR_get h r)
theorem addC_get {vs : List Vers} {T : Nat} {U : List P4} {x z : P4} {i : Nat} (h : U[i]? = some z) : ∀ c, (addC vs T U x c)[i]? = some z
 | 0 => h
 | c + 1 => addR_get (addC_get h c) _
def Reach (vs : List Vers) (K T : Nat) (st : P4) (U : List P4) (i : Nat) : Prop := PosU vs st U ∧ i ≤ U.length ∧ ∀ j, j < i → ∀ x, U[j]? = some x → ∀ c, c < K → ∀ y ∈ succ4 vs T x c, y ∈ U
theorem Reach.begin {vs : List Vers} {K T : Nat} {st : P4} (h : P4Ok vs st) : Reach vs K T st [st] 0 :=
 ⟨⟨by simp, fun x hx => by rw [List.mem_singleton] at hx; subst hx; exact h, [], rfl⟩, Nat.zero_le _, fun j hj => by omega⟩
theorem Reach.next {vs : List Vers} {K T : Nat} (G : GameOk vs K T) {st x : P4} {U : List P4} {i : Nat} (h : Reach vs K T st U i) (hx : U[i]? = some x) : Reach vs K T st (addC vs T U x K) (i + 1) := by
 obtain ⟨h1, h2, h3⟩ := h
 have hxm := List.mem_of_getElem? hx
 refine ⟨h1.addC G (h1.2.1 x hxm) (Nat.le_refl _), ?_, fun j hj z hz c hc y hy => ?_⟩
 ·have := (List.getElem?_eq_some_iff.1 (addC_get (vs := vs) (T := T) (x := x) hx K)).1
  omega
 ·rcases Nat.lt_or_ge j i with h4 | h4
  ·obtain ⟨z', hz'⟩ : ∃ z', U[j]? = some z' := ⟨_, List.getElem?_eq_getElem (by omega)⟩
   have := addC_get (vs := vs) (T := T) (x := x) hz' K
   rw [hz] at this
   obtain rfl := Option.some.inj this
   exact addC_sub (h3 j h4 z hz' c hc y hy) K
  ·obtain rfl : j = i := by omega
   have := addC_get (vs := vs) (T := T) (x := x) hx K
   rw [hz] at this
   obtain rfl := Option.some.inj this
   exact addC_has hc hy
structure AllU (vs : List Vers) (K T : Nat) (st : P4) (U : List P4) : Prop where
 nodup : U.Nodup
 ok : ∀ x ∈ U, P4Ok vs x
 start : st ∈ U
 closed : ∀ x ∈ U, ∀ c, c < K → ∀ y ∈ succ4 vs T x c, y ∈ U
theorem Reach.all {vs : List Vers} {K T : Nat} {st : P4} {U : List P4} {i : Nat} (h : Reach vs K T st U i) (hi : U.length ≤ i) : AllU vs K T st U := by
 obtain ⟨⟨h1, h2, R, h3⟩, _, h4⟩ := h
 refine ⟨h1, h2, by rw [h3]; simp, fun x hx c hc y hy => ?_⟩
 obtain ⟨j, hj, rfl⟩ := List.getElem_of_mem hx
 exact h4 j (by omega) _ (List.getElem?_eq_getElem hj) c hc y hy
def kP (p : P4) : List Int := [p.1, p.2.1, p.2.2.1, p.2.2.2, 0]
def eP (es : List (P4 × Nat)) : List (List Int × Int) := es.map fun q => (kP q.1, ((q.2 : Nat) : Int))
def lookP (es : List (P4 × Nat)) (p : P4) : Option Nat := (es.find? fun q => decide (q.1 = p)).map (·.2)
theorem kP_inj {p q : P4} (h : kP p = kP q) : p = q := by
 obtain ⟨a, b, c, d⟩ := p
 obtain ⟨a', b', c', d'⟩ := q
 unfold kP at h
 simp only [List.cons.injEq, and_true] at h
 obtain ⟨h0, h1, h2, h3⟩ := h
 rw [h0, h1, h2, h3]
theorem eP_look (p : P4) : ∀ es : List (P4 × Nat), lookI (eP es) (kP p) = (lookP es p).map fun n => ((n : Nat) : Int)
 | [] => rfl
 | q :: es => by
  have ih := eP_look p es
  unfold lookI lookP eP at ih ⊢
  rw [List.map_cons, List.find?_cons, List.find?_cons]
  by_cases e : q.1 = p
  ·simp [e]
  ·have e' : ¬ kP q.1 = kP p := fun h => e (kP_inj h)
   simp only [decide_eq_false e, decide_eq_false e']
   exact ih
theorem lookP_none {es : List (P4 × Nat)} {p : P4} : lookP es p = none ↔ ∀ q ∈ es, q.1 ≠ p := by
 unfold lookP
 rw [Option.map_eq_none_iff, List.find?_eq_none]
 simp
theorem eP_new {es : List (P4 × Nat)} {p : P4} (h : lookP es p = none) : ∀ q ∈ eP es, q.1 ≠ kP p := fun q hq e => by
 obtain ⟨r, hr, rfl⟩ := List.mem_map.1 hq
 exact lookP_none.1 h r hr (kP_inj e)
theorem eP_snoc (es : List (P4 × Nat)) (p : P4) (n : Nat) : eP (es ++ [(p, n)]) = eP es ++ [(kP p, (n : Int))] := by unfold eP; rw [List.map_append]; rfl
theorem lookP_append (es fs : List (P4 × Nat)) (p : P4) : lookP (es ++ fs) p = match lookP es p with
  | some n => some n
  | none => lookP fs p := by
 unfold lookP
 rw [List.find?_append]
 cases es.find? fun q => decide (q.1 = p) <;> rfl
theorem lookP_mem {es : List (P4 × Nat)} {p : P4} {n : Nat} (hn : (es.map (·.1)).Nodup) (h : (p, n) ∈ es) : lookP es p = some n := by
 induction es with
 | nil => cases h
 | cons q es ih =>
  rw [List.map_cons, List.nodup_cons] at hn
  unfold lookP at ih ⊢
  rw [List.find?_cons]
  by_cases e : q.1 = p
  ·rcases List.mem_cons.1 h with h | h
   ·subst h; simp
   ·exact absurd (List.mem_map.2 ⟨_, h, e.symm⟩) hn.1
  ·simp only [decide_eq_false e]
   rcases List.mem_cons.1 h with h | h
   ·subst h; exact absurd rfl e
   ·exact ih hn.2 h
def iniE (sb : P4 → Bool) (U : List P4) (r : Nat) : List (P4 × Nat) := ((U.take r).filter sb).map fun p => (p, 0)
def fndF (succ : P4 → Nat → List P4) (K : Nat) (N : List (P4 × Nat)) (p : P4) : Option (P4 × Nat) := match lookP N p with
 | some _ => none
 | none => (bestC (lookP N) succ p K).map fun b => (p, b.2)
def fndE (succ : P4 → Nat → List P4) (K : Nat) (N : List (P4 × Nat)) (U : List P4) (r : Nat) : List (P4 × Nat) := (U.take r).filterMap (fndF succ K N)
theorem take_snocP {α : Type} {U : List α} {r : Nat} {x : α} (h : U[r]? = some x) : U.take (r + 1) = U.take r ++ [x] := by
 rw [List.take_add_one, h]
 rfl
theorem iniE_snoc {sb : P4 → Bool} {U : List P4} {r : Nat} {x : P4} (h : U[r]? = some x) : iniE sb U (r + 1) = if sb x = true then iniE sb U r ++ [(x, 0)] else iniE sb U r := by
 unfold iniE
 rw [take_snocP h, List.filter_append, List.filter_cons, List.filter_nil]
 by_cases hs : sb x = true
 ·rw [if_pos hs, if_pos hs, List.map_append]; rfl
 ·rw [if_neg hs, if_neg hs, List.append_nil]
theorem fndE_snoc {succ : P4 → Nat → List P4} {K : Nat} {N : List (P4 × Nat)} {U : List P4} {r : Nat} {x : P4} (h : U[r]? = some x) : fndE succ K N U (r + 1) = match fndF succ K N x with
  | some q => fndE succ K N U r ++ [q]
  | none => fndE succ K N U r := by
 unfold fndE
 rw [take_snocP h, List.filterMap_append]
 cases hf : fndF succ K N x with
 | none => simp [hf]
 | some q => simp [hf]
theorem nodup_take {U : List P4} (h : U.Nodup) {r : Nat} {x : P4} (hx : U[r]? = some x) : x ∉ U.take r := fun hm => by
 obtain ⟨j, hj, e⟩ := List.getElem_of_mem hm
 rw [List.length_take] at hj
 rw [List.getElem_take] at e
 have h1 : U[j]? = some x := by rw [← e]; exact List.getElem?_eq_getElem (by omega)
 have := nodup_inj h h1 hx
 omega
theorem iniE_new {sb : P4 → Bool} {U : List P4} (h : U.Nodup) {r : Nat} {x : P4} (hx : U[r]? = some x) : lookP (iniE sb U r) x = none := lookP_none.2 fun q hq e => by
 unfold iniE at hq
 obtain ⟨p, hp, rfl⟩ := List.mem_map.1 hq
 have h1 := (List.mem_filter.1 hp).1
 have e : p = x := e
 rw [e] at h1
 exact nodup_take h hx h1
theorem fndF_fst {succ : P4 → Nat → List P4} {K : Nat} {N : List (P4 × Nat)} {p : P4} {q : P4 × Nat} (h : fndF succ K N p = some q) : q.1 = p ∧ lookP N p = none ∧ ∃ c, bestC (lookP N) succ p K = some (c, q.2) := by
 unfold fndF at h
 cases hl : lookP N p with
 | some n => rw [hl] at h; cases h
 | none =>
  rw [hl] at h
  cases hb : bestC (lookP N) succ p K with
  | none => rw [hb] at h; cases h
  | some b =>
   rw [hb] at h
   obtain rfl := Option.some.inj h
   exact ⟨rfl, rfl, b.1, rfl⟩
theorem fndE_new {succ : P4 → Nat → List P4} {K : Nat} {N : List (P4 × Nat)} {U : List P4} (h : U.Nodup) {r : Nat} {x : P4} (hx : U[r]? = some x) : lookP (fndE succ K N U r) x = none := lookP_none.2 fun q hq e => by
 unfold fndE at hq
 obtain ⟨p, hp, hf⟩ := List.mem_filterMap.1 hq
 obtain ⟨h1, _, _⟩ := fndF_fst hf
 rw [← h1, e] at hp
 exact nodup_take h hx hp
theorem fndE_keys {succ : P4 → Nat → List P4} {K : Nat} {N : List (P4 × Nat)} {U : List P4} (h : U.Nodup) (r : Nat) : ((fndE succ K N U r).map (·.1)).Nodup := by
 induction r with
 | zero => unfold fndE; simp
 | succ r ih =>
  cases hx : U[r]? with
  | none =>
   have : U.take (r + 1) = U.take r := by rw [List.take_add_one, hx]; simp
   unfold fndE at ih ⊢
   rw [this]; exact ih
  | some x =>
   rw [fndE_snoc hx]
   cases hf : fndF succ K N x with
   | none => exact ih
   | some q =>
    show ((fndE succ K N U r ++ [q]).map (·.1)).Nodup
    rw [List.map_append, List.nodup_append]
    refine ⟨ih, by simp, fun a ha b hb e => ?_⟩
    obtain ⟨z, hz, rfl⟩ := List.mem_map.1 ha
    simp only [List.map_cons, List.map_nil, List.mem_singleton] at hb
    rw [hb, (fndF_fst hf).1] at e
    exact lookP_none.1 (fndE_new h hx) z hz e
theorem fndE_look {succ : P4 → Nat → List P4} {K : Nat} {N : List (P4 × Nat)} {U : List P4} (h : U.Nodup) {x : P4} (hx : x ∈ U) (hN : lookP N x = none) : lookP (fndE succ K N U U.length) x = (bestC (lookP N) succ x K).map (·.2) := by
 cases hb : bestC (lookP N) succ x K with
 | none =>
  refine lookP_none.2 fun q hq e => ?_
  obtain ⟨p, _, hf⟩ := List.mem_filterMap.1 hq
  obtain ⟨h1, _, c, h2⟩ := fndF_fst hf
  rw [← h1, e, hb] at h2
  cases h2
 | some b =>
  refine lookP_mem (fndE_keys h _) (List.mem_filterMap.2 ⟨x, by rw [List.take_length]; exact hx, ?_⟩)
  unfold fndF
  rw [hN, hb]
  rfl
theorem iniE_look {sb : P4 → Bool} {U : List P4} {x : P4} (hx : x ∈ U) : lookP (iniE sb U U.length) x = if sb x = true then some 0 else none := by
 unfold iniE
 rw [List.take_length]
 by_cases hs : sb x = true
 ·rw [if_pos hs]
  cases hl : lookP ((U.filter sb).map fun p => (p, 0)) x with
  | none => exact absurd rfl (lookP_none.1 hl (x, 0) (List.mem_map.2 ⟨x, List.mem_filter.2 ⟨hx, hs⟩, rfl⟩))
  | some n =>
   unfold lookP at hl
   obtain ⟨q, hq, rfl⟩ := Option.map_eq_some_iff.1 hl
   obtain ⟨p, _, rfl⟩ := List.mem_map.1 (List.mem_of_find?_eq_some hq)
   rfl
 ·rw [if_neg hs]
  refine lookP_none.2 fun q hq e => ?_
  obtain ⟨p, hp, rfl⟩ := List.mem_map.1 hq
  have e : p = x := e
  rw [← e] at hs
  exact hs (List.mem_filter.1 hp).2
section
variable {vs : List Vers} {K T : Nat} {st : P4} {U : List P4}
structure SolveI (vs : List Vers) (K T : Nat) (U : List P4) (N : List (P4 × Nat)) (more : Bool) : Prop where
 knows : ∃ r, Knows (base4 vs K) (succ4 vs T) K U (lookP N) r
 keys : (N.map (·.1)).Nodup
 sub : ∀ q ∈ N, q.1 ∈ U
 stop : more = false → ∀ x ∈ U, lookP N x = none → bestC (lookP N) (succ4 vs T) x K = none
theorem SolveI.few {N : List (P4 × Nat)} {more : Bool} (h : SolveI vs K T U N more) : N.length ≤ U.length := by
 have := nodup_length h.keys (U := U) fun x hx => by
  obtain ⟨q, hq, rfl⟩ := List.mem_map.1 hx
  exact h.sub q hq
 rwa [List.length_map] at this
theorem SolveI.begin (hU : AllU vs K T st U) {sb : P4 → Bool} (hsb : ∀ x ∈ U, (sb x = true ↔ base4 vs K x)) : SolveI vs K T U (iniE sb U U.length) true := by
 refine ⟨⟨0, fun x hx n => ?_⟩, ?_, fun q hq => ?_, fun h => by cases h⟩
 ·rw [iniE_look hx]
  by_cases hs : sb x = true
  ·rw [if_pos hs]
   have hb := (hsb x hx).1 hs
   constructor
   ·intro e
    obtain rfl := Option.some.inj e
    exact ⟨Val.zero.2 hb, Nat.le_refl _⟩
   ·rintro ⟨_, h⟩
    obtain rfl : n = 0 := by omega
    rfl
  ·rw [if_neg hs]
   constructor
   ·intro e; cases e
   ·rintro ⟨hV, h⟩
    obtain rfl : n = 0 := by omega
    exact absurd ((hsb x hx).2 (Val.zero.1 hV)) hs
 ·unfold iniE
  rw [List.map_map]
  have e : ((fun q : P4 × Nat => q.1) ∘ fun p : P4 => (p, 0)) = id := rfl
  rw [e, List.map_id, List.take_length]
  exact hU.nodup.filter _
 ·unfold iniE at hq
  obtain ⟨p, hp, rfl⟩ := List.mem_map.1 hq
  exact List.mem_of_mem_take (List.mem_filter.1 hp).1
theorem SolveI.step (G : GameOk vs K T) (hU : AllU vs K T st U) {N : List (P4 × Nat)} {more : Bool} (h : SolveI vs K T U N more) : SolveI vs K T U (N ++ fndE (succ4 vs T) K N U U.length) (decide (fndE (succ4 vs T) K N U U.length ≠ [])) := by
 obtain ⟨⟨r, hr⟩, h2, h3, h4⟩ := h
 have hsub : ∀ q ∈ fndE (succ4 vs T) K N U U.length, q.1 ∈ U ∧ lookP N q.1 = none := fun q hq => by
  obtain ⟨p, hp, hf⟩ := List.mem_filterMap.1 hq
  obtain ⟨e, e2, _⟩ := fndF_fst hf
  rw [e]
  exact ⟨List.mem_of_mem_take hp, e2⟩
 refine ⟨⟨r + 1, hr.step hU.closed (fun x hx hb c hc => G.ne' (hU.ok x hx) hb hc) (fun x hx n e => by rw [lookP_append, e]) (fun x hx e => by rw [lookP_append, e]; exact fndE_look hU.nodup hx e)⟩, ?_, fun q hq => ?_, fun hm x hx e => ?_⟩
 ·rw [List.map_append, List.nodup_append]
  refine ⟨h2, fndE_keys hU.nodup _, fun a ha b hb e => ?_⟩
  obtain ⟨p, hp, rfl⟩ := List.mem_map.1 ha
  obtain ⟨q, hq, rfl⟩ := List.mem_map.1 hb
  exact lookP_none.1 (hsub q hq).2 p hp e
 ·rcases List.mem_append.1 hq with hq | hq
  ·exact h3 q hq
  ·exact (hsub q hq).1
 ·have hnil : fndE (succ4 vs T) K N U U.length = [] := by
   have := of_decide_eq_false hm
   exact Classical.byContradiction this
  rw [hnil, List.append_nil] at e ⊢
  have h5 := fndE_look (succ := succ4 vs T) (K := K) hU.nodup hx e
  rw [hnil] at h5
  cases hb : bestC (lookP N) (succ4 vs T) x K with
  | none => rfl
  | some b => rw [hb] at h5; cases h5
theorem SolveI.done (G : GameOk vs K T) (hU : AllU vs K T st U) {N : List (P4 × Nat)} (h : SolveI vs K T U N false) : ∀ x ∈ U, ∀ n, lookP N x = some n ↔ Val (base4 vs K) (succ4 vs T) K x n := fun x hx n => by
 obtain ⟨⟨r, hr⟩, _, _, h4⟩ := h
 exact hr.all hU.closed (fun x hx hb c hc => G.ne' (hU.ok x hx) hb hc) (h4 rfl) hx
theorem SolveI.ask (G : GameOk vs K T) (hU : AllU vs K T st U) {N : List (P4 × Nat)} (h : SolveI vs K T U N false) (hb : ¬ base4 vs K st) :
  (lookP N st = none ∧ AskR vs K T st none) ∨ ∃ c n, lookP N st = some n ∧ bestC (lookP N) (succ4 vs T) st K = some (c, n) ∧ AskR vs K T st (some (some (c, n))) := by
 have hd := h.done G hU
 cases hN : lookP N st with
 | none =>
  refine .inl ⟨rfl, .none fun n hw => ?_⟩
  obtain ⟨m, _, hV⟩ := Val.least hw
  rw [(hd st hU.start m).2 hV] at hN
  cases hN
 | some n =>
  have hV := (hd st hU.start n).1 hN
  obtain ⟨c, h1, h2, h3, _, _, h6⟩ := best_val hU.closed (fun x hx hb c hc => G.ne' (hU.ok x hx) hb hc) hd hU.start hV hb
  refine .inr ⟨c, n, rfl, h1, .best ⟨hV, hb, h2, h3, fun d hd h => ?_⟩⟩
  have := (h6 d (by omega) n h).2 hd
  omega
end
def chs (N : P4 → Option Nat) (succ : P4 → Nat → List P4) (x : P4) (c : Nat) : List (Nat × Nat) := (List.range c).filterMap fun c => (needC N (succ x c) 0).map fun k => (c, k)
def bstS (o : Option (Nat × Nat)) (x : Nat × Nat) : Option (Nat × Nat) := match o with
 | none => some x
 | some b => if x.2 < b.2 then some x else some b
def bstL (l : List (Nat × Nat)) : Option (Nat × Nat) := l.foldl bstS none
theorem bstL_snoc (l : List (Nat × Nat)) (x : Nat × Nat) : bstL (l ++ [x]) = bstS (bstL l) x := by unfold bstL; rw [List.foldl_append]; rfl
theorem chs_succ (N : P4 → Option Nat) (succ : P4 → Nat → List P4) (x : P4) (c : Nat) : chs N succ x (c + 1) = match needC N (succ x c) 0 with
  | some k => chs N succ x c ++ [(c, k)]
  | none => chs N succ x c := by
 unfold chs
 rw [List.range_succ, List.filterMap_append]
 cases h : needC N (succ x c) 0 <;> simp [h]
theorem bstL_chs (N : P4 → Option Nat) (succ : P4 → Nat → List P4) (x : P4) : ∀ K : Nat, bstL (chs N succ x K) = bestC N succ x K
 | 0 => rfl
 | K + 1 => by
  have ih := bstL_chs N succ x K
  rw [chs_succ]
  show _ = (match needC N (succ x K) 0, bestC N succ x K with
   | none, b => b
   | some k, none => some (K, k)
   | some k, some b => if k < b.2 then some (K, k) else some b)
  cases needC N (succ x K) 0 with
  | none => exact ih
  | some k =>
   show bstL (chs N succ x K ++ [(K, k)]) = _
   rw [bstL_snoc, ih]
   cases bestC N succ x K <;> rfl
theorem copy_new {N F : List (P4 × Nat)} (h1 : ((N ++ F).map (·.1)).Nodup) : copyTo (kE (eP N)) (kE (eP F)) = kE (eP (N ++ F)) := by
 have key : ∀ (F N : List (P4 × Nat)), ((N ++ F).map (·.1)).Nodup → copyTo (kE (eP N)) (kE (eP F)) = kE (eP (N ++ F)) := fun F => by
  induction F with
  | nil =>
   intro N _
   rw [List.append_nil]
   rfl
  | cons q F ih =>
   intro N hn
   have hq : lookP N q.1 = none := lookP_none.2 fun p hp e => by
    rw [List.map_append, List.nodup_append] at hn
    exact hn.2.2 p.1 (List.mem_map.2 ⟨p, hp, rfl⟩) q.1 (by simp) e
   have e1 : mset (kE (eP N)) (intV (kP q.1)) (n' ((q.2 : Nat) : Int)) = kE (eP (N ++ [q])) := by
    rw [mset_ints (eP_new hq), ← eP_snoc]
   show copyTo (mset (kE (eP N)) (intV (kP q.1)) (n' ((q.2 : Nat) : Int))) (kE (eP F)) = _
   rw [e1, ih (N ++ [q]) (by rw [List.append_assoc]; exact hn), List.append_assoc]
   rfl
 exact key F N h1
end Go.Vm

namespace Go.Vm
open Go.Proofs Go.RowKit
inductive Lend (id N : Nat) (cells : List AV) : List AV → List AV → Prop
 | nil : Lend id N cells [] []
 | same {a : AV} {l l' : List AV} (h : a.under 0) (t : Lend id N cells l l') : Lend id N cells (a :: l) (a :: l')
 | this {l l' : List AV} (t : Lend id N cells l l') : Lend id N cells (.hsl id 0 N N :: l) (.sl N cells .unk :: l')
open Classical in
@[reducible] noncomputable def lendO (O : Outer) (H : List Blk) (ι : Nat → Option (Nat × Nat)) (id N : Nat) : Outer :=
 ⟨fun b => if ∃ wm, ι id = some (b, wm) then some (some N) else (hideO O H ι 0).out b⟩
theorem ACall.borrow {P : Program} {f : FuncId} {args args' cells : List AV} {x : Value} {id N : Nat} {bt : TypeId} {H : List Blk} (h : ACall P f args' [] (.ret (.lit x)) []) (hid : H[id]? = some (.box cells bt)) (hcl : AV.unders 0 cells) (hlen : cells.length = N) (hl : Lend id N cells args args') :
  ACall P f args H (.ret (.lit x)) H := by
 intro O ι w cs hR hargs
 have hR1 : @Rel O ⟨H, ι, w⟩ := hR
 have atB : ∀ {b wm : Nat}, ι id = some (b, wm) → (lendO O H ι id N).out b = some (some N) := fun {b wm} e => by
  exact if_pos ⟨wm, e⟩
 have notB : ∀ {b : Nat}, (¬ ∃ wm, ι id = some (b, wm)) → (lendO O H ι id N).out b = (hideO O H ι 0).out b := fun {b} e => by
  exact if_neg e
 have nohide : ∀ {b : Nat} {y : Option Nat}, O.out b = some y → (lendO O H ι id N).out b = some y := fun {b y} e => by
  have hno := (hR1.out b y e).2
  rw [notB (fun ⟨wm, hi⟩ => hno id wm hi), hideO_other fun i wm _ hi => hno i wm hi]
  exact e
 have named : ∀ {i b wm : Nat}, ι i = some (b, wm) → ∃ y, (lendO O H ι id N).out b = some y := fun {i b wm} e => by
  by_cases hb : ∃ wm, ι id = some (b, wm)
  ·obtain ⟨wm', e'⟩ := hb
   exact ⟨_, atB e'⟩
  ·rw [notB hb]
   exact ⟨_, hideO_named hR1.inj (Nat.zero_le i) e⟩
 have p0 : Pass O (lendO O H ι id N) H [] ι (fun _ => none) w 0 := by
  refine ⟨fun i hlt => by omega, fun i hlt => by omega, fun b lim hF => ?_⟩
  obtain ⟨C, t, f, a, hl, r, ro⟩ := hF
  refine ⟨C, t, f, a, hl, fun i wm e => (by cases e), fun y e => ?_⟩
  by_cases hb : ∃ wm, ι id = some (b, wm)
  ·obtain ⟨wm, hi⟩ := hb
   obtain ⟨⟨g, hg⟩, _⟩ := r id wm hi
   have hg' : H[id]? = some (.row g) := hg
   rw [hid] at hg'
   cases hg'
  ·rw [notB hb] at e
   by_cases hx : ∃ i wm, ι i = some (b, wm)
   ·obtain ⟨i, wm, hi⟩ := hx
    rw [hideO_named hR1.inj (Nat.zero_le i) hi] at e
    obtain ⟨⟨g, hg⟩, hlw⟩ := r i wm hi
    have hg' : H[i]? = some (.row g) := hg
    rw [hg'] at e
    cases e
    exact ⟨wm, rfl, hlw⟩
   ·rw [hideO_other fun i wm _ hi => hx ⟨i, wm, hi⟩] at e
    exact ro y e
 have hR0 : @Rel (lendO O H ι id N) ⟨[], fun _ => none, w⟩ := by
  refine @Rel.mk (lendO O H ι id N) _ (fun i b wm e => by cases e) (fun i j b wm wm' ei _ => by cases ei) (fun b y e => ⟨?_, fun i wm e => by cases e⟩)
  by_cases hb : ∃ wm, ι id = some (b, wm)
  ·obtain ⟨wm, hi⟩ := hb
   exact hR1.block hi
  ·by_cases hx : ∃ i wm, ι i = some (b, wm)
   ·obtain ⟨i, wm, hi⟩ := hx
    exact hR1.block hi
   ·rw [notB hb, hideO_other fun i wm _ hi => hx ⟨i, wm, hi⟩] at e
    exact (hR1.out b y e).1
 have hargs0 : ∀ {l l' : List AV}, Lend id N cells l l' → ∀ {cs : List Value}, @VRels O ⟨H, ι, w⟩ l cs → @VRels (lendO O H ι id N) ⟨[], fun _ => none, w⟩ l' cs := fun {l l'} hl => by
  induction hl with
  | nil => intro cs x; cases cs with
   | nil => simp [VRels]
   | cons c cs => simp [VRels] at x
  | same ha _ ih =>
   intro cs x
   cases cs with
   | nil => simp [VRels] at x
   | cons c cs =>
    simp only [VRels] at x ⊢
    exact ⟨VRel.pass p0 _ _ ha x.1, ih x.2⟩
  | this _ ih =>
   intro cs x
   cases cs with
   | nil => simp [VRels] at x
   | cons c cs =>
    simp only [VRels] at x ⊢
    refine ⟨?_, ih x.2⟩
    have x1 := x.1
    simp only [VRel] at x1 ⊢
    obtain ⟨b, wm, hi, _, hc⟩ := x1
    obtain ⟨B, hB, hrel⟩ := hR1.blk id b wm hi
    have hB' : H[id]? = some B := hB
    rw [hid] at hB'; cases hB'
    obtain ⟨C, hC, hcells⟩ := hrel
    have hn := hcells.length
    refine ⟨_, N, hc, Nat.le_refl _, .inr ⟨b, 0, rfl, ⟨C, bt, (0, 0), hC, by simp at hn; omega, fun i wm' e => (by cases e), fun y e => ?_⟩, @VRow.of_cells (lendO O H ι id N) ⟨[], fun _ => none, w⟩ b C bt (0, 0) hC _ _ _ (fun j hj => by rw [Nat.zero_add, Array.getElem?_toList]) (VRels.pass p0 _ _ hcl hcells)⟩, trivial⟩
    rw [show (lendO O H ι id N).out b = some (some N) from atB hi] at e
    cases e
    exact ⟨N, rfl, by omega⟩
 have hcall := h (lendO O H ι id N) (fun _ => none) w cs hR0 (hargs0 hl hargs)
 refine hcall.mono ?_
 rintro e w' ⟨ι', hend, hR', hev, hnon⟩
 have hsame : ∀ {i b wm : Nat}, ι i = some (b, wm) → w'.heap[b]? = w.heap[b]? := fun hi => by
  obtain ⟨y, hy⟩ := named hi
  exact @Ev.out (lendO O H ι id N) _ _ hev _ _ hy
 have hrest : Rest w w' := @Ev.rest (lendO O H ι id N) _ _ hev
 have hev' : @Ev O ⟨H, ι, w⟩ ⟨H, ι, w'⟩ := by
  refine @Ev.mk O _ _ (fun i hn => ⟨hn, fun b wm e => ⟨wm, e⟩⟩) (fun b lim hF => ?_) (fun i g0 hg => ⟨g0, hg, Nat.le_refl _, fun _ => ⟨rfl, fun b wm C t hi hC => ⟨C, t, (hsame hi).trans hC, rfl⟩⟩⟩)
   (fun i g0 c0 hg => ⟨_, g0, hg, rfl, Nat.le_refl _, fun _ => ⟨⟨c0, rfl⟩, rfl, fun b wm C t hi hC => ⟨C, t, (hsame hi).trans hC, rfl⟩⟩⟩) (fun b y e => @Ev.out (lendO O H ι id N) _ _ hev b y (nohide e)) hrest
  obtain ⟨k1, k2⟩ := @Ev.fix (lendO O H ι id N) _ _ hev b lim (p0.fix b lim hF)
  obtain ⟨_, _, _, _, _, r, ro⟩ := hF
  obtain ⟨C, t, f, hC, hl, _, _⟩ := k1
  exact ⟨⟨C, t, f, hC, hl, r, ro⟩, k2⟩
 refine ⟨ι, ?_, ?_, hev', fun i _ e => e⟩
 ·cases e <;> exact hend
 ·refine @Rel.mk O _ (fun i b wm e => ?_) hR1.inj (fun b y e => ⟨(@Rel.out (lendO O H ι id N) _ hR' b y (nohide e)).1, (hR1.out b y e).2⟩)
  obtain ⟨B, hB, hr⟩ := hR1.blk i b wm e
  exact ⟨B, hB, hr.ev hev' (hsame e)⟩
theorem CallG.borrow {P : Program} {f : FuncId} {args : List AV} {t : Trie Blk} {n : Nat} {K Kp : AV → Trie Blk → Nat → Nat → Prop} (x : Value) {args' cells : List AV} {id N : Nat} {bt : TypeId} (hg : get t id = some (.box cells bt)) (hcl : AV.unders 0 cells) (hlen : cells.length = N) (hl : Lend id N cells args args')
  (h : ∀ H, ACall P f args' H (.ret (.lit x)) H) (k : K (.lit x) t n noLo) : CallG P f args t n K Kp :=
 .at _ (fun _ hH => (h []).borrow (hH.blk _ _ hg) hcl hlen hl) k
end Go.Vm

namespace Go.Vm
open Go.Proofs
variable {P : Program} {ro : Option Nat} {k : Nat} {vars : Trie AV} {t : Trie Blk} {n lo : Nat} {d : List Nat} {Q : CodeQ}
theorem WR.of {m : Bool} {c : Code} (hm : P.follows .mixedOrders = true) (h : gCode P m k ro c vars t n d lo Q) : WR P ro c k vars t n d lo Q := gCode_spec hm c _ _ _ _ _ _ h
theorem WR.seq {a b : Code} (h : WR P ro a k vars t n d lo fun x e lo' => match x with
  | .normal => WR P ro b k e.vars e.t e.n e.defs lo' Q
  | x => Q x e lo') : WR P ro (.seq a b) k vars t n d lo Q := fun H H0 hH hk => by
 obtain ⟨x, ⟨vars1, t1, n1, d1⟩, lo1, H1, hH1, hk1, r1, q⟩ := h H H0 hH hk
 cases x with
 | normal =>
  obtain ⟨x, e2, lo2, H2, hH2, hk2, r2, q2⟩ := q H1 H0 hH1 hk1
  exact ⟨x, e2, lo2, H2, hH2, hk2, .seq r1 r2, q2⟩
 | _ => exact ⟨_, ⟨vars1, t1, n1, d1⟩, lo1, H1, hH1, hk1, .seq_out r1 rfl, q⟩
theorem WR.block {i : Nat} {c : Code} (h : WR P ro c k vars t n d lo fun x e lo' => match x with
  | .exit j => bif Nat.beq i j then Q .normal e lo' else Q (.exit j) e lo'
  | x => Q x e lo') : WR P ro (.block i c) k vars t n d lo Q := fun H H0 hH hk => by
 obtain ⟨x, e, lo1, H1, hH1, hk1, r1, q⟩ := h H H0 hH hk
 cases x with
 | normal => exact ⟨.normal, e, lo1, H1, hH1, hk1, .block r1 (.inl rfl), q⟩
 | exit j =>
  simp only at q
  cases hb : Nat.beq i j with
  | true =>
   rw [hb, cond_true] at q
   have := Nat.eq_of_beq_eq_true hb
   subst this
   exact ⟨.normal, e, lo1, H1, hH1, hk1, .block r1 (.inr rfl), q⟩
  | false =>
   rw [hb, cond_false] at q
   refine ⟨.exit j, e, lo1, H1, hH1, hk1, .block_out r1 ?_, q⟩
   have : j ≠ i := by rintro rfl; rw [Nat.beq_refl] at hb; cases hb
   simp [AExit.passes, this]
 | ret => exact ⟨.ret, e, lo1, H1, hH1, hk1, .block_out r1 rfl, q⟩
 | pan v => exact ⟨.pan v, e, lo1, H1, hH1, hk1, .block_out r1 rfl, q⟩
theorem WR.loop {c : Code} (h : WI P ro c k vars t n d lo Q) : WR P ro (.loop c) k vars t n d lo Q := fun H H0 hH hk => by
 obtain ⟨x, e, lo', H', a, b, r, q⟩ := h H H0 hH hk
 exact ⟨x, e, lo', H', a, b, .loop r, q⟩
theorem loop_w {c : Code} {α : Type} (S : α → List (Nat × AV)) (T : α → List (Nat × Blk)) (μ : α → Nat) (L : Nat) (a0 : α) (hlo : L ≤ lo) (hv : Slots (get vars) t noLo (S a0)) (ht : Blks (get t) noLo (T a0))
  (body : ∀ a, WR P ro c k (ofL (S a)) (ofL (T a)) n d noLo (RoundR S T μ L n d Q a)) : WI P ro c k vars t n d lo Q := by
 have key : ∀ j a, μ a = j → ∀ H H0, HT (ofL (T a)) n H → Keep H0 H L → ∃ x e lo' H', HT e.t e.n H' ∧ Keep H0 H' lo' ∧ InL P ro c ⟨k, ofL (S a), H, d⟩ x ⟨k, e.vars, H', e.defs⟩ ∧ Q x e lo' := by
  intro j
  induction j using Nat.strongRecOn with
  | _ j ih =>
  intro a hj H H0 hH hk
  obtain ⟨x, e, lo', H1, hH1, hk1, hrun, hq⟩ := body a H H hH (Keep.refl _ _)
  cases x with
  | normal =>
   obtain ⟨hL, hd, a', hμ, hS, hT, hB⟩ := hq
   have hlen := hH.len
   rw [hd] at hrun
   have hchg : ∀ id, id < H.length → H1[id]? = H[id]? ∨ ∃ B, H1[id]? = some B ∧ B.under H.length := by
    intro id hlt
    rcases Nat.lt_or_ge id lo' with h | h
    ·exact .inl (hk1.low id h hlt)
    ·obtain ⟨B, hB1, hB2⟩ := hB.mem id (by rw [List.mem_range'_1]; omega)
     exact .inr ⟨B, hH1.blk _ _ hB1, by rw [hlen]; exact hB2⟩
   have hback := hrun.back (V2 := ofL (S a')) (fun s v hg => by
    obtain ⟨v1, h1, h2, h3⟩ := hS.mem _ (get_ofL hg)
    exact ⟨v1, h1, h2 _ _ hH1, by rw [hlen]; exact h3⟩) hchg
   have hle := hk1.le
   have hH2 : HT (ofL (T a')) n (H1.take H.length) := by
    refine ⟨by rw [List.length_take]; omega, fun id B hg => ?_⟩
    obtain ⟨h1, h2⟩ := hT.mem _ (get_ofL hg)
    rw [List.getElem?_take_of_lt (by omega)]
    exact hH1.blk _ _ h1
   have hk2 : Keep H (H1.take H.length) L := by
    refine ⟨by rw [List.length_take]; omega, fun id h1 h2 => ?_, fun id hid => ?_⟩
    ·rw [List.getElem?_take_of_lt h2]; exact hk1.low id (by omega) h2
    ·have hlt := (List.getElem?_eq_some_iff.1 hid).1
     rw [List.getElem?_take_of_lt hlt]; exact hk1.marks id hid
   obtain ⟨x, e2, lo2, H2, hH3, hk3, hin, hq2⟩ := ih (μ a') (by omega) a' rfl (H1.take H.length) H0 hH2 (hk.trans hk2 (Nat.le_refl _) (Nat.le_refl _))
   exact ⟨x, e2, lo2, H2, hH3, hk3, .go hback hin, hq2⟩
  | exit i => exact ⟨_, e, L, H1, hH1, hk.trans hk1 (Nat.le_refl _) hq.1, .out hrun rfl, hq.2⟩
  | ret => exact ⟨_, e, L, H1, hH1, hk.trans hk1 (Nat.le_refl _) hq.1, .out hrun rfl, hq.2⟩
  | pan v => exact ⟨_, e, L, H1, hH1, hk.trans hk1 (Nat.le_refl _) hq.1, .out hrun rfl, hq.2⟩
 intro H H0 hH hk
 obtain ⟨x, e, lo', H', h1, h2, h3, h4⟩ := key _ a0 rfl H H0 ⟨hH.len, fun id B hg => hH.blk _ _ (ht.mem _ (get_ofL hg)).1⟩ (hk.mono hlo)
 refine ⟨x, e, lo', H', h1, h2, (h3.fewer fun s v hg => ?_), h4⟩
 obtain ⟨v1, g1, g2, _⟩ := hv.mem _ (get_ofL hg)
 exact ⟨v1, g1, g2 _ _ hH⟩
end Go.Vm
