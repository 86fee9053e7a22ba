/-
  Games of several versions: how many cues are needed; code told in pieces, on which this claim rests; no statement of the program is proved here. Conditions: none.
-/
import Derived.Test.YtdhdaadoehbopaaGreatDoorCo
import Derived.Test.YtdhdaadoehbopaaGreatDoorCt
import Derived.Test.YtdhdaadoehbopaaGreatDoorCf
import Derived.Test.YtdhdaadoehbopaaGreatDoorCh
import Derived.Test.YtdhdaadoehbopaaGreatDoorCr
import Derived.Test.YtdhdaadoehbopaaGreatDoorVc

namespace Go.Vm
section
variable {X : Type} (base : X → Prop) (succ : X → Nat → List X) (K : Nat)
def win : Nat → X → Prop
 | 0, x => base x
 | n + 1, x => base x ∨ ∃ c, c < K ∧ ∀ y ∈ succ x c, win n y
def Val (x : X) (n : Nat) : Prop := win base succ K n x ∧ ∀ m, win base succ K m x → n ≤ m
variable {base succ K}
theorem win_step : ∀ {n : Nat} {x : X}, win base succ K n x → win base succ K (n + 1) x
 | 0, _, h => .inl h
 | n + 1, x, h => by
  rcases h with h | ⟨c, hc, h⟩
  ·exact .inl h
  ·exact .inr ⟨c, hc, fun y hy => win_step (h y hy)⟩
theorem win_mono {n m : Nat} {x : X} (h : win base succ K n x) (hm : n ≤ m) : win base succ K m x := by
 obtain ⟨d, rfl⟩ := Nat.exists_eq_add_of_le hm
 clear hm
 induction d with
 | zero => exact h
 | succ d ih => exact win_step ih
theorem win_base {n : Nat} {x : X} (h : base x) : win base succ K n x := win_mono (n := 0) h (Nat.zero_le n)
theorem Val.unique {x : X} {n m : Nat} (h : Val base succ K x n) (h' : Val base succ K x m) : n = m := Nat.le_antisymm (h.2 m h'.1) (h'.2 n h.1)
theorem Val.least {x : X} : ∀ {n : Nat}, win base succ K n x → ∃ m, m ≤ n ∧ Val base succ K x m := fun {n} => by
 induction n using Nat.strongRecOn with
 | _ n ih =>
 intro h
 by_cases hm : ∃ m, m < n ∧ win base succ K m x
 ·obtain ⟨m, h1, h2⟩ := hm
  obtain ⟨k, k1, k2⟩ := ih m h1 h2
  exact ⟨k, by omega, k2⟩
 ·refine ⟨n, Nat.le_refl n, h, fun m hw => ?_⟩
  rcases Nat.lt_or_ge m n with h1 | h1
  ·exact absurd ⟨m, h1, hw⟩ hm
  ·exact h1
theorem Val.zero {x : X} : Val base succ K x 0 ↔ base x := ⟨fun h => h.1, fun h => ⟨h, fun m _ => Nat.zero_le m⟩⟩
theorem win_bound {U : List X} (hc : ∀ x ∈ U, ∀ c, c < K → ∀ y ∈ succ x c, y ∈ U) {x : X} (hx : x ∈ U) {n : Nat} (h : Val base succ K x n) : n ≤ U.length := by
 classical
 have cnt : ∀ n, (∀ m, m < n → ∃ x ∈ U, win base succ K (m + 1) x ∧ ¬ win base succ K m x) → n ≤ (U.filter fun x => decide (win base succ K n x)).length := fun n => by
  induction n with
  | zero => intro _; exact Nat.zero_le _
  | succ n ih =>
   intro hm
   have h1 := ih fun m hmn => hm m (by omega)
   obtain ⟨z, hz, z1, z2⟩ := hm n (by omega)
   have h2 : (U.filter fun x => decide (win base succ K n x)).length < (U.filter fun x => decide (win base succ K (n + 1) x)).length := by
    have e : (U.filter fun x => decide (win base succ K n x)) = (U.filter fun x => decide (win base succ K (n + 1) x)).filter fun x => decide (win base succ K n x) := by
     rw [List.filter_filter]
     refine List.filter_congr fun y _ => ?_
     by_cases hy : win base succ K n y
     ·simp [hy, win_step hy]
     ·simp [hy]
    rw [e]
    refine List.length_filter_lt_length_iff_exists.2 ⟨z, ?_, by simpa using z2⟩
    rw [List.mem_filter]
    exact ⟨hz, by simpa using z1⟩
   omega
 by_cases hall : ∀ m, m < n → ∃ x ∈ U, win base succ K (m + 1) x ∧ ¬ win base succ K m x
 ·have := cnt n hall
  have h2 := List.length_filter_le (fun x => decide (win base succ K n x)) U
  omega
 ·simp only [Classical.not_forall] at hall
  obtain ⟨m, hm, hno⟩ := hall
  have hst : ∀ x ∈ U, win base succ K (m + 1) x → win base succ K m x := fun x hx hw => Classical.byContradiction fun h' => hno ⟨x, hx, hw, h'⟩
  have all : ∀ d, ∀ x ∈ U, win base succ K (m + d) x → win base succ K m x := fun d => by
   induction d with
   | zero => exact fun x _ h => h
   | succ d ih =>
    intro x hx hw
    refine hst x hx ?_
    rcases hw with hw | ⟨c, hcK, hw⟩
    ·exact .inl hw
    ·exact .inr ⟨c, hcK, fun y hy => ih y (hc x hx c hcK y hy) (hw y hy)⟩
  have := h.2 m (all (n - m) x hx (by rw [show m + (n - m) = n by omega]; exact h.1))
  omega
def needC (N : X → Option Nat) : List X → Nat → Option Nat
 | [], acc => some acc
 | y :: l, acc => match N y with
  | none => none
  | some n => needC N l (max acc (n + 1))
theorem needC_some {N : X → Option Nat} : ∀ {l : List X} {acc k : Nat}, needC N l acc = some k → (∀ y ∈ l, ∃ n, N y = some n ∧ n + 1 ≤ k) ∧ acc ≤ k ∧ (k = acc ∨ ∃ y ∈ l, N y = some (k - 1) ∧ 0 < k)
 | [], acc, k, h => by
  obtain rfl := Option.some.inj h
  exact ⟨fun _ h => (by cases h), Nat.le_refl _, .inl rfl⟩
 | y :: l, acc, k, h => by
  have h : (match N y with | none => none | some n => needC N l (max acc (n + 1))) = some k := h
  cases hy : N y with
  | none => rw [hy] at h; cases h
  | some n =>
   rw [hy] at h
   obtain ⟨h1, h2, h3⟩ := needC_some h
   refine ⟨fun z hz => ?_, by omega, ?_⟩
   ·rcases List.mem_cons.1 hz with rfl | hz
    ·exact ⟨n, hy, by omega⟩
    ·exact h1 z hz
   ·rcases h3 with h3 | ⟨z, hz, h4⟩
    ·rcases Nat.le_total acc (n + 1) with h5 | h5
     ·refine .inr ⟨y, by simp, ?_, by omega⟩
      rw [hy]
      congr 1
      omega
     ·exact .inl (by omega)
    ·exact .inr ⟨z, by simp [hz], h4⟩
theorem needC_none {N : X → Option Nat} : ∀ {l : List X} {acc : Nat}, needC N l acc = none ↔ ∃ y ∈ l, N y = none
 | [], acc => by simp [needC]
 | y :: l, acc => by
  show (match N y with | none => none | some n => needC N l (max acc (n + 1))) = none ↔ _
  cases hy : N y with
  | none => simp [hy]
  | some n =>
   show needC N l (max acc (n + 1)) = none ↔ _
   rw [needC_none]
   simp [hy]
def bestC (N : X → Option Nat) (succ : X → Nat → List X) (x : X) : Nat → Option (Nat × Nat)
 | 0 => none
 | c + 1 => match needC N (succ x c) 0, bestC N succ x c with
  | none, b => b
  | some k, none => some (c, k)
  | some k, some b => if k < b.2 then some (c, k) else some b
theorem bestC_spec {N : X → Option Nat} {x : X} : ∀ {K : Nat}, (∀ c k, bestC N succ x K = some (c, k) → c < K ∧ needC N (succ x c) 0 = some k ∧ ∀ d j, d < K → needC N (succ x d) 0 = some j → k ≤ j ∧ (d < c → k < j)) ∧ (bestC N succ x K = none → ∀ d, d < K → needC N (succ x d) 0 = none)
 | 0 => ⟨(fun c k h => by cases h), (fun _ d hd => by omega)⟩
 | K + 1 => by
  obtain ⟨h1, h2⟩ := bestC_spec (N := N) (x := x) (K := K)
  have e : bestC N succ x (K + 1) = (match needC N (succ x K) 0, bestC N succ x K with
   | none, b => b
   | some k, none => some (K, k)
   | some k, some b => if k < b.2 then some (K, k) else some b) := rfl
  rw [e]
  cases hn : needC N (succ x K) 0 with
  | none =>
   refine ⟨fun c k h => ?_, fun h d hd => ?_⟩
   ·obtain ⟨a1, a2, a3⟩ := h1 c k h
    refine ⟨by omega, a2, fun d j hd hj => ?_⟩
    by_cases hdK : d = K
    ·subst hdK; rw [hn] at hj; cases hj
    ·exact a3 d j (by omega) hj
   ·by_cases hdK : d = K
    ·subst hdK; exact hn
    ·exact h2 h d (by omega)
  | some m =>
   cases hb : bestC N succ x K with
   | none =>
    refine ⟨fun c k h => ?_, fun h => by cases h⟩
    obtain ⟨rfl, rfl⟩ := Prod.mk.inj (Option.some.inj h)
    refine ⟨by omega, hn, fun d j hd hj => ?_⟩
    by_cases hdK : d = K
    ·subst hdK
     rw [hn] at hj
     obtain rfl := Option.some.inj hj
     exact ⟨Nat.le_refl _, fun h => by omega⟩
    ·rw [h2 hb d (by omega)] at hj; cases hj
   | some b =>
    obtain ⟨c0, k0⟩ := b
    obtain ⟨a1, a2, a3⟩ := h1 c0 k0 hb
    refine ⟨fun c k h => ?_, fun h => ?_⟩
    ·have h : (if m < k0 then some (K, m) else some (c0, k0)) = some (c, k) := h
     by_cases hm : m < k0
     ·rw [if_pos hm] at h
      obtain ⟨rfl, rfl⟩ := Prod.mk.inj (Option.some.inj h)
      refine ⟨by omega, hn, fun d j hd hj => ?_⟩
      by_cases hdK : d = K
      ·subst hdK
       rw [hn] at hj
       obtain rfl := Option.some.inj hj
       exact ⟨Nat.le_refl _, fun h => by omega⟩
      ·have := (a3 d j (by omega) hj).1
       exact ⟨by omega, fun _ => by omega⟩
     ·rw [if_neg hm] at h
      obtain ⟨rfl, rfl⟩ := Prod.mk.inj (Option.some.inj h)
      refine ⟨by omega, a2, fun d j hd hj => ?_⟩
      by_cases hdK : d = K
      ·subst hdK
       rw [hn] at hj
       obtain rfl := Option.some.inj hj
       exact ⟨by omega, fun h => by omega⟩
      ·exact a3 d j (by omega) hj
    ·have h : (if m < k0 then some (K, m) else some (c0, k0)) = none := h
     by_cases hm : m < k0
     ·rw [if_pos hm] at h; cases h
     ·rw [if_neg hm] at h; cases h
def Knows (base : X → Prop) (succ : X → Nat → List X) (K : Nat) (U : List X) (N : X → Option Nat) (r : Nat) : Prop := ∀ x ∈ U, ∀ n, N x = some n ↔ Val base succ K x n ∧ n ≤ r
section
variable {U : List X} (hc : ∀ x ∈ U, ∀ c, c < K → ∀ y ∈ succ x c, y ∈ U) (hne : ∀ x ∈ U, ¬ base x → ∀ c, c < K → succ x c ≠ [])
theorem Knows.unk {N : X → Option Nat} {r : Nat} (h : Knows base succ K U N r) {x : X} (hx : x ∈ U) : N x = none ↔ ¬ win base succ K r x := by
 constructor
 ·intro hN hw
  obtain ⟨m, hm, hV⟩ := Val.least hw
  rw [(h x hx m).2 ⟨hV, hm⟩] at hN
  cases hN
 ·intro hw
  cases hN : N x with
  | none => rfl
  | some n =>
   obtain ⟨hV, hn⟩ := (h x hx n).1 hN
   exact absurd (win_mono hV.1 hn) hw
include hc hne in
theorem Knows.next {N : X → Option Nat} {r : Nat} (h : Knows base succ K U N r) {x : X} (hx : x ∈ U) (hN : N x = none) :
  (∀ c k, bestC N succ x K = some (c, k) → k = r + 1 ∧ Val base succ K x (r + 1)) ∧ (bestC N succ x K = none → ¬ win base succ K (r + 1) x) := by
 have hnw := (h.unk hx).1 hN
 have hnb : ¬ base x := fun hb => hnw (win_base hb)
 obtain ⟨h1, h2⟩ := bestC_spec (succ := succ) (N := N) (x := x) (K := K)
 refine ⟨fun c k hb => ?_, fun hb hw => ?_⟩
 ·obtain ⟨a1, a2, _⟩ := h1 c k hb
  obtain ⟨b1, b2, b3⟩ := needC_some a2
  have hk : 0 < k := by
   obtain ⟨y, hy⟩ := List.exists_mem_of_ne_nil _ (hne x hx hnb c a1)
   obtain ⟨n, _, h4⟩ := b1 y hy
   omega
  have hwk : win base succ K k x := by
   obtain ⟨d, rfl⟩ : ∃ d, k = d + 1 := ⟨k - 1, by omega⟩
   refine .inr ⟨c, a1, fun y hy => ?_⟩
   obtain ⟨n, e, h4⟩ := b1 y hy
   exact win_mono ((h y (hc x hx c a1 y hy) n).1 e).1.1 (by omega)
  have hle : k ≤ r + 1 := by
   rcases b3 with b3 | ⟨y, hy, e, _⟩
   ·omega
   ·have := ((h y (hc x hx c a1 y hy) (k - 1)).1 e).2
    omega
  have hge : r < k := by
   rcases Nat.lt_or_ge r k with h5 | h5
   ·exact h5
   ·exact absurd (win_mono hwk h5) hnw
  obtain rfl : k = r + 1 := by omega
  refine ⟨rfl, hwk, fun m hm => ?_⟩
  rcases Nat.lt_or_ge r m with h5 | h5
  ·exact h5
  ·exact absurd (win_mono hm h5) hnw
 ·rcases hw with hw | ⟨c, hcK, hw⟩
  ·exact hnb hw
  ·obtain ⟨y, hy, e⟩ := needC_none.1 (h2 hb c hcK)
   exact (h.unk (hc x hx c hcK y hy)).1 e (hw y hy)
include hc hne in
theorem Knows.step {N N' : X → Option Nat} {r : Nat} (h : Knows base succ K U N r) (h1 : ∀ x ∈ U, ∀ n, N x = some n → N' x = some n) (h2 : ∀ x ∈ U, N x = none → N' x = (bestC N succ x K).map (·.2)) : Knows base succ K U N' (r + 1) := fun x hx n => by
 cases hN : N x with
 | some m =>
  rw [h1 x hx m hN]
  obtain ⟨hV, hm⟩ := (h x hx m).1 hN
  constructor
  ·intro e
   obtain rfl := Option.some.inj e
   exact ⟨hV, by omega⟩
  ·rintro ⟨hV', _⟩
   rw [hV.unique hV']
 | none =>
  rw [h2 x hx hN]
  obtain ⟨a, b⟩ := h.next hc hne hx hN
  cases hb : bestC N succ x K with
  | none =>
   constructor
   ·intro e; cases e
   ·rintro ⟨hV, hn⟩
    exact absurd (win_mono hV.1 hn) (b hb)
  | some p =>
   obtain ⟨c, k⟩ := p
   obtain ⟨rfl, hV⟩ := a c k hb
   constructor
   ·intro e
    obtain rfl := Option.some.inj e
    exact ⟨hV, Nat.le_refl _⟩
   ·rintro ⟨hV', _⟩
    rw [hV'.unique hV]
    rfl
include hc hne in
theorem Knows.all {N : X → Option Nat} {r : Nat} (h : Knows base succ K U N r) (hno : ∀ x ∈ U, N x = none → bestC N succ x K = none) {x : X} (hx : x ∈ U) {n : Nat} : N x = some n ↔ Val base succ K x n := by
 have hst : ∀ x ∈ U, win base succ K (r + 1) x → win base succ K r x := fun x hx hw => by
  apply Classical.byContradiction
  intro hnw
  have hN := (h.unk hx).2 hnw
  exact (h.next hc hne hx hN).2 (hno x hx hN) hw
 have all : ∀ d, ∀ x ∈ U, win base succ K (r + d) x → win base succ K r x := fun d => by
  induction d with
  | zero => exact fun x _ h => h
  | succ d ih =>
   intro x hx hw
   refine hst x hx ?_
   rcases hw with hw | ⟨c, hcK, hw⟩
   ·exact .inl hw
   ·exact .inr ⟨c, hcK, fun y hy => ih y (hc x hx c hcK y hy) (hw y hy)⟩
 rw [h x hx n]
 refine ⟨fun h => h.1, fun hV => ⟨hV, hV.2 r (all n x hx (win_mono hV.1 (by omega)))⟩⟩
include hc hne in
theorem best_val {N : X → Option Nat} (h : ∀ x ∈ U, ∀ n, N x = some n ↔ Val base succ K x n) {x : X} (hx : x ∈ U) {n : Nat} (hV : Val base succ K x n) (hnb : ¬ base x) :
  ∃ c, bestC N succ x K = some (c, n) ∧ c < K ∧ (∀ y ∈ succ x c, ∃ m, Val base succ K y m ∧ m + 1 ≤ n) ∧ (∃ y ∈ succ x c, Val base succ K y (n - 1)) ∧ 0 < n ∧ ∀ d, d < K → ∀ j, (∀ y ∈ succ x d, ∃ m, Val base succ K y m ∧ m + 1 ≤ j) → n ≤ j ∧ (d < c → n < j) := by
 obtain ⟨h1, h2⟩ := bestC_spec (succ := succ) (N := N) (x := x) (K := K)
 have hn0 : 0 < n := by
  rcases Nat.eq_zero_or_pos n with h3 | h3
  ·subst h3; exact absurd (Val.zero.1 hV) hnb
  ·exact h3
 have need : ∀ d, d < K → ∀ j, (∀ y ∈ succ x d, ∃ m, Val base succ K y m ∧ m + 1 ≤ j) → ∃ k, needC N (succ x d) 0 = some k ∧ k ≤ j := fun d hd j hj => by
  cases hk : needC N (succ x d) 0 with
  | none =>
   obtain ⟨y, hy, e⟩ := needC_none.1 hk
   obtain ⟨m, hm, _⟩ := hj y hy
   rw [(h y (hc x hx d hd y hy) m).2 hm] at e
   cases e
  | some k =>
   refine ⟨k, rfl, ?_⟩
   obtain ⟨_, _, b3⟩ := needC_some hk
   rcases b3 with b3 | ⟨y, hy, e, _⟩
   ·omega
   ·obtain ⟨m, hm, hmj⟩ := hj y hy
    have := hm.unique ((h y (hc x hx d hd y hy) (k - 1)).1 e)
    omega
 have good : ∀ d, d < K → ∀ k, needC N (succ x d) 0 = some k → win base succ K k x := fun d hd k hk => by
  obtain ⟨b1, _, _⟩ := needC_some hk
  obtain ⟨y, hy⟩ := List.exists_mem_of_ne_nil _ (hne x hx hnb d hd)
  obtain ⟨_, _, h4⟩ := b1 y hy
  obtain ⟨e, rfl⟩ : ∃ e, k = e + 1 := ⟨k - 1, by omega⟩
  refine .inr ⟨d, hd, fun z hz => ?_⟩
  obtain ⟨m, em, hm⟩ := b1 z hz
  exact win_mono ((h z (hc x hx d hd z hz) m).1 em).1 (by omega)
 have some : ∃ d, d < K ∧ ∀ y ∈ succ x d, ∃ m, Val base succ K y m ∧ m + 1 ≤ n := by
  obtain ⟨e, rfl⟩ : ∃ e, n = e + 1 := ⟨n - 1, by omega⟩
  rcases hV.1 with hb | ⟨d, hd, hw⟩
  ·exact absurd hb hnb
  ·refine ⟨d, hd, fun y hy => ?_⟩
   obtain ⟨m, hm, hv⟩ := Val.least (hw y hy)
   exact ⟨m, hv, by omega⟩
 cases hb : bestC N succ x K with
 | none =>
  obtain ⟨d, hd, hj⟩ := some
  obtain ⟨k, hk, _⟩ := need d hd n hj
  rw [h2 hb d hd] at hk
  cases hk
 | some p =>
  obtain ⟨c, k⟩ := p
  obtain ⟨a1, a2, a3⟩ := h1 c k hb
  have hkn : k = n := by
   obtain ⟨d, hd, hj⟩ := some
   obtain ⟨k', hk', hle⟩ := need d hd n hj
   have := (a3 d k' hd hk').1
   have := hV.2 k (good c a1 k a2)
   omega
  subst hkn
  obtain ⟨b1, _, b3⟩ := needC_some a2
  refine ⟨c, rfl, a1, fun y hy => ?_, ?_, hn0, fun d hd j hj => ?_⟩
  ·obtain ⟨m, em, hm⟩ := b1 y hy
   exact ⟨m, (h y (hc x hx c a1 y hy) m).1 em, hm⟩
  ·rcases b3 with b3 | ⟨y, hy, e, _⟩
   ·omega
   ·exact ⟨y, hy, (h y (hc x hx c a1 y hy) _).1 e⟩
  ·obtain ⟨k', hk', hle⟩ := need d hd j hj
   obtain ⟨c1, c2⟩ := a3 d k' hd hk'
   exact ⟨by omega, fun h => by have := c2 h; omega⟩
end
end
section
variable {X : Type} {base : X → Prop} {succ : X → Nat → List X} {K : Nat}
structure Nums (base : X → Prop) (succ : X → Nat → List X) (K : Nat) (U : List X) (k : X → Nat) : Prop where
 base0 : ∀ x ∈ U, base x → k x = 0
 right : ∀ x ∈ U, k x < 1000 → win base succ K (k x) x
 le : ∀ x ∈ U, k x ≤ 1000
section
variable {U : List X} (hc : ∀ x ∈ U, ∀ c, c < K → ∀ y ∈ succ x c, y ∈ U)
end
end
end Go.Vm

namespace Go.Vm
open Go.Proofs
abbrev P4 := Int × Int × Int × Int
def noM : Bool × Bool × Bool × Bool × Bool × Bool := (false, false, false, false, false, false)
def spI (vs : List Vers) (c t n : Nat) (p : Int) : Int := if 0 ≤ p then (if (mv (vAt vs n) p.toNat c).2 = (t : Int) then (mv (vAt vs n) p.toNat c).1 else -1) else p
def sp4 (vs : List Vers) (c t : Nat) (p : P4) : P4 := (spI vs c t 0 p.1, spI vs c t 1 p.2.1, spI vs c t 2 p.2.2.1, spI vs c t 3 p.2.2.2)
def some4 (p : P4) : Bool := decide (0 ≤ p.1) || (decide (0 ≤ p.2.1) || (decide (0 ≤ p.2.2.1) || decide (0 ≤ p.2.2.2)))
def succ4 (vs : List Vers) (T : Nat) (p : P4) (c : Nat) : List P4 := ((List.range T).map fun t => sp4 vs c t p).filter some4
def base4 (vs : List Vers) (K : Nat) (p : P4) : Prop := doneS vs K (p, noM)
def P4Ok (vs : List Vers) (p : P4) : Prop := PosK vs (p, noM)
def at4 (p : P4) : Nat → Int
 | 0 => p.1
 | 1 => p.2.1
 | 2 => p.2.2.1
 | 3 => p.2.2.2
 | _ => -1
theorem at4_sp4 {vs : List Vers} {c t : Nat} {p : P4} : ∀ {n : Nat}, n < 4 → at4 (sp4 vs c t p) n = spI vs c t n (at4 p n)
 | 0, _ => rfl
 | 1, _ => rfl
 | 2, _ => rfl
 | 3, _ => rfl
 | _ + 4, h => by omega
theorem four {P : Nat → Prop} : (∀ n, n < 4 → P n) ↔ P 0 ∧ P 1 ∧ P 2 ∧ P 3 := by
 constructor
 ·intro h
  exact ⟨h 0 (by omega), h 1 (by omega), h 2 (by omega), h 3 (by omega)⟩
 ·rintro ⟨h0, h1, h2, h3⟩ n hn
  rcases (show n = 0 ∨ n = 1 ∨ n = 2 ∨ n = 3 by omega) with rfl | rfl | rfl | rfl <;> assumption
theorem some4_iff {p : P4} : some4 p = true ↔ ∃ n, n < 4 ∧ 0 ≤ at4 p n := by
 unfold some4
 simp only [Bool.or_eq_true, decide_eq_true_eq]
 constructor
 ·rintro (h | h | h | h)
  ·exact ⟨0, by omega, h⟩
  ·exact ⟨1, by omega, h⟩
  ·exact ⟨2, by omega, h⟩
  ·exact ⟨3, by omega, h⟩
 ·rintro ⟨n, hn, h⟩
  rcases (show n = 0 ∨ n = 1 ∨ n = 2 ∨ n = 3 by omega) with rfl | rfl | rfl | rfl
  ·exact .inl h
  ·exact .inr (.inl h)
  ·exact .inr (.inr (.inl h))
  ·exact .inr (.inr (.inr h))
theorem P4Ok_iff {vs : List Vers} {p : P4} : P4Ok vs p ↔ ∀ n, n < 4 → PosOk vs n (at4 p n) := (four (P := fun n => PosOk vs n (at4 p n))).symm
theorem base4_iff {vs : List Vers} {K : Nat} {p : P4} : base4 vs K p ↔ ∀ a b, a < 4 → b < 4 → 0 ≤ at4 p a → 0 ≤ at4 p b → alS vs K (a, 0) (b, 0) := by
 have e : base4 vs K p ↔ ∀ a b, a < 4 → b < a → pairS vs K false a b (at4 p a) (at4 p b) := six (P := fun a b => pairS vs K false a b (at4 p a) (at4 p b))
 rw [e]
 constructor
 ·intro h a b ha hb pa pb
  rcases Nat.lt_trichotomy a b with h1 | h1 | h1
  ·rcases h b a hb h1 pb pa with h2 | h2
   ·cases h2
   ·exact h2.symm
  ·subst h1; exact alS.refl _
  ·rcases h a b ha h1 pa pb with h2 | h2
   ·cases h2
   ·exact h2
 ·intro h a b ha hb pa pb
  exact .inr (h a b ha (by omega) pa pb)
structure GameOk (vs : List Vers) (K T : Nat) : Prop where
 hv : ∀ v ∈ vs, VersOk v K
 hv0 : ∀ v ∈ vs, 0 < v.length
 hs : ∀ v ∈ vs, v.length ≤ 4
 hn : vs.length ≤ 4
 ht : ∀ n, n < vs.length → ∀ s, s < (vAt vs n).length → ∀ c, c < K → ∃ t, t < T ∧ (mv (vAt vs n) s c).2 = (t : Int)
theorem BOk.game {b : Book} (hB : BOk b) : GameOk b.vs b.cues.toNat b.tunes.toNat := by
 have hvn := hB.1.2.2
 have htu := hB.1.2.1
 unfold inI at hvn htu
 refine ⟨fun v hv => (hB.2 v hv).vers.1, fun v hv => (hB.2 v hv).vers.2, fun v hv => by have := (hB.2 v hv).2; unfold inI at this; omega, by omega, fun n hn s hs c hc => ?_⟩
 have hV := hB.2 _ (vAt_in hn)
 obtain ⟨x, k1, k2, _, _⟩ := mv_at hV.vers.1 hs hc
 have := (hV.1 x (List.mem_of_getElem? k1)).2 _ (List.mem_of_getElem? k2)
 unfold inI at this
 exact ⟨(mv (vAt b.vs n) s c).2.toNat, by omega, by omega⟩
section
variable {vs : List Vers} {K T : Nat} (G : GameOk vs K T)
include G
theorem GameOk.mvOk {n c : Nat} {p : Int} (h : PosOk vs n p) (h0 : 0 ≤ p) (hc : c < K) : n < vs.length ∧ p.toNat < (vAt vs n).length ∧ 0 ≤ (mv (vAt vs n) p.toNat c).1 ∧ (mv (vAt vs n) p.toNat c).1 < (vAt vs n).length := by
 rcases h with rfl | ⟨_, h2, h3⟩
 ·omega
 ·have h4 : p.toNat < (vAt vs n).length := by
   show p.toNat < (vs.getD n []).length
   omega
  obtain ⟨x, _, _, k3, k4⟩ := mv_at (G.hv _ (vAt_in h2)) h4 hc
  exact ⟨h2, h4, by omega, by omega⟩
theorem GameOk.sp_pos {n c t : Nat} {p : Int} (h : PosOk vs n p) (hc : c < K) : 0 ≤ spI vs c t n p ↔ 0 ≤ p ∧ (mv (vAt vs n) p.toNat c).2 = (t : Int) := by
 unfold spI
 by_cases h0 : 0 ≤ p
 ·rw [if_pos h0]
  by_cases ht : (mv (vAt vs n) p.toNat c).2 = (t : Int)
  ·rw [if_pos ht]
   exact ⟨fun _ => ⟨h0, ht⟩, fun _ => (G.mvOk h h0 hc).2.2.1⟩
  ·rw [if_neg ht]
   exact ⟨fun h => by omega, fun h => absurd h.2 ht⟩
 ·rw [if_neg h0]
  exact ⟨fun h => absurd h h0, fun h => absurd h.1 h0⟩
theorem GameOk.sp_ok {n c t : Nat} {p : Int} (h : PosOk vs n p) (hc : c < K) : PosOk vs n (spI vs c t n p) := by
 unfold spI
 by_cases h0 : 0 ≤ p
 ·rw [if_pos h0]
  by_cases ht : (mv (vAt vs n) p.toNat c).2 = (t : Int)
  ·rw [if_pos ht]
   obtain ⟨k1, _, k3, k4⟩ := G.mvOk h h0 hc
   exact .inr ⟨k3, k1, k4⟩
  ·rw [if_neg ht]; exact .inl rfl
 ·rw [if_neg h0]; exact h
theorem GameOk.sp4_ok {c t : Nat} {p : P4} (h : P4Ok vs p) (hc : c < K) : P4Ok vs (sp4 vs c t p) := by
 rw [P4Ok_iff] at h ⊢
 intro n hn
 rw [at4_sp4 hn]
 exact G.sp_ok (h n hn) hc
omit G in
theorem succ4_mem {p y : P4} {c : Nat} : y ∈ succ4 vs T p c ↔ ∃ t, t < T ∧ y = sp4 vs c t p ∧ some4 y = true := by
 unfold succ4
 rw [List.mem_filter, List.mem_map]
 constructor
 ·rintro ⟨⟨t, ht, rfl⟩, h⟩
  exact ⟨t, List.mem_range.1 ht, rfl, h⟩
 ·rintro ⟨t, ht, rfl, h⟩
  exact ⟨⟨t, List.mem_range.2 ht, rfl⟩, h⟩
theorem GameOk.succ_ok {p y : P4} {c : Nat} (h : P4Ok vs p) (hc : c < K) (hy : y ∈ succ4 vs T p c) : P4Ok vs y := by
 obtain ⟨t, _, rfl, _⟩ := succ4_mem.1 hy
 exact G.sp4_ok h hc
theorem GameOk.ne {p : P4} {c : Nat} (h : P4Ok vs p) (hp : some4 p = true) (hc : c < K) : succ4 vs T p c ≠ [] := by
 obtain ⟨n, hn, h0⟩ := some4_iff.1 hp
 have hk := P4Ok_iff.1 h n hn
 obtain ⟨k1, k2, _, _⟩ := G.mvOk hk h0 hc
 obtain ⟨t, ht, e⟩ := G.ht n k1 _ k2 c hc
 have hm : sp4 vs c t p ∈ succ4 vs T p c := succ4_mem.2 ⟨t, ht, rfl, some4_iff.2 ⟨n, hn, by rw [at4_sp4 hn]; exact (G.sp_pos hk hc).2 ⟨h0, e⟩⟩⟩
 intro e
 rw [e] at hm
 cases hm
omit G in
theorem base_none {p : P4} (h : some4 p = false) : base4 vs K p := base4_iff.2 fun a b ha _ pa _ => by
 rw [some4_iff.2 ⟨a, ha, pa⟩] at h
 cases h
theorem GameOk.ne' {p : P4} {c : Nat} (h : P4Ok vs p) (hb : ¬ base4 vs K p) (hc : c < K) : succ4 vs T p c ≠ [] := by
 refine G.ne h ?_ hc
 cases hp : some4 p with
 | true => rfl
 | false => exact absurd (base_none hp) hb
end
structure BestQ (vs : List Vers) (K T : Nat) (p : P4) (c n : Nat) : Prop where
 val : Val (base4 vs K) (succ4 vs T) K p n
 nb : ¬ base4 vs K p
 lt : c < K
 good : ∀ y ∈ succ4 vs T p c, ∃ m, Val (base4 vs K) (succ4 vs T) K y m ∧ m + 1 ≤ n
 min : ∀ d, d < c → ¬ ∀ y ∈ succ4 vs T p d, ∃ m, Val (base4 vs K) (succ4 vs T) K y m ∧ m + 1 ≤ n
inductive AskR (vs : List Vers) (K T : Nat) (p : P4) : Option (Option (Nat × Nat)) → Prop
 | done (h : base4 vs K p) : AskR vs K T p (some none)
 | best {c n : Nat} (h : BestQ vs K T p c n) : AskR vs K T p (some (some (c, n)))
 | none (h : ∀ n, ¬ win (base4 vs K) (succ4 vs T) K n p) : AskR vs K T p none
end Go.Vm

namespace Go.Vm
open Go.Proofs
def stP (vs : List Vers) (L : List Int) (l : List Nat) : P4 := (jRun vs L l).1
theorem at4_st {vs : List Vers} {L : List Int} {l : List Nat} : ∀ {n : Nat}, n < 4 → at4 (stP vs L l) n = erI vs L l n
 | 0, _ => rfl
 | 1, _ => rfl
 | 2, _ => rfl
 | 3, _ => rfl
 | _ + 4, h => by omega
theorem remL_iff {vs : List Vers} {evs : List Evening} : ∀ {r : Nat} {n : Nat}, (n : Int) ∈ remL vs evs r ↔ n < r ∧ Agrees (vAt vs n) evs
 | 0, n => ⟨fun h => (by cases h), fun h => by omega⟩
 | r + 1, n => by
  have ih := remL_iff (vs := vs) (evs := evs) (r := r) (n := n)
  unfold remL
  by_cases ha : Agrees (vs.getD r []) evs
  ·rw [if_pos ha, List.mem_append, ih, List.mem_singleton]
   constructor
   ·rintro (⟨h1, h2⟩ | h)
    ·exact ⟨by omega, h2⟩
    ·obtain rfl : n = r := by omega
     exact ⟨by omega, ha⟩
   ·rintro ⟨h1, h2⟩
    rcases Nat.lt_or_ge n r with h | h
    ·exact .inl ⟨h, h2⟩
    ·exact .inr (by omega)
  ·rw [if_neg ha, ih]
   constructor
   ·rintro ⟨h1, h2⟩
    exact ⟨by omega, h2⟩
   ·rintro ⟨h1, h2⟩
    rcases Nat.lt_or_ge n r with h | h
    ·exact ⟨h, h2⟩
    ·obtain rfl : n = r := by omega
     exact absurd h2 ha
theorem agrees_snoc {v : Vers} {evs : List Evening} {e : Evening} : Agrees v (evs ++ [e]) ↔ Agrees v evs ∧ Noted (plays v 0 e.1) e.2 := by
 unfold Agrees
 constructor
 ·intro h
  exact ⟨fun x hx => h x (by simp [hx]), h e (by simp)⟩
 ·rintro ⟨h1, h2⟩ x hx
  rcases List.mem_append.1 hx with hx | hx
  ·exact h1 x hx
  ·rw [List.mem_singleton] at hx; subst hx; exact h2
section
variable {vs : List Vers} {K T : Nat} (G : GameOk vs K T) {evs : List Evening} {cues tunes : List Int} {l : List Nat}
include G in
theorem GameOk.st_ok (hl : OkL K l) (evs : List Evening) : P4Ok vs (stP vs (remL vs evs vs.length) l) := P4Ok_iff.2 fun n hn => by
 rw [at4_st hn]
 unfold erI
 by_cases h : (n : Int) ∈ remL vs evs vs.length
 ·rw [if_pos h]
  have hnl := (remL_iff.1 h).1
  have := after_lt (G.hv _ (vAt_in hnl)) (cuesI_ok hl) (G.hv0 _ (vAt_in hnl))
  exact .inr ⟨by omega, hnl, by
   show ((after (vAt vs n) 0 (cuesI l) : Nat) : Int) < ((vAt vs n).length : Nat)
   omega⟩
 ·rw [if_neg h]; exact .inl rfl
end
def Sub4 (q p : P4) : Prop := ∀ n, n < 4 → at4 q n = at4 p n ∨ at4 q n = -1
theorem Sub4.sp {vs : List Vers} {c t : Nat} {q p : P4} (h : Sub4 q p) : Sub4 (sp4 vs c t q) (sp4 vs c t p) := fun n hn => by
 rw [at4_sp4 hn, at4_sp4 hn]
 rcases h n hn with h | h
 ·rw [h]; exact .inl rfl
 ·rw [h]; exact .inr (if_neg (by omega))
theorem win_less {vs : List Vers} {K T : Nat} : ∀ {n : Nat} {q p : P4}, Sub4 q p → win (base4 vs K) (succ4 vs T) K n p → win (base4 vs K) (succ4 vs T) K n q
 | 0, q, p, h, hw => base4_iff.2 fun a b ha hb pa pb => by
  have e := base4_iff.1 hw a b ha hb
  rcases h a ha with h1 | h1
  ·rcases h b hb with h2 | h2
   ·exact e (by omega) (by omega)
   ·omega
  ·omega
 | n + 1, q, p, h, hw => by
  rcases hw with hw | ⟨c, hc, hw⟩
  ·exact win_base (win_less (T := T) (n := 0) h hw)
  ·refine .inr ⟨c, hc, fun y hy => ?_⟩
   obtain ⟨t, ht, rfl, hs⟩ := succ4_mem.1 hy
   refine win_less h.sp (hw (sp4 vs c t p) (succ4_mem.2 ⟨t, ht, rfl, ?_⟩))
   obtain ⟨n, hn, h0⟩ := some4_iff.1 hs
   refine some4_iff.2 ⟨n, hn, ?_⟩
   rcases h.sp (vs := vs) (c := c) (t := t) n hn with h1 | h1 <;> omega
theorem st_less {vs : List Vers} {L L' : List Int} {l : List Nat} (h : ∀ n : Nat, (n : Int) ∈ L' → (n : Int) ∈ L) : Sub4 (stP vs L' l) (stP vs L l) := fun n hn => by
 rw [at4_st hn, at4_st hn]
 unfold erI
 by_cases h1 : (n : Int) ∈ L'
 ·rw [if_pos h1, if_pos (h n h1)]; exact .inl rfl
 ·rw [if_neg h1]; exact .inr rfl
theorem rem_less {vs : List Vers} {evs : List Evening} {e : Evening} {r n : Nat} (h : (n : Int) ∈ remL vs (evs ++ [e]) r) : (n : Int) ∈ remL vs evs r := by
 rw [remL_iff, agrees_snoc] at h
 exact remL_iff.2 ⟨h.1, h.2.1⟩
theorem joined_less {vs : List Vers} {K : Nat} {L L' : List Int} {l : List Nat} (h : ∀ n : Nat, (n : Int) ∈ L' → (n : Int) ∈ L) (hd : doneJ vs K (jRun vs L l)) : doneJ vs K (jRun vs L' l) := by
 have h6 : ∀ a b, a < 4 → b < a → pairJ vs K a b (erI vs L l a) (erI vs L l b) := six.1 hd
 refine (six (P := fun a b => pairJ vs K a b (erI vs L' l a) (erI vs L' l b))).2 (fun a b ha hb => ?_)
 intro pa pb
 have ma := er_pos.1 pa
 have mb := er_pos.1 pb
 have e1 : erI vs L' l a = erI vs L l a := by unfold erI; rw [if_pos ma, if_pos (h a ma)]
 have e2 : erI vs L' l b = erI vs L l b := by unfold erI; rw [if_pos mb, if_pos (h b mb)]
 rw [e1] at pa ⊢
 rw [e2] at pb ⊢
 exact h6 a b ha hb pa pb
end Go.Vm

namespace Go.Vm
open Go.Proofs
def p4All : List P4 := prodL r5 (prodL r5 (prodL r5 r5))
theorem p4All_length : p4All.length = 625 := by
 unfold p4All
 simp only [prodL_length]
 rfl
theorem P4Ok.all {vs : List Vers} (hs : Small vs) {p : P4} (h : P4Ok vs p) : p ∈ p4All := by
 obtain ⟨h0, h1, h2, h3⟩ := h
 obtain ⟨a, b, c, d⟩ := p
 exact prodL_mem (r5_mem (h0.small hs)) (prodL_mem (r5_mem (h1.small hs)) (prodL_mem (r5_mem (h2.small hs)) (r5_mem (h3.small hs))))
theorem p4_few {vs : List Vers} (hs : Small vs) {U : List P4} (hn : U.Nodup) (hU : ∀ x ∈ U, P4Ok vs x) : U.length ≤ 625 := by
 have := nodup_length hn (U := p4All) fun x hx => (hU x hx).all hs
 rwa [p4All_length] at this
def addP (U : List P4) (y : P4) : List P4 := if y ∈ U then U else U ++ [y]
def addR (U l : List P4) : Nat → List P4
 | 0 => U
 | r + 1 => addP (addR U l r) (l.getD r (0, 0, 0, 0))
def addC (vs : List Vers) (T : Nat) (U : List P4) (x : P4) : Nat → List P4
 | 0 => U
 | c + 1 => addR (addC vs T U x c) (succ4 vs T x c) (succ4 vs T x c).length
theorem addP_sub {U : List P4} {y x : P4} (h : x ∈ U) : x ∈ addP U y := by
 unfold addP
 split
 ·exact h
 ·simp [h]
theorem addP_has (U : List P4) (y : P4) : y ∈ addP U y := by
 unfold addP
 split
 ·assumption
 ·simp
theorem addR_sub {U l : List P4} {x : P4} (h : x ∈ U) : ∀ r, x ∈ addR U l r
 | 0 => h
 | r + 1 => addP_sub (addR_sub h r)
theorem addR_has {U l : List P4} : ∀ {r j : Nat}, j < r → l.getD j (0, 0, 0, 0) ∈ addR U l r
 | r + 1, j, h => by
  rcases Nat.lt_or_ge j r with h1 | h1
  ·exact addP_sub (addR_has h1)
  ·obtain rfl : j = r := by omega
   exact addP_has _ _
theorem addC_sub {vs : List Vers} {T : Nat} {U : List P4} {x z : P4} (h : z ∈ U) : ∀ c, z ∈ addC vs T U x c
 | 0 => h
 | c + 1 => addR_sub (addC_sub h c) _
theorem addC_has {vs : List Vers} {T : Nat} {U : List P4} {x y : P4} : ∀ {c d : Nat}, d < c → y ∈ succ4 vs T x d → y ∈ addC vs T U x c
 | c + 1, d, h, hy => by
  rcases Nat.lt_or_ge d c with h1 | h1
  ·exact addR_sub (addC_has h1 hy) _
  ·obtain rfl : d = c := by omega
   obtain ⟨j, hj, rfl⟩ := List.getElem_of_mem hy
   have := addR_has (U := addC vs T U x d) (l := succ4 vs T x d) hj
   rwa [show (succ4 vs T x d).getD j (0, 0, 0, 0) = (succ4 vs T x d)[j] by simp [List.getD, List.getElem?_eq_getElem hj]] at this
def PosU (vs : List Vers) (st : P4) (U : List P4) : Prop := U.Nodup ∧ (∀ x ∈ U, P4Ok vs x) ∧ ∃ R, U = st :: R
theorem PosU.add {vs : List Vers} {st y : P4} {U : List P4} (h : PosU vs st U) (hy : P4Ok vs y) : PosU vs st (addP U y) := by
 unfold addP
 by_cases hm : y ∈ U
 ·rw [if_pos hm]; exact h
 ·rw [if_neg hm]
  obtain ⟨h1, h2, R, rfl⟩ := h
  refine ⟨?_, fun x hx => ?_, R ++ [y], rfl⟩
  ·rw [List.nodup_append]
   refine ⟨h1, by simp, fun a ha b hb e => ?_⟩
   rw [List.mem_singleton] at hb
   subst hb e
   exact hm ha
  ·rcases List.mem_append.1 hx with hx | hx
   ·exact h2 x hx
   ·rw [List.mem_singleton] at hx; subst hx; exact hy
theorem PosU.addR {vs : List Vers} {st : P4} {U l : List P4} (h : PosU vs st U) (hl : ∀ y ∈ l, P4Ok vs y) : ∀ {r : Nat}, r ≤ l.length → PosU vs st (addR U l r)
  | 0, _ => h
  | r + 1, hr => (PosU.addR h hl (r := r) (by omega)).add (by
      rw [show l.getD r (0, 0, 0, 0) = l[r] by simp [List.getD, List.getElem?_eq_getElem (show r < l.length by omega)]]
      exact hl _ (List.getElem_mem _))
theorem PosU.addC {vs : List Vers} {K T : Nat} (G : GameOk vs K T) {st x : P4} {U : List P4} (h : PosU vs st U) (hx : P4Ok vs x) : ∀ {c : Nat}, c ≤ K → PosU vs st (addC vs T U x c)
 | 0, _ => h
 | c + 1, hc => (PosU.addC G h hx (c := c) (by omega)).addR (fun y hy => G.succ_ok hx (by omega) hy) (Nat.le_refl _)
theorem addP_get {U : List P4} {y x : P4} {i : Nat} (h : U[i]? = some x) : (addP U y)[i]? = some x := by
 unfold addP
 split
 ·exact h
 ·rw [List.getElem?_append_left (List.getElem?_eq_some_iff.1 h).1]; exact h
theorem addR_get {U l : List P4} {x : P4} {i : Nat} (h : U[i]? = some x) : ∀ r, (addR U l r)[i]? = some x
 | 0 => h
 | r + 1 => addP_get (addR_get h r)
theorem addC_get {vs : List Vers} {T : Nat} {U : List P4} {x z : P4} {i : Nat} (h : U[i]? = some z) : ∀ c, (addC vs T U x c)[i]? = some z
 | 0 => h
 | c + 1 => addR_get (addC_get h c) _
def Reach (vs : List Vers) (K T : Nat) (st : P4) (U : List P4) (i : Nat) : Prop := PosU vs st U ∧ i ≤ U.length ∧ ∀ j, j < i → ∀ x, U[j]? = some x → ∀ c, c < K → ∀ y ∈ succ4 vs T x c, y ∈ U
theorem Reach.begin {vs : List Vers} {K T : Nat} {st : P4} (h : P4Ok vs st) : Reach vs K T st [st] 0 :=
 ⟨⟨by simp, fun x hx => by rw [List.mem_singleton] at hx; subst hx; exact h, [], rfl⟩, Nat.zero_le _, fun j hj => by omega⟩
theorem Reach.next {vs : List Vers} {K T : Nat} (G : GameOk vs K T) {st x : P4} {U : List P4} {i : Nat} (h : Reach vs K T st U i) (hx : U[i]? = some x) : Reach vs K T st (addC vs T U x K) (i + 1) := by
 obtain ⟨h1, h2, h3⟩ := h
 have hxm := List.mem_of_getElem? hx
 refine ⟨h1.addC G (h1.2.1 x hxm) (Nat.le_refl _), ?_, fun j hj z hz c hc y hy => ?_⟩
 ·have := (List.getElem?_eq_some_iff.1 (addC_get (vs := vs) (T := T) (x := x) hx K)).1
  omega
 ·rcases Nat.lt_or_ge j i with h4 | h4
  ·obtain ⟨z', hz'⟩ : ∃ z', U[j]? = some z' := ⟨_, List.getElem?_eq_getElem (by omega)⟩
   have := addC_get (vs := vs) (T := T) (x := x) hz' K
   rw [hz] at this
   obtain rfl := Option.some.inj this
   exact addC_sub (h3 j h4 z hz' c hc y hy) K
  ·obtain rfl : j = i := by omega
   have := addC_get (vs := vs) (T := T) (x := x) hx K
   rw [hz] at this
   obtain rfl := Option.some.inj this
   exact addC_has hc hy
structure AllU (vs : List Vers) (K T : Nat) (st : P4) (U : List P4) : Prop where
 nodup : U.Nodup
 ok : ∀ x ∈ U, P4Ok vs x
 start : st ∈ U
 closed : ∀ x ∈ U, ∀ c, c < K → ∀ y ∈ succ4 vs T x c, y ∈ U
theorem Reach.all {vs : List Vers} {K T : Nat} {st : P4} {U : List P4} {i : Nat} (h : Reach vs K T st U i) (hi : U.length ≤ i) : AllU vs K T st U := by
 obtain ⟨⟨h1, h2, R, h3⟩, _, h4⟩ := h
 refine ⟨h1, h2, by rw [h3]; simp, fun x hx c hc y hy => ?_⟩
 obtain ⟨j, hj, rfl⟩ := List.getElem_of_mem hx
 exact h4 j (by omega) _ (List.getElem?_eq_getElem hj) c hc y hy
def kP (p : P4) : List Int := [p.1, p.2.1, p.2.2.1, p.2.2.2, 0]
def eP (es : List (P4 × Nat)) : List (List Int × Int) := es.map fun q => (kP q.1, ((q.2 : Nat) : Int))
def lookP (es : List (P4 × Nat)) (p : P4) : Option Nat := (es.find? fun q => decide (q.1 = p)).map (·.2)
theorem kP_inj {p q : P4} (h : kP p = kP q) : p = q := by
 obtain ⟨a, b, c, d⟩ := p
 obtain ⟨a', b', c', d'⟩ := q
 unfold kP at h
 simp only [List.cons.injEq, and_true] at h
 obtain ⟨h0, h1, h2, h3⟩ := h
 rw [h0, h1, h2, h3]
theorem eP_look (p : P4) : ∀ es : List (P4 × Nat), lookI (eP es) (kP p) = (lookP es p).map fun n => ((n : Nat) : Int)
 | [] => rfl
 | q :: es => by
  have ih := eP_look p es
  unfold lookI lookP eP at ih ⊢
  rw [List.map_cons, List.find?_cons, List.find?_cons]
  by_cases e : q.1 = p
  ·simp [e]
  ·have e' : ¬ kP q.1 = kP p := fun h => e (kP_inj h)
   simp only [decide_eq_false e, decide_eq_false e']
   exact ih
theorem lookP_none {es : List (P4 × Nat)} {p : P4} : lookP es p = none ↔ ∀ q ∈ es, q.1 ≠ p := by
 unfold lookP
 rw [Option.map_eq_none_iff, List.find?_eq_none]
 simp
theorem eP_new {es : List (P4 × Nat)} {p : P4} (h : lookP es p = none) : ∀ q ∈ eP es, q.1 ≠ kP p := fun q hq e => by
 obtain ⟨r, hr, rfl⟩ := List.mem_map.1 hq
 exact lookP_none.1 h r hr (kP_inj e)
theorem eP_snoc (es : List (P4 × Nat)) (p : P4) (n : Nat) : eP (es ++ [(p, n)]) = eP es ++ [(kP p, (n : Int))] := by unfold eP; rw [List.map_append]; rfl
theorem lookP_append (es fs : List (P4 × Nat)) (p : P4) : lookP (es ++ fs) p = match lookP es p with
  | some n => some n
  | none => lookP fs p := by
 unfold lookP
 rw [List.find?_append]
 cases es.find? fun q => decide (q.1 = p) <;> rfl
theorem lookP_mem {es : List (P4 × Nat)} {p : P4} {n : Nat} (hn : (es.map (·.1)).Nodup) (h : (p, n) ∈ es) : lookP es p = some n := by
 induction es with
 | nil => cases h
 | cons q es ih =>
  rw [List.map_cons, List.nodup_cons] at hn
  unfold lookP at ih ⊢
  rw [List.find?_cons]
  by_cases e : q.1 = p
  ·rcases List.mem_cons.1 h with h | h
   ·subst h; simp
   ·exact absurd (List.mem_map.2 ⟨_, h, e.symm⟩) hn.1
  ·simp only [decide_eq_false e]
   rcases List.mem_cons.1 h with h | h
   ·subst h; exact absurd rfl e
   ·exact ih hn.2 h
def iniE (sb : P4 → Bool) (U : List P4) (r : Nat) : List (P4 × Nat) := ((U.take r).filter sb).map fun p => (p, 0)
def fndF (succ : P4 → Nat → List P4) (K : Nat) (N : List (P4 × Nat)) (p : P4) : Option (P4 × Nat) := match lookP N p with
 | some _ => none
 | none => (bestC (lookP N) succ p K).map fun b => (p, b.2)
def fndE (succ : P4 → Nat → List P4) (K : Nat) (N : List (P4 × Nat)) (U : List P4) (r : Nat) : List (P4 × Nat) := (U.take r).filterMap (fndF succ K N)
theorem take_snocP {α : Type} {U : List α} {r : Nat} {x : α} (h : U[r]? = some x) : U.take (r + 1) = U.take r ++ [x] := by
 rw [List.take_add_one, h]
 rfl
theorem iniE_snoc {sb : P4 → Bool} {U : List P4} {r : Nat} {x : P4} (h : U[r]? = some x) : iniE sb U (r + 1) = if sb x = true then iniE sb U r ++ [(x, 0)] else iniE sb U r := by
 unfold iniE
 rw [take_snocP h, List.filter_append, List.filter_cons, List.filter_nil]
 by_cases hs : sb x = true
 ·rw [if_pos hs, if_pos hs, List.map_append]; rfl
 ·rw [if_neg hs, if_neg hs, List.append_nil]
theorem fndE_snoc {succ : P4 → Nat → List P4} {K : Nat} {N : List (P4 × Nat)} {U : List P4} {r : Nat} {x : P4} (h : U[r]? = some x) : fndE succ K N U (r + 1) = match fndF succ K N x with
  | some q => fndE succ K N U r ++ [q]
  | none => fndE succ K N U r := by
 unfold fndE
 rw [take_snocP h, List.filterMap_append]
 cases hf : fndF succ K N x with
 | none => simp [hf]
 | some q => simp [hf]
theorem nodup_take {U : List P4} (h : U.Nodup) {r : Nat} {x : P4} (hx : U[r]? = some x) : x ∉ U.take r := fun hm => by
 obtain ⟨j, hj, e⟩ := List.getElem_of_mem hm
 rw [List.length_take] at hj
 rw [List.getElem_take] at e
 have h1 : U[j]? = some x := by rw [← e]; exact List.getElem?_eq_getElem (by omega)
 have := nodup_inj h h1 hx
 omega
theorem iniE_new {sb : P4 → Bool} {U : List P4} (h : U.Nodup) {r : Nat} {x : P4} (hx : U[r]? = some x) : lookP (iniE sb U r) x = none := lookP_none.2 fun q hq e => by
 unfold iniE at hq
 obtain ⟨p, hp, rfl⟩ := List.mem_map.1 hq
 have h1 := (List.mem_filter.1 hp).1
 have e : p = x := e
 rw [e] at h1
 exact nodup_take h hx h1
theorem fndF_fst {succ : P4 → Nat → List P4} {K : Nat} {N : List (P4 × Nat)} {p : P4} {q : P4 × Nat} (h : fndF succ K N p = some q) : q.1 = p ∧ lookP N p = none ∧ ∃ c, bestC (lookP N) succ p K = some (c, q.2) := by
 unfold fndF at h
 cases hl : lookP N p with
 | some n => rw [hl] at h; cases h
 | none =>
  rw [hl] at h
  cases hb : bestC (lookP N) succ p K with
  | none => rw [hb] at h; cases h
  | some b =>
   rw [hb] at h
   obtain rfl := Option.some.inj h
   exact ⟨rfl, rfl, b.1, rfl⟩
theorem fndE_new {succ : P4 → Nat → List P4} {K : Nat} {N : List (P4 × Nat)} {U : List P4} (h : U.Nodup) {r : Nat} {x : P4} (hx : U[r]? = some x) : lookP (fndE succ K N U r) x = none := lookP_none.2 fun q hq e => by
 unfold fndE at hq
 obtain ⟨p, hp, hf⟩ := List.mem_filterMap.1 hq
 obtain ⟨h1, _, _⟩ := fndF_fst hf
 rw [← h1, e] at hp
 exact nodup_take h hx hp
theorem fndE_keys {succ : P4 → Nat → List P4} {K : Nat} {N : List (P4 × Nat)} {U : List P4} (h : U.Nodup) (r : Nat) : ((fndE succ K N U r).map (·.1)).Nodup := by
 induction r with
 | zero => unfold fndE; simp
 | succ r ih =>
  cases hx : U[r]? with
  | none =>
   have : U.take (r + 1) = U.take r := by rw [List.take_add_one, hx]; simp
   unfold fndE at ih ⊢
   rw [this]; exact ih
  | some x =>
   rw [fndE_snoc hx]
   cases hf : fndF succ K N x with
   | none => exact ih
   | some q =>
    show ((fndE succ K N U r ++ [q]).map (·.1)).Nodup
    rw [List.map_append, List.nodup_append]
    refine ⟨ih, by simp, fun a ha b hb e => ?_⟩
    obtain ⟨z, hz, rfl⟩ := List.mem_map.1 ha
    simp only [List.map_cons, List.map_nil, List.mem_singleton] at hb
    rw [hb, (fndF_fst hf).1] at e
    exact lookP_none.1 (fndE_new h hx) z hz e
theorem fndE_look {succ : P4 → Nat → List P4} {K : Nat} {N : List (P4 × Nat)} {U : List P4} (h : U.Nodup) {x : P4} (hx : x ∈ U) (hN : lookP N x = none) : lookP (fndE succ K N U U.length) x = (bestC (lookP N) succ x K).map (·.2) := by
 cases hb : bestC (lookP N) succ x K with
 | none =>
  refine lookP_none.2 fun q hq e => ?_
  obtain ⟨p, _, hf⟩ := List.mem_filterMap.1 hq
  obtain ⟨h1, _, c, h2⟩ := fndF_fst hf
  rw [← h1, e, hb] at h2
  cases h2
 | some b =>
  refine lookP_mem (fndE_keys h _) (List.mem_filterMap.2 ⟨x, by rw [List.take_length]; exact hx, ?_⟩)
  unfold fndF
  rw [hN, hb]
  rfl
theorem iniE_look {sb : P4 → Bool} {U : List P4} {x : P4} (hx : x ∈ U) : lookP (iniE sb U U.length) x = if sb x = true then some 0 else none := by
 unfold iniE
 rw [List.take_length]
 by_cases hs : sb x = true
 ·rw [if_pos hs]
  cases hl : lookP ((U.filter sb).map fun p => (p, 0)) x with
  | none => exact absurd rfl (lookP_none.1 hl (x, 0) (List.mem_map.2 ⟨x, List.mem_filter.2 ⟨hx, hs⟩, rfl⟩))
  | some n =>
   unfold lookP at hl
   obtain ⟨q, hq, rfl⟩ := Option.map_eq_some_iff.1 hl
   obtain ⟨p, _, rfl⟩ := List.mem_map.1 (List.mem_of_find?_eq_some hq)
   rfl
 ·rw [if_neg hs]
  refine lookP_none.2 fun q hq e => ?_
  obtain ⟨p, hp, rfl⟩ := List.mem_map.1 hq
  have e : p = x := e
  rw [← e] at hs
  exact hs (List.mem_filter.1 hp).2
section
variable {vs : List Vers} {K T : Nat} {st : P4} {U : List P4}
structure SolveI (vs : List Vers) (K T : Nat) (U : List P4) (N : List (P4 × Nat)) (more : Bool) : Prop where
 knows : ∃ r, Knows (base4 vs K) (succ4 vs T) K U (lookP N) r
 keys : (N.map (·.1)).Nodup
 sub : ∀ q ∈ N, q.1 ∈ U
 stop : more = false → ∀ x ∈ U, lookP N x = none → bestC (lookP N) (succ4 vs T) x K = none
theorem SolveI.few {N : List (P4 × Nat)} {more : Bool} (h : SolveI vs K T U N more) : N.length ≤ U.length := by
 have := nodup_length h.keys (U := U) fun x hx => by
  obtain ⟨q, hq, rfl⟩ := List.mem_map.1 hx
  exact h.sub q hq
 rwa [List.length_map] at this
theorem SolveI.begin (hU : AllU vs K T st U) {sb : P4 → Bool} (hsb : ∀ x ∈ U, (sb x = true ↔ base4 vs K x)) : SolveI vs K T U (iniE sb U U.length) true := by
 refine ⟨⟨0, fun x hx n => ?_⟩, ?_, fun q hq => ?_, fun h => by cases h⟩
 ·rw [iniE_look hx]
  by_cases hs : sb x = true
  ·rw [if_pos hs]
   have hb := (hsb x hx).1 hs
   constructor
   ·intro e
    obtain rfl := Option.some.inj e
    exact ⟨Val.zero.2 hb, Nat.le_refl _⟩
   ·rintro ⟨_, h⟩
    obtain rfl : n = 0 := by omega
    rfl
  ·rw [if_neg hs]
   constructor
   ·intro e; cases e
   ·rintro ⟨hV, h⟩
    obtain rfl : n = 0 := by omega
    exact absurd ((hsb x hx).2 (Val.zero.1 hV)) hs
 ·unfold iniE
  rw [List.map_map]
  have e : ((fun q : P4 × Nat => q.1) ∘ fun p : P4 => (p, 0)) = id := rfl
  rw [e, List.map_id, List.take_length]
  exact hU.nodup.filter _
 ·unfold iniE at hq
  obtain ⟨p, hp, rfl⟩ := List.mem_map.1 hq
  exact List.mem_of_mem_take (List.mem_filter.1 hp).1
theorem SolveI.step (G : GameOk vs K T) (hU : AllU vs K T st U) {N : List (P4 × Nat)} {more : Bool} (h : SolveI vs K T U N more) : SolveI vs K T U (N ++ fndE (succ4 vs T) K N U U.length) (decide (fndE (succ4 vs T) K N U U.length ≠ [])) := by
 obtain ⟨⟨r, hr⟩, h2, h3, h4⟩ := h
 have hsub : ∀ q ∈ fndE (succ4 vs T) K N U U.length, q.1 ∈ U ∧ lookP N q.1 = none := fun q hq => by
  obtain ⟨p, hp, hf⟩ := List.mem_filterMap.1 hq
  obtain ⟨e, e2, _⟩ := fndF_fst hf
  rw [e]
  exact ⟨List.mem_of_mem_take hp, e2⟩
 refine ⟨⟨r + 1, hr.step hU.closed (fun x hx hb c hc => G.ne' (hU.ok x hx) hb hc) (fun x hx n e => by rw [lookP_append, e]) (fun x hx e => by rw [lookP_append, e]; exact fndE_look hU.nodup hx e)⟩, ?_, fun q hq => ?_, fun hm x hx e => ?_⟩
 ·rw [List.map_append, List.nodup_append]
  refine ⟨h2, fndE_keys hU.nodup _, fun a ha b hb e => ?_⟩
  obtain ⟨p, hp, rfl⟩ := List.mem_map.1 ha
  obtain ⟨q, hq, rfl⟩ := List.mem_map.1 hb
  exact lookP_none.1 (hsub q hq).2 p hp e
 ·rcases List.mem_append.1 hq with hq | hq
  ·exact h3 q hq
  ·exact (hsub q hq).1
 ·have hnil : fndE (succ4 vs T) K N U U.length = [] := by
   have := of_decide_eq_false hm
   exact Classical.byContradiction this
  rw [hnil, List.append_nil] at e ⊢
  have h5 := fndE_look (succ := succ4 vs T) (K := K) hU.nodup hx e
  rw [hnil] at h5
  cases hb : bestC (lookP N) (succ4 vs T) x K with
  | none => rfl
  | some b => rw [hb] at h5; cases h5
theorem SolveI.done (G : GameOk vs K T) (hU : AllU vs K T st U) {N : List (P4 × Nat)} (h : SolveI vs K T U N false) : ∀ x ∈ U, ∀ n, lookP N x = some n ↔ Val (base4 vs K) (succ4 vs T) K x n := fun x hx n => by
 obtain ⟨⟨r, hr⟩, _, _, h4⟩ := h
 exact hr.all hU.closed (fun x hx hb c hc => G.ne' (hU.ok x hx) hb hc) (h4 rfl) hx
theorem SolveI.ask (G : GameOk vs K T) (hU : AllU vs K T st U) {N : List (P4 × Nat)} (h : SolveI vs K T U N false) (hb : ¬ base4 vs K st) :
  (lookP N st = none ∧ AskR vs K T st none) ∨ ∃ c n, lookP N st = some n ∧ bestC (lookP N) (succ4 vs T) st K = some (c, n) ∧ AskR vs K T st (some (some (c, n))) := by
 have hd := h.done G hU
 cases hN : lookP N st with
 | none =>
  refine .inl ⟨rfl, .none fun n hw => ?_⟩
  obtain ⟨m, _, hV⟩ := Val.least hw
  rw [(hd st hU.start m).2 hV] at hN
  cases hN
 | some n =>
  have hV := (hd st hU.start n).1 hN
  obtain ⟨c, h1, h2, h3, _, _, h6⟩ := best_val hU.closed (fun x hx hb c hc => G.ne' (hU.ok x hx) hb hc) hd hU.start hV hb
  refine .inr ⟨c, n, rfl, h1, .best ⟨hV, hb, h2, h3, fun d hd h => ?_⟩⟩
  have := (h6 d (by omega) n h).2 hd
  omega
end
def chs (N : P4 → Option Nat) (succ : P4 → Nat → List P4) (x : P4) (c : Nat) : List (Nat × Nat) := (List.range c).filterMap fun c => (needC N (succ x c) 0).map fun k => (c, k)
def bstS (o : Option (Nat × Nat)) (x : Nat × Nat) : Option (Nat × Nat) := match o with
 | none => some x
 | some b => if x.2 < b.2 then some x else some b
def bstL (l : List (Nat × Nat)) : Option (Nat × Nat) := l.foldl bstS none
theorem bstL_snoc (l : List (Nat × Nat)) (x : Nat × Nat) : bstL (l ++ [x]) = bstS (bstL l) x := by unfold bstL; rw [List.foldl_append]; rfl
theorem chs_succ (N : P4 → Option Nat) (succ : P4 → Nat → List P4) (x : P4) (c : Nat) : chs N succ x (c + 1) = match needC N (succ x c) 0 with
  | some k => chs N succ x c ++ [(c, k)]
  | none => chs N succ x c := by
 unfold chs
 rw [List.range_succ, List.filterMap_append]
 cases h : needC N (succ x c) 0 <;> simp [h]
theorem bstL_chs (N : P4 → Option Nat) (succ : P4 → Nat → List P4) (x : P4) : ∀ K : Nat, bstL (chs N succ x K) = bestC N succ x K
 | 0 => rfl
 | K + 1 => by
  have ih := bstL_chs N succ x K
  rw [chs_succ]
  show _ = (match needC N (succ x K) 0, bestC N succ x K with
   | none, b => b
   | some k, none => some (K, k)
   | some k, some b => if k < b.2 then some (K, k) else some b)
  cases needC N (succ x K) 0 with
  | none => exact ih
  | some k =>
   show bstL (chs N succ x K ++ [(K, k)]) = _
   rw [bstL_snoc, ih]
   cases bestC N succ x K <;> rfl
theorem copy_new {N F : List (P4 × Nat)} (h1 : ((N ++ F).map (·.1)).Nodup) : copyTo (kE (eP N)) (kE (eP F)) = kE (eP (N ++ F)) := by
 have key : ∀ (F N : List (P4 × Nat)), ((N ++ F).map (·.1)).Nodup → copyTo (kE (eP N)) (kE (eP F)) = kE (eP (N ++ F)) := fun F => by
  induction F with
  | nil =>
   intro N _
   rw [List.append_nil]
   rfl
  | cons q F ih =>
   intro N hn
   have hq : lookP N q.1 = none := lookP_none.2 fun p hp e => by
    rw [List.map_append, List.nodup_append] at hn
    exact hn.2.2 p.1 (List.mem_map.2 ⟨p, hp, rfl⟩) q.1 (by simp) e
   have e1 : mset (kE (eP N)) (intV (kP q.1)) (n' ((q.2 : Nat) : Int)) = kE (eP (N ++ [q])) := by
    rw [mset_ints (eP_new hq), ← eP_snoc]
   show copyTo (mset (kE (eP N)) (intV (kP q.1)) (n' ((q.2 : Nat) : Int))) (kE (eP F)) = _
   rw [e1, ih (N ++ [q]) (by rw [List.append_assoc]; exact hn), List.append_assoc]
   rfl
 exact key F N h1
end Go.Vm

namespace Go.Vm
open Go.Proofs
variable {P : Program} {ro : Option Nat} {k : Nat} {vars : Trie AV} {t : Trie Blk} {n lo : Nat} {d : List Nat} {Q : CodeQ}
theorem WR.of {m : Bool} {c : Code} (hm : P.follows .mixedOrders = true) (h : gCode P m k ro c vars t n d lo Q) : WR P ro c k vars t n d lo Q := gCode_spec hm c _ _ _ _ _ _ h
theorem WR.seq {a b : Code} (h : WR P ro a k vars t n d lo fun x e lo' => match x with
  | .normal => WR P ro b k e.vars e.t e.n e.defs lo' Q
  | x => Q x e lo') : WR P ro (.seq a b) k vars t n d lo Q := fun H H0 hH hk => by
 obtain ⟨x, ⟨vars1, t1, n1, d1⟩, lo1, H1, hH1, hk1, r1, q⟩ := h H H0 hH hk
 cases x with
 | normal =>
  obtain ⟨x, e2, lo2, H2, hH2, hk2, r2, q2⟩ := q H1 H0 hH1 hk1
  exact ⟨x, e2, lo2, H2, hH2, hk2, .seq r1 r2, q2⟩
 | _ => exact ⟨_, ⟨vars1, t1, n1, d1⟩, lo1, H1, hH1, hk1, .seq_out r1 rfl, q⟩
theorem WR.block {i : Nat} {c : Code} (h : WR P ro c k vars t n d lo fun x e lo' => match x with
  | .exit j => bif Nat.beq i j then Q .normal e lo' else Q (.exit j) e lo'
  | x => Q x e lo') : WR P ro (.block i c) k vars t n d lo Q := fun H H0 hH hk => by
 obtain ⟨x, e, lo1, H1, hH1, hk1, r1, q⟩ := h H H0 hH hk
 cases x with
 | normal => exact ⟨.normal, e, lo1, H1, hH1, hk1, .block r1 (.inl rfl), q⟩
 | exit j =>
  simp only at q
  cases hb : Nat.beq i j with
  | true =>
   rw [hb, cond_true] at q
   have := Nat.eq_of_beq_eq_true hb
   subst this
   exact ⟨.normal, e, lo1, H1, hH1, hk1, .block r1 (.inr rfl), q⟩
  | false =>
   rw [hb, cond_false] at q
   refine ⟨.exit j, e, lo1, H1, hH1, hk1, .block_out r1 ?_, q⟩
   have : j ≠ i := by rintro rfl; rw [Nat.beq_refl] at hb; cases hb
   simp [AExit.passes, this]
 | ret => exact ⟨.ret, e, lo1, H1, hH1, hk1, .block_out r1 rfl, q⟩
 | pan v => exact ⟨.pan v, e, lo1, H1, hH1, hk1, .block_out r1 rfl, q⟩
theorem WR.loop {c : Code} (h : WI P ro c k vars t n d lo Q) : WR P ro (.loop c) k vars t n d lo Q := fun H H0 hH hk => by
 obtain ⟨x, e, lo', H', a, b, r, q⟩ := h H H0 hH hk
 exact ⟨x, e, lo', H', a, b, .loop r, q⟩
theorem loop_w {c : Code} {α : Type} (S : α → List (Nat × AV)) (T : α → List (Nat × Blk)) (μ : α → Nat) (L : Nat) (a0 : α) (hlo : L ≤ lo) (hv : Slots (get vars) t noLo (S a0)) (ht : Blks (get t) noLo (T a0))
  (body : ∀ a, WR P ro c k (ofL (S a)) (ofL (T a)) n d noLo (RoundR S T μ L n d Q a)) : WI P ro c k vars t n d lo Q := by
 have key : ∀ j a, μ a = j → ∀ H H0, HT (ofL (T a)) n H → Keep H0 H L → ∃ x e lo' H', HT e.t e.n H' ∧ Keep H0 H' lo' ∧ InL P ro c ⟨k, ofL (S a), H, d⟩ x ⟨k, e.vars, H', e.defs⟩ ∧ Q x e lo' := by
  intro j
  induction j using Nat.strongRecOn with
  | _ j ih =>
  intro a hj H H0 hH hk
  obtain ⟨x, e, lo', H1, hH1, hk1, hrun, hq⟩ := body a H H hH (Keep.refl _ _)
  cases x with
  | normal =>
   obtain ⟨hL, hd, a', hμ, hS, hT, hB⟩ := hq
   have hlen := hH.len
   rw [hd] at hrun
   have hchg : ∀ id, id < H.length → H1[id]? = H[id]? ∨ ∃ B, H1[id]? = some B ∧ B.under H.length := by
    intro id hlt
    rcases Nat.lt_or_ge id lo' with h | h
    ·exact .inl (hk1.low id h hlt)
    ·obtain ⟨B, hB1, hB2⟩ := hB.mem id (by rw [List.mem_range'_1]; omega)
     exact .inr ⟨B, hH1.blk _ _ hB1, by rw [hlen]; exact hB2⟩
   have hback := hrun.back (V2 := ofL (S a')) (fun s v hg => by
    obtain ⟨v1, h1, h2, h3⟩ := hS.mem _ (get_ofL hg)
    exact ⟨v1, h1, h2 _ _ hH1, by rw [hlen]; exact h3⟩) hchg
   have hle := hk1.le
   have hH2 : HT (ofL (T a')) n (H1.take H.length) := by
    refine ⟨by rw [List.length_take]; omega, fun id B hg => ?_⟩
    obtain ⟨h1, h2⟩ := hT.mem _ (get_ofL hg)
    rw [List.getElem?_take_of_lt (by omega)]
    exact hH1.blk _ _ h1
   have hk2 : Keep H (H1.take H.length) L := by
    refine ⟨by rw [List.length_take]; omega, fun id h1 h2 => ?_, fun id hid => ?_⟩
    ·rw [List.getElem?_take_of_lt h2]; exact hk1.low id (by omega) h2
    ·have hlt := (List.getElem?_eq_some_iff.1 hid).1
     rw [List.getElem?_take_of_lt hlt]; exact hk1.marks id hid
   obtain ⟨x, e2, lo2, H2, hH3, hk3, hin, hq2⟩ := ih (μ a') (by omega) a' rfl (H1.take H.length) H0 hH2 (hk.trans hk2 (Nat.le_refl _) (Nat.le_refl _))
   exact ⟨x, e2, lo2, H2, hH3, hk3, .go hback hin, hq2⟩
  | exit i => exact ⟨_, e, L, H1, hH1, hk.trans hk1 (Nat.le_refl _) hq.1, .out hrun rfl, hq.2⟩
  | ret => exact ⟨_, e, L, H1, hH1, hk.trans hk1 (Nat.le_refl _) hq.1, .out hrun rfl, hq.2⟩
  | pan v => exact ⟨_, e, L, H1, hH1, hk.trans hk1 (Nat.le_refl _) hq.1, .out hrun rfl, hq.2⟩
 intro H H0 hH hk
 obtain ⟨x, e, lo', H', h1, h2, h3, h4⟩ := key _ a0 rfl H H0 ⟨hH.len, fun id B hg => hH.blk _ _ (ht.mem _ (get_ofL hg)).1⟩ (hk.mono hlo)
 refine ⟨x, e, lo', H', h1, h2, (h3.fewer fun s v hg => ?_), h4⟩
 obtain ⟨v1, g1, g2, _⟩ := hv.mem _ (get_ofL hg)
 exact ⟨v1, g1, g2 _ _ hH⟩
end Go.Vm
