/-
  Classes of states that play alike, and the function that finds them, on which this claim rests; no statement of the program is proved here. Conditions: none.
-/
import Derived.Test.YtdhdaadoehbopaaGreatDoorCq
import Derived.Test.YtdhdaadoehbopaaGreatDoorCo
import Derived.Test.YtdhdaadoehbopaaGreatDoorVc
import Derived.Test.YtdhdaadoehbopaaGreatDoorCb
import Derived.Test.YtdhdaadoehbopaaGreatDoorCp

namespace Go.Vm
open Go.Proofs
section
variable {S : Type} [DecidableEq S]
def ixS (x : S) : List S → Nat
 | [] => 0
 | y :: l => if y = x then 0 else ixS x l + 1
def insS (D : List S) (x : S) : List S := if x ∈ D then D else D ++ [x]
def ddS (l : List S) : List S := l.foldl insS []
theorem ixS_lt {x : S} : ∀ {D : List S}, x ∈ D → ixS x D < D.length
 | y :: D, h => by
  unfold ixS
  by_cases e : y = x
  ·rw [if_pos e]; simp
  ·rw [if_neg e, List.length_cons]
   have := ixS_lt (D := D) ((List.mem_cons.1 h).resolve_left fun e' => e e'.symm)
   omega
theorem ixS_app {x : S} {l : List S} : ∀ {D : List S}, x ∈ D → ixS x (D ++ l) = ixS x D
 | y :: D, h => by
  show (if y = x then 0 else ixS x (D ++ l) + 1) = (if y = x then 0 else ixS x D + 1)
  by_cases e : y = x
  ·rw [if_pos e, if_pos e]
  ·rw [if_neg e, if_neg e, ixS_app (D := D) ((List.mem_cons.1 h).resolve_left fun e' => e e'.symm)]
theorem ixS_inj {x y : S} : ∀ {D : List S}, x ∈ D → y ∈ D → ixS x D = ixS y D → x = y
 | z :: D, hx, hy, h => by
  have h : (if z = x then 0 else ixS x D + 1) = (if z = y then 0 else ixS y D + 1) := h
  by_cases ex : z = x
  ·by_cases ey : z = y
   ·rw [← ex, ← ey]
   ·rw [if_pos ex, if_neg ey] at h; omega
  ·by_cases ey : z = y
   ·rw [if_neg ex, if_pos ey] at h; omega
   ·rw [if_neg ex, if_neg ey] at h
    exact ixS_inj ((List.mem_cons.1 hx).resolve_left fun e => ex e.symm) ((List.mem_cons.1 hy).resolve_left fun e => ey e.symm) (by omega)
theorem ixS_all : ∀ {D : List S}, D.Nodup → ∀ i, i < D.length → ∃ x ∈ D, ixS x D = i
 | [], _, i, h => by simp at h
 | y :: D, hn, 0, _ => ⟨y, by simp, if_pos rfl⟩
 | y :: D, hn, i + 1, h => by
  obtain ⟨hy, hD⟩ := List.nodup_cons.1 hn
  obtain ⟨x, hx, e⟩ := ixS_all hD i (by simpa using h)
  refine ⟨x, by simp [hx], ?_⟩
  show (if y = x then 0 else ixS x D + 1) = _
  rw [if_neg fun e' => hy (by rw [e']; exact hx), e]
theorem insS_mem {D : List S} {x y : S} : y ∈ insS D x ↔ y ∈ D ∨ y = x := by
 unfold insS
 by_cases h : x ∈ D
 ·rw [if_pos h]
  exact ⟨.inl, fun h' => h'.elim id fun e => by rw [e]; exact h⟩
 ·rw [if_neg h]; simp
theorem insS_nodup {D : List S} {x : S} (hD : D.Nodup) : (insS D x).Nodup := by
 unfold insS
 by_cases h : x ∈ D
 ·rw [if_pos h]; exact hD
 ·rw [if_neg h]
  refine List.nodup_append.2 ⟨hD, by simp, fun a ha b hb e => ?_⟩
  rw [List.mem_singleton] at hb
  subst hb e
  exact h ha
theorem ddS_snoc (l : List S) (x : S) : ddS (l ++ [x]) = insS (ddS l) x := by unfold ddS; rw [List.foldl_append]; rfl
theorem foldS_mem {y : S} : ∀ (l D : List S), y ∈ l.foldl insS D ↔ y ∈ D ∨ y ∈ l
 | [], D => by simp
 | x :: l, D => by
  show y ∈ l.foldl insS (insS D x) ↔ _
  rw [foldS_mem l, insS_mem, List.mem_cons, or_assoc]
theorem foldS_nodup : ∀ (l D : List S), D.Nodup → (l.foldl insS D).Nodup
 | [], _, h => h
 | x :: l, D, h => foldS_nodup l (insS D x) (insS_nodup h)
theorem foldS_more : ∀ (l D : List S), ∃ E, l.foldl insS D = D ++ E
 | [], D => ⟨[], by simp⟩
 | x :: l, D => by
  obtain ⟨E, e⟩ := foldS_more l (insS D x)
  show ∃ E', l.foldl insS (insS D x) = _
  rw [e]
  unfold insS
  by_cases h : x ∈ D
  ·rw [if_pos h]; exact ⟨E, rfl⟩
  ·rw [if_neg h]; exact ⟨x :: E, by simp⟩
theorem foldS_length : ∀ (l D : List S), (l.foldl insS D).length ≤ D.length + l.length
 | [], _ => Nat.le_refl _
 | x :: l, D => by
  have h := foldS_length l (insS D x)
  have : (insS D x).length ≤ D.length + 1 := by
   unfold insS
   by_cases h : x ∈ D
   ·rw [if_pos h]; omega
   ·rw [if_neg h]; simp
  show (l.foldl insS (insS D x)).length ≤ _
  rw [List.length_cons]
  omega
theorem ddS_mem {l : List S} {y : S} : y ∈ ddS l ↔ y ∈ l := by
 unfold ddS
 rw [foldS_mem]
 simp
theorem ddS_nodup (l : List S) : (ddS l).Nodup := foldS_nodup l [] List.nodup_nil
theorem ddS_length (l : List S) : (ddS l).length ≤ l.length := by
 have := foldS_length l ([] : List S)
 simpa [ddS] using this
theorem ddS_ix {l m : List S} {x : S} (h : x ∈ l) : ixS x (ddS (l ++ m)) = ixS x (ddS l) := by
 obtain ⟨E, e⟩ := foldS_more m (ddS l)
 have : ddS (l ++ m) = ddS l ++ E := by unfold ddS at e ⊢; rw [List.foldl_append, e]
 rw [this, ixS_app (ddS_mem.2 h)]
end
theorem all_nodup : ∀ {n : Nat} {l : List Nat}, (∀ i, i < n → i ∈ l) → n ≤ l.length ∧ (l.length = n → l.Nodup) := fun {n l} h => by
 have key : ∀ m : List Nat, (∀ i, i < n → i ∈ m) → n ≤ m.length := fun m hm => by
  have := nodup_length (l := List.range n) (U := m) List.nodup_range (fun x hx => hm x (List.mem_range.1 hx))
  simpa using this
 refine ⟨key l h, fun e => ?_⟩
 apply Classical.byContradiction
 intro hn
 have : ∃ x a b, l = a ++ x :: b ∧ (x ∈ a ∨ x ∈ b) := by
  clear h key e
  induction l with
  | nil => exact absurd List.nodup_nil hn
  | cons x l ih =>
   by_cases hx : x ∈ l
   ·exact ⟨x, [], l, rfl, .inr hx⟩
   ·obtain ⟨y, a, b, e, hy⟩ := ih fun h => hn (List.nodup_cons.2 ⟨hx, h⟩)
    exact ⟨y, x :: a, b, by rw [e]; rfl, hy.imp (fun h => List.mem_cons_of_mem _ h) id⟩
 obtain ⟨x, a, b, e2, hx⟩ := this
 have := key (a ++ b) fun i hi => by
  have := h i hi
  rw [e2] at this
  rcases List.mem_append.1 this with h1 | h1
  ·exact List.mem_append_left _ h1
  ·rcases List.mem_cons.1 h1 with h2 | h2
   ·subst h2
    rcases hx with hx | hx
    ·exact List.mem_append_left _ hx
    ·exact List.mem_append_right _ hx
   ·exact List.mem_append_right _ h2
 rw [e2] at e
 simp at e this
 omega
abbrev Sta := Nat × Nat
def vAt (vs : List Vers) (n : Nat) : Vers := vs.getD n []
def stS (vs : List Vers) (p : Sta) (c : Nat) : Sta := (p.1, (mv (vAt vs p.1) p.2 c).1.toNat)
def ouS (vs : List Vers) (p : Sta) (c : Nat) : Int := (mv (vAt vs p.1) p.2 c).2
def rowS (vs : List Vers) (n : Nat) : List Sta := (List.range (vAt vs n).length).map fun s => (n, s)
def allP (vs : List Vers) : List Sta := (List.range vs.length).flatMap (rowS vs)
theorem rowS_mem {vs : List Vers} {n : Nat} {p : Sta} : p ∈ rowS vs n ↔ p.1 = n ∧ p.2 < (vAt vs n).length := by
 unfold rowS
 rw [List.mem_map]
 constructor
 ·rintro ⟨s, hs, rfl⟩
  exact ⟨rfl, List.mem_range.1 hs⟩
 ·rintro ⟨h1, h2⟩
  exact ⟨p.2, List.mem_range.2 h2, by rw [← h1]⟩
theorem allP_mem {vs : List Vers} {p : Sta} : p ∈ allP vs ↔ p.1 < vs.length ∧ p.2 < (vAt vs p.1).length := by
 unfold allP
 rw [List.mem_flatMap]
 constructor
 ·rintro ⟨n, hn, hp⟩
  obtain ⟨h1, h2⟩ := rowS_mem.1 hp
  rw [h1]
  exact ⟨List.mem_range.1 hn, h2⟩
 ·rintro ⟨h1, h2⟩
  exact ⟨p.1, List.mem_range.2 h1, rowS_mem.2 ⟨rfl, h2⟩⟩
def sgC (vs : List Vers) (cl : Sta → Nat) (p : Sta) (K c : Nat) : List Int := if c < K then [ouS vs p c, (cl (stS vs p c) : Nat)] else [0, 0]
def sgn (vs : List Vers) (K : Nat) (cl : Sta → Nat) (p : Sta) : List Int := ((cl p : Nat) : Int) :: (sgC vs cl p K 0 ++ (sgC vs cl p K 1 ++ (sgC vs cl p K 2 ++ sgC vs cl p K 3)))
theorem sgC_length (vs : List Vers) (cl : Sta → Nat) (p : Sta) (K c : Nat) : (sgC vs cl p K c).length = 2 := by unfold sgC; split <;> rfl
theorem sgC_eq {vs : List Vers} {cl : Sta → Nat} {p q : Sta} {K c : Nat} : sgC vs cl p K c = sgC vs cl q K c ↔ (c < K → ouS vs p c = ouS vs q c ∧ cl (stS vs p c) = cl (stS vs q c)) := by
 unfold sgC
 by_cases h : c < K
 ·rw [if_pos h, if_pos h]
  simp only [List.cons.injEq, and_true]
  exact ⟨fun ⟨h1, h2⟩ _ => ⟨h1, by omega⟩, fun h' => ⟨(h' h).1, by rw [(h' h).2]⟩⟩
 ·rw [if_neg h, if_neg h]
  exact ⟨fun _ h' => absurd h' h, fun _ => rfl⟩
theorem sgn_eq {vs : List Vers} {K : Nat} (hK : K ≤ 4) {cl : Sta → Nat} {p q : Sta} : sgn vs K cl p = sgn vs K cl q ↔ cl p = cl q ∧ ∀ c, c < K → ouS vs p c = ouS vs q c ∧ cl (stS vs p c) = cl (stS vs q c) := by
 unfold sgn
 rw [List.cons.injEq]
 have ap : ∀ {a b c d : List Int}, a.length = 2 → c.length = 2 → (a ++ b = c ++ d ↔ a = c ∧ b = d) := fun {a b c d} h1 h2 =>
  ⟨fun h => List.append_inj h (by rw [h1, h2]), fun h => by rw [h.1, h.2]⟩
 rw [ap (sgC_length _ _ _ _ _) (sgC_length _ _ _ _ _), ap (sgC_length _ _ _ _ _) (sgC_length _ _ _ _ _), ap (sgC_length _ _ _ _ _) (sgC_length _ _ _ _ _), sgC_eq, sgC_eq, sgC_eq, sgC_eq]
 constructor
 ·rintro ⟨h0, h1, h2, h3, h4⟩
  refine ⟨by omega, fun c hc => ?_⟩
  have : c = 0 ∨ c = 1 ∨ c = 2 ∨ c = 3 := by omega
  rcases this with rfl | rfl | rfl | rfl
  ·exact h1 hc
  ·exact h2 hc
  ·exact h3 hc
  ·exact h4 hc
 ·rintro ⟨h0, h⟩
  exact ⟨by rw [h0], h 0, h 1, h 2, h 3⟩
section
variable (vs : List Vers) (K : Nat)
def clR : Nat → Sta → Nat
 | 0, _ => 0
 | r + 1, p => ixS (sgn vs K (clR r) p) (ddS ((allP vs).map (sgn vs K (clR r))))
def nuR (r : Nat) : List (List Int) := ddS ((allP vs).map (sgn vs K (clR vs K r)))
def manyR : Nat → Nat
 | 0 => 1
 | r + 1 => (nuR vs K r).length
end
section
variable {vs : List Vers} {K : Nat}
theorem sgn_mem {r : Nat} {p : Sta} (h : p ∈ allP vs) : sgn vs K (clR vs K r) p ∈ nuR vs K r := ddS_mem.2 (List.mem_map.2 ⟨p, h, rfl⟩)
theorem clR_succ {r : Nat} {p q : Sta} (hp : p ∈ allP vs) (hq : q ∈ allP vs) : clR vs K (r + 1) p = clR vs K (r + 1) q ↔ sgn vs K (clR vs K r) p = sgn vs K (clR vs K r) q :=
 ⟨fun h => ixS_inj (sgn_mem hp) (sgn_mem hq) h, fun h => by
  show ixS _ _ = ixS _ _
  rw [h]⟩
variable (hv : ∀ v ∈ vs, VersOk v K)
include hv
theorem stS_mem {p : Sta} (hp : p ∈ allP vs) {c : Nat} (hc : c < K) : stS vs p c ∈ allP vs := by
 obtain ⟨h1, h2⟩ := allP_mem.1 hp
 have e : vAt vs p.1 = vs[p.1] := by simp [vAt, List.getD, List.getElem?_eq_getElem h1]
 have hm : vAt vs p.1 ∈ vs := by rw [e]; exact List.getElem_mem h1
 obtain ⟨_, _, _, h3, _⟩ := mv_at (hv _ hm) h2 hc
 exact allP_mem.2 ⟨h1, h3⟩
theorem clR_eq (hK : K ≤ 4) : ∀ (r : Nat) {p q : Sta}, p ∈ allP vs → q ∈ allP vs → (clR vs K r p = clR vs K r q ↔ eqM (stS vs) (ouS vs) K r p q)
 | 0, p, q, _, _ => ⟨fun _ l _ h => by
  obtain rfl := List.length_eq_zero_iff.1 (by omega : l.length = 0)
  rfl, fun _ => rfl⟩
 | r + 1, p, q, hp, hq => by
  rw [clR_succ hp hq, sgn_eq hK, eqM_succ, clR_eq hK r hp hq]
  constructor
  ·rintro ⟨_, h2⟩
   exact ⟨fun c hc => (h2 c hc).1, fun c hc => (clR_eq hK r (stS_mem hv hp hc) (stS_mem hv hq hc)).1 (h2 c hc).2⟩
  ·rintro ⟨h1, h2⟩
   exact ⟨(eqM_succ.2 ⟨h1, h2⟩ : eqM (stS vs) (ouS vs) K (r + 1) p q).less (Nat.le_succ _), fun c hc => ⟨h1 c hc, (clR_eq hK r (stS_mem hv hp hc) (stS_mem hv hq hc)).2 (h2 c hc)⟩⟩
omit hv
theorem clR_all (hne : allP vs ≠ []) : ∀ (r i : Nat), i < manyR vs K r → ∃ p ∈ allP vs, clR vs K r p = i
 | 0, i, h => by
  have h : i < 1 := h
  obtain ⟨p, hp⟩ := List.exists_mem_of_ne_nil _ hne
  exact ⟨p, hp, by show 0 = i; omega⟩
 | r + 1, i, h => by
  obtain ⟨x, hx, e⟩ := ixS_all (ddS_nodup ((allP vs).map (sgn vs K (clR vs K r)))) i h
  obtain ⟨p, hp, rfl⟩ := List.mem_map.1 (ddS_mem.1 hx)
  exact ⟨p, hp, e⟩
theorem many_le (r : Nat) : manyR vs K (r + 1) ≤ (allP vs).length := by
 have := ddS_length ((allP vs).map (sgn vs K (clR vs K r)))
 rwa [List.length_map] at this
theorem heads (hne : allP vs ≠ []) (r : Nat) : manyR vs K r ≤ manyR vs K (r + 1) ∧ (manyR vs K (r + 1) = manyR vs K r → ((nuR vs K r).map fun l => (l.headD 0).toNat).Nodup) := by
 have := all_nodup (n := manyR vs K r) (l := (nuR vs K r).map fun l => (l.headD 0).toNat) fun i hi => by
  obtain ⟨p, hp, e⟩ := clR_all hne r i hi
  refine List.mem_map.2 ⟨_, sgn_mem (r := r) hp, ?_⟩
  show ((clR vs K r p : Nat) : Int).toNat = i
  rw [Int.toNat_natCast, e]
 rw [List.length_map] at this
 exact this
include hv
theorem stable (hK : K ≤ 4) (hne : allP vs ≠ []) {r : Nat} (h : manyR vs K (r + 1) = manyR vs K r) {p q : Sta} (hp : p ∈ allP vs) (hq : q ∈ allP vs) :
  clR vs K (r + 1) p = clR vs K (r + 1) q ↔ ∀ l, OkL K l → trM (stS vs) (ouS vs) p l = trM (stS vs) (ouS vs) q l := by
 have hn := (heads hne r).2 h
 have same : ∀ p ∈ allP vs, ∀ q ∈ allP vs, clR vs K r p = clR vs K r q → clR vs K (r + 1) p = clR vs K (r + 1) q := fun p hp q hq e => by
  rw [clR_succ hp hq]
  have h1 := sgn_mem (K := K) (r := r) hp
  have h2 := sgn_mem (K := K) (r := r) hq
  obtain ⟨i, hi, ei⟩ := List.getElem_of_mem h1
  obtain ⟨j, hj, ej⟩ := List.getElem_of_mem h2
  have hij : i = j := by
   refine (List.getElem_inj (h₀ := by simpa using hi) (h₁ := by simpa using hj) hn).1 ?_
   rw [List.getElem_map, List.getElem_map, ei, ej]
   show ((clR vs K r p : Nat) : Int).toNat = ((clR vs K r q : Nat) : Int).toNat
   rw [e]
  subst hij
  rw [← ei, ← ej]
 have hst : StM (stS vs) (ouS vs) K (allP vs) r := fun e he f hf hef => (clR_eq hv hK (r + 1) he hf).1 (same e he f hf ((clR_eq hv hK r he hf).2 hef))
 rw [clR_eq hv hK (r + 1) hp hq]
 constructor
 ·intro h2 l hl
  exact hst.all (fun e he c hc => stS_mem hv he hc) hp hq (h2.less (Nat.le_succ _)) l.length l hl (by omega)
 ·exact fun h2 l hl _ => h2 l hl
omit hv
theorem many_grows (hne : allP vs ≠ []) : ∀ r : Nat, (∀ q, q < r → manyR vs K (q + 1) ≠ manyR vs K q) → r + 1 ≤ manyR vs K r
 | 0, _ => Nat.le_refl _
 | r + 1, h => by
  have ih := many_grows hne r fun q hq => h q (by omega)
  have := (heads (K := K) hne r).1
  have := h r (by omega)
  omega
end
end Go.Vm

namespace Go.Vm
open Go.Proofs
def intV (l : List Int) : Value := .agg (l.map fun x => Value.int .i64 x).toArray
def kE (es : List (List Int × Int)) : List (Value × AV) := es.map fun p => (intV p.1, n' p.2)
def lookI (es : List (List Int × Int)) (k : List Int) : Option Int := (es.find? fun p => decide (p.1 = k)).map (·.2)
theorem veqs_ints : ∀ {a b : List Int}, veqs (a.map fun x => Value.int .i64 x) (b.map fun x => Value.int .i64 x) = decide (a = b)
 | [], [] => rfl
 | [], _ :: _ => rfl
 | _ :: _, [] => rfl
 | x :: a, y :: b => by
  show (decide (x = y) && veqs (a.map fun x => Value.int .i64 x) (b.map fun x => Value.int .i64 x)) = _
  rw [veqs_ints, Bool.eq_iff_iff, Bool.and_eq_true, decide_eq_true_iff, decide_eq_true_iff, decide_eq_true_iff, List.cons.injEq]
theorem veq_ints (a b : List Int) : veq (intV a) (intV b) = decide (a = b) := by
 show veqs (a.map fun x => Value.int .i64 x).toArray.toList (b.map fun x => Value.int .i64 x).toArray.toList = _
 exact veqs_ints
theorem mlook_ints (k : List Int) : ∀ es, mlook (kE es) (intV k) = (lookI es k).map n'
 | [] => rfl
 | p :: es => by
  have ih := mlook_ints k es
  unfold mlook lookI kE at ih ⊢
  rw [List.map_cons, List.find?_cons, List.find?_cons]
  simp only [veq_ints]
  by_cases h : p.1 = k
  ·simp [h]
  ·simp only [h, decide_false]
   exact ih
theorem lookI_none {es : List (List Int × Int)} {k : List Int} (h : ∀ p ∈ es, p.1 ≠ k) : lookI es k = none := by
 unfold lookI
 rw [List.find?_eq_none.2 fun p hp => by simp [h p hp]]
 rfl
theorem mset_ints {k : List Int} {x : Int} : ∀ {es : List (List Int × Int)}, (∀ p ∈ es, p.1 ≠ k) → mset (kE es) (intV k) (n' x) = kE (es ++ [(k, x)])
 | [], _ => rfl
 | p :: es, h => by
  show (if veq (intV p.1) (intV k) = true then (intV p.1, n' x) :: kE es else (intV p.1, n' p.2) :: mset (kE es) (intV k) (n' x)) = _
  rw [veq_ints, decide_eq_false (h p (by simp)), mset_ints fun q hq => h q (by simp [hq])]
  rfl
theorem shOk_ints {N : Nat} {k : List Int} (hN : k.length = N) (hb : ∀ x ∈ k, -1 ≤ x ∧ x ≤ 1000) : shOk (.arr N) (intV k) = true := by
 show (((k.map fun x => Value.int .i64 x).toArray.toList.length == N) && (k.map fun x => Value.int .i64 x).toArray.toList.all isI64) = true
 rw [Bool.and_eq_true]
 refine ⟨by simp [hN], ?_⟩
 rw [List.all_eq_true]
 intro v hv
 obtain ⟨x, hx, rfl⟩ := List.mem_map.1 hv
 exact isI64_small (hb x hx)
theorem concs_ints : ∀ k : List Int, concs (k.map n') = some (k.map fun x => Value.int .i64 x)
 | [] => rfl
 | x :: k => by
  show (concs (k.map n')).map (Value.int .i64 x :: ·) = _
  rw [concs_ints k]
  rfl
theorem conc_ints (k : List Int) : conc (.agg (k.map n')) = some (intV k) := by
 show (concs (k.map n')).map (fun l => Value.agg l.toArray) = _
 rw [concs_ints]
 rfl
theorem aop_lookK {P : Program} {m : Bool} {g : Nat → Option Blk} {n : Nat} {ρ : Operand → Option AV} {o : Oper} {t kt et id N : Nat} {x k : Operand} {key : List Int} {es : List (List Int × Int)} {v : Int} (ho : o.op = .lookup t x k false) (hx : ρ x = some (.mp id)) (hk : ρ k = some (.agg (key.map n'))) (hg : g id = some (.map (.arr N) (kE es)))
  (ht : tmap P t = some (.arr N, kt, et)) (hz : tz P et = some (.int .i64 0)) (hN : key.length = N) (hb : ∀ x ∈ key, -1 ≤ x ∧ x ≤ 1000) (hf : lookI es key = some v) : aopF P m g n ρ o = some (.val (n' v) .same) := by
 rw [aopF_fun]
 obtain ⟨dst, op, ty, pos, after, guard⟩ := o
 simp only at ho
 subst ho
 simp only [aopT, hx, hk, ht, conc_ints, hg, hz, mlook_ints, hf]
 rw [if_pos ⟨by simp [KeyShape.same], shOk_ints hN hb⟩]
 rfl
theorem aop_lookK2 {P : Program} {m : Bool} {g : Nat → Option Blk} {n : Nat} {ρ : Operand → Option AV} {o : Oper} {t kt et id N : Nat} {x k : Operand} {key : List Int} {es : List (List Int × Int)} {v : Int} (ho : o.op = .lookup t x k true) (hx : ρ x = some (.mp id)) (hk : ρ k = some (.agg (key.map n'))) (hg : g id = some (.map (.arr N) (kE es)))
  (ht : tmap P t = some (.arr N, kt, et)) (hz : tz P et = some (.int .i64 0)) (hN : key.length = N) (hb : ∀ x ∈ key, -1 ≤ x ∧ x ≤ 1000) (hf : lookI es key = some v) : aopF P m g n ρ o = some (.val (.tup [n' v, .lit (.bool true)]) .same) := by
 rw [aopF_fun]
 obtain ⟨dst, op, ty, pos, after, guard⟩ := o
 simp only at ho
 subst ho
 simp only [aopT, hx, hk, ht, conc_ints, hg, hz, mlook_ints, hf]
 rw [if_pos ⟨by simp [KeyShape.same], shOk_ints hN hb⟩]
 rfl
theorem aop_lookN2 {P : Program} {m : Bool} {g : Nat → Option Blk} {n : Nat} {ρ : Operand → Option AV} {o : Oper} {t kt et id N : Nat} {x k : Operand} {key : List Int} {es : List (List Int × Int)} (ho : o.op = .lookup t x k true) (hx : ρ x = some (.mp id)) (hk : ρ k = some (.agg (key.map n'))) (hg : g id = some (.map (.arr N) (kE es)))
  (ht : tmap P t = some (.arr N, kt, et)) (hz : tz P et = some (.int .i64 0)) (hN : key.length = N) (hb : ∀ x ∈ key, -1 ≤ x ∧ x ≤ 1000) (hf : lookI es key = none) : aopF P m g n ρ o = some (.val (.tup [n' 0, .lit (.bool false)]) .same) := by
 rw [aopF_fun]
 obtain ⟨dst, op, ty, pos, after, guard⟩ := o
 simp only at ho
 subst ho
 simp only [aopT, hx, hk, ht, conc_ints, hg, hz, mlook_ints, hf]
 rw [if_pos ⟨by simp [KeyShape.same], shOk_ints hN hb⟩]
 rfl
theorem aop_setK {P : Program} {m : Bool} {g : Nat → Option Blk} {n : Nat} {ρ : Operand → Option AV} {o : Oper} {t kt et id N : Nat} {x k y : Operand} {key : List Int} {es : List (List Int × Int)} {v : Int} (ho : o.op = .mapUpdate t x k y) (hx : ρ x = some (.mp id)) (hk : ρ k = some (.agg (key.map n'))) (hy : ρ y = some (n' v)) (hg : g id = some (.map (.arr N) (kE es)))
  (ht : tmap P t = some (.arr N, kt, et)) (hN : key.length = N) (hb : ∀ x ∈ key, -1 ≤ x ∧ x ≤ 1000) (hf : ∀ p ∈ es, p.1 ≠ key) : aopF P m g n ρ o = some (.val (.lit undef) (.set id (.map (.arr N) (kE (es ++ [(key, v)]))))) := by
 rw [aopF_fun]
 obtain ⟨dst, op, ty, pos, after, guard⟩ := o
 simp only at ho
 subst ho
 simp only [aopT, hx, hk, hy, ht, conc_ints, hg, mset_ints hf]
 rw [if_pos ⟨by simp [KeyShape.same], shOk_ints hN hb⟩]
def cE (l : List Sta) (cl : Sta → Nat) : List (List Int × Int) := l.map fun p => ([(p.1 : Int), (p.2 : Int)], ((cl p : Nat) : Int))
theorem cE_snoc (l : List Sta) (p : Sta) (cl : Sta → Nat) : cE (l ++ [p]) cl = cE l cl ++ [([(p.1 : Int), (p.2 : Int)], ((cl p : Nat) : Int))] := by unfold cE; rw [List.map_append]; rfl
theorem cE_look {cl : Sta → Nat} {n s : Nat} : ∀ {l : List Sta}, (n, s) ∈ l → lookI (cE l cl) [(n : Int), (s : Int)] = some ((cl (n, s) : Nat) : Int)
 | p :: l, h => by
  unfold lookI cE
  rw [List.map_cons, List.find?_cons]
  by_cases e : p = (n, s)
  ·subst e
   simp
  ·have hne : ¬ ([(p.1 : Int), (p.2 : Int)] = [(n : Int), (s : Int)]) := fun h' => e (by
    simp only [List.cons.injEq, and_true] at h'
    exact Prod.ext (by omega) (by omega))
   simp only [hne, decide_false]
   exact cE_look ((List.mem_cons.1 h).resolve_left fun e' => e e'.symm)
theorem cE_new {cl : Sta → Nat} {n s : Nat} {l : List Sta} (h : (n, s) ∉ l) : ∀ p ∈ cE l cl, p.1 ≠ [(n : Int), (s : Int)] := fun p hp e => by
 obtain ⟨q, hq, rfl⟩ := List.mem_map.1 hp
 refine h ?_
 simp only [List.cons.injEq, and_true] at e
 have : q = (n, s) := Prod.ext (by omega) (by omega)
 rw [← this]; exact hq
def nE : List (List Int) → Nat → List (List Int × Int)
 | [], _ => []
 | x :: D, i => (x, (i : Int)) :: nE D (i + 1)
theorem nE_length : ∀ (D : List (List Int)) (i : Nat), (nE D i).length = D.length
 | [], _ => rfl
 | _ :: D, i => by show (nE D (i + 1)).length + 1 = _; rw [nE_length D]; rfl
theorem nE_snoc (x : List Int) : ∀ (D : List (List Int)) (i : Nat), nE (D ++ [x]) i = nE D i ++ [(x, ((i + D.length : Nat) : Int))]
 | [], _ => rfl
 | y :: D, i => by
  show (y, (i : Int)) :: nE (D ++ [x]) (i + 1) = (y, (i : Int)) :: (nE D (i + 1) ++ [(x, ((i + (D.length + 1) : Nat) : Int))])
  rw [nE_snoc x D, show i + 1 + D.length = i + (D.length + 1) by omega]
theorem nE_look {x : List Int} : ∀ {D : List (List Int)} {i : Nat}, x ∈ D → lookI (nE D i) x = some ((i + ixS x D : Nat) : Int)
 | y :: D, i, h => by
  unfold lookI nE
  rw [List.find?_cons]
  by_cases e : y = x
  ·subst e
   simp [ixS]
  ·simp only [e, decide_false]
   have := nE_look (D := D) (i := i + 1) ((List.mem_cons.1 h).resolve_left fun e' => e e'.symm)
   unfold lookI at this
   rw [this]
   show _ = some ((i + (if y = x then 0 else ixS x D + 1) : Nat) : Int)
   rw [if_neg e, show i + 1 + ixS x D = i + (ixS x D + 1) by omega]
theorem nE_keys {x : List Int} : ∀ {D : List (List Int)} {i : Nat}, x ∉ D → ∀ p ∈ nE D i, p.1 ≠ x
 | y :: D, i, h, p, hp, e => by
  rcases List.mem_cons.1 hp with h1 | h1
  ·subst h1
   exact h (by rw [← e]; simp)
  ·exact nE_keys (D := D) (i := i + 1) (fun h' => h (by simp [h'])) p h1 e
def preP (vs : List Vers) (n s : Nat) : List Sta := (List.range n).flatMap (rowS vs) ++ (List.range s).map fun s => (n, s)
theorem preP_succ (vs : List Vers) (n s : Nat) : preP vs n (s + 1) = preP vs n s ++ [(n, s)] := by
 unfold preP
 rw [List.range_succ, List.map_append, List.append_assoc]
 rfl
theorem preP_row (vs : List Vers) (n : Nat) : preP vs (n + 1) 0 = preP vs n (vAt vs n).length := by
 unfold preP
 rw [List.range_succ, List.flatMap_append, List.flatMap_cons, List.flatMap_nil, List.append_nil, List.range_zero, List.map_nil, List.append_nil]
 rfl
theorem preP_all (vs : List Vers) : preP vs vs.length 0 = allP vs := by
 unfold preP allP
 rw [List.range_zero, List.map_nil, List.append_nil]
theorem preP_mem {vs : List Vers} {n s : Nat} {p : Sta} : p ∈ preP vs n s ↔ (p.1 < n ∧ p.2 < (vAt vs p.1).length) ∨ (p.1 = n ∧ p.2 < s) := by
 unfold preP
 rw [List.mem_append, List.mem_flatMap, List.mem_map]
 constructor
 ·rintro (⟨m, hm, hp⟩ | ⟨q, hq, rfl⟩)
  ·obtain ⟨h1, h2⟩ := rowS_mem.1 hp
   subst h1
   exact .inl ⟨List.mem_range.1 hm, h2⟩
  ·exact .inr ⟨rfl, List.mem_range.1 hq⟩
 ·rintro (⟨h1, h2⟩ | ⟨h1, h2⟩)
  ·exact .inl ⟨p.1, List.mem_range.2 h1, rowS_mem.2 ⟨rfl, h2⟩⟩
  ·exact .inr ⟨p.2, List.mem_range.2 h2, by rw [← h1]⟩
theorem preP_new {vs : List Vers} {n s : Nat} : (n, s) ∉ preP vs n s := fun h => by
 rcases preP_mem.1 h with ⟨h1, _⟩ | ⟨_, h1⟩ <;> simp at h1
theorem flat_more {vs : List Vers} : ∀ {n m : Nat}, n ≤ m → ∃ R, (List.range m).flatMap (rowS vs) = (List.range n).flatMap (rowS vs) ++ R := fun {n m} h => by
 obtain ⟨d, rfl⟩ := Nat.exists_eq_add_of_le h
 rw [List.range_add, List.flatMap_append]
 exact ⟨_, rfl⟩
theorem preP_more {vs : List Vers} {n s : Nat} (hn : n < vs.length) (hs : s ≤ (vAt vs n).length) : ∃ R, allP vs = preP vs n s ++ R := by
 obtain ⟨R, h⟩ := flat_more (vs := vs) (n := n + 1) (m := vs.length) (by omega)
 obtain ⟨d, hd⟩ := Nat.exists_eq_add_of_le hs
 refine ⟨(List.range d).map (fun x => (n, s + x)) ++ R, ?_⟩
 show (List.range vs.length).flatMap (rowS vs) = _
 rw [h, List.range_succ, List.flatMap_append, List.flatMap_cons, List.flatMap_nil, List.append_nil]
 unfold preP
 have : rowS vs n = (List.range s).map (fun x => (n, x)) ++ (List.range d).map (fun x => (n, s + x)) := by
  unfold rowS
  rw [hd, List.range_add, List.map_append, List.map_map]
  rfl
 rw [this]
 simp [List.append_assoc]
end Go.Vm

namespace Go.Vm
open Go.Proofs
theorem lits_rel {O O' : Outer} {S S' : Sit} : ∀ {xs : List AV} {cs : List Value}, (∀ a ∈ xs, ∃ v, a = .lit v) → @VRels O S xs cs → @VRels O' S' xs cs
 | [], [], _, _ => by simp [VRels]
 | [], _ :: _, _, x => by simp [VRels] at x
 | _ :: _, [], _, x => by simp [VRels] at x
 | a :: xs, c :: cs, h, x => by
  simp only [VRels] at x ⊢
  obtain ⟨v, rfl⟩ := h a (by simp)
  have x1 := x.1
  simp only [VRel] at x1 ⊢
  exact ⟨x1, lits_rel (fun a ha => h a (by simp [ha])) x.2⟩
theorem map_moved {O O' : Outer} {S S' : Sit} {b wm wm' : Nat} {sh : KeyShape} {es : List (Value × AV)} (h : @BlkRel O S b wm (.map sh es)) (hes : ∀ p ∈ es, ∃ v, p.2 = .lit v) (hw : S'.w = S.w) : @BlkRel O' S' b wm' (.map sh es) := by
 obtain ⟨E, c, h1, ⟨es2, hp, k1, k2⟩, keys, nodup, stamps, born⟩ := h
 refine ⟨E, c, by rw [hw]; exact h1, ⟨es2, hp, k1, ?_⟩, keys, nodup, stamps, born⟩
 refine lits_rel (fun a ha => ?_) k2
 obtain ⟨p, hp2, rfl⟩ := List.mem_map.1 ha
 exact hes p (hp.mem_iff.1 hp2)
theorem ACall.frame_map {P : Program} {f : FuncId} {args : List AV} {sh : KeyShape} {es : List (Value × AV)} (h : ACall P f args [] (.ret (.mp 0)) [.map sh es]) (ha : AV.unders 0 args) (hes : ∀ p ∈ es, ∃ v, p.2 = .lit v) (H : List Blk) : ACall P f args H (.ret (.mp H.length)) (H ++ [.map sh es]) := by
 intro O ι w cs hR hargs
 have hR1 : @Rel O ⟨H, ι, w⟩ := hR
 have cut_none : ∀ {id : Nat} {p : Nat × Nat}, cutι ι 0 id = some p → False := fun {id p} e => by simp [cutι] at e
 have spec1 : ∀ {id b wm : Nat}, ι id = some (b, wm) → (hideO O H ι 0).out b = some (match H[id]? with | some (.row _) => some wm | _ => none) := fun hi => hideO_named hR1.inj (Nat.zero_le _) hi
 have spec2 : ∀ {b : Nat}, (∀ id wm, ι id ≠ some (b, wm)) → (hideO O H ι 0).out b = O.out b := fun hx => hideO_other fun id wm _ => hx id wm
 have p0 : Pass O (hideO O H ι 0) H [] ι (cutι ι 0) w 0 := by
  refine ⟨fun id hlt => absurd hlt (Nat.not_lt_zero _), fun id hlt => absurd hlt (Nat.not_lt_zero _), fun b lim hF => ?_⟩
  obtain ⟨C, t, f, a, hl, r, ro⟩ := hF
  refine ⟨C, t, f, a, hl, fun id wm e => (cut_none (id := id) e).elim, fun x e => ?_⟩
  by_cases hx : ∃ id wm, ι id = some (b, wm)
  ·obtain ⟨id, wm, hi⟩ := hx
   rw [spec1 hi] at e
   obtain ⟨⟨g, hg⟩, hlw⟩ := r id wm hi
   have hg' : H[id]? = some (.row g) := hg
   rw [hg'] at e
   cases e
   exact ⟨wm, rfl, hlw⟩
  ·rw [spec2 fun id wm hi => hx ⟨id, wm, hi⟩] at e
   exact ro x e
 have hR0 : @Rel (hideO O H ι 0) ⟨[], cutι ι 0, w⟩ := by
  refine @Rel.mk (hideO O H ι 0) _ (fun id b wm e => (cut_none (id := id) e).elim) (fun i j b wm wm' ei ej => (cut_none (id := i) ei).elim) (fun b x e => ⟨?_, fun i wm1 e1 => cut_none (id := i) e1⟩)
  by_cases hx : ∃ id wm, ι id = some (b, wm)
  ·obtain ⟨id, wm, hi⟩ := hx
   exact hR1.block hi
  ·have e' : O.out b = some x := by rw [← spec2 fun id wm hi => hx ⟨id, wm, hi⟩]; exact e
   exact (hR1.out b x e').1
 have hargs0 := VRels.pass p0 args cs.toList ha hargs
 have hcall := h (hideO O H ι 0) (cutι ι 0) w cs hR0 hargs0
 refine hcall.mono ?_
 rintro e w' ⟨ι', hend, hR', hev, hnon⟩
 have hR1' : @Rel (hideO O H ι 0) ⟨[.map sh es], ι', w'⟩ := hR'
 have hsame : ∀ {id b wm : Nat}, ι id = some (b, wm) → w'.heap[b]? = w.heap[b]? := fun hi => @Ev.out (hideO O H ι 0) _ _ hev _ _ (spec1 hi)
 have nohide : ∀ {b : Nat} {x : Option Nat}, O.out b = some x → (hideO O H ι 0).out b = some x := fun {b x} e => by
  rw [spec2 fun id wm hi => (hR1.out b x e).2 id wm hi]; exact e
 obtain ⟨ι2, hι2⟩ : ∃ ι2 : Nat → Option (Nat × Nat), ι2 = fun id => if id < H.length then ι id else if id = H.length then ι' 0 else none := ⟨_, rfl⟩
 have nlt : ∀ id, id < H.length → ι2 id = ι id := fun id hlt => by rw [hι2]; simp [hlt]
 have nat0 : ι2 H.length = ι' 0 := by rw [hι2]; simp
 have ngt : ∀ id, H.length < id → ι2 id = none := fun id hlt => by
  rw [hι2]
  show (if id < H.length then ι id else if id = H.length then ι' 0 else none) = none
  rw [if_neg (by omega), if_neg (by omega)]
 have look : ∀ id, id < H.length → (H ++ [Blk.map sh es])[id]? = H[id]? := fun id hlt => List.getElem?_append_left hlt
 have last : (H ++ [Blk.map sh es])[H.length]? = some (.map sh es) := by simp
 have hrest : Rest w w' := @Ev.rest (hideO O H ι 0) _ _ hev
 have hev' : @Ev O ⟨H, ι, w⟩ ⟨H ++ [.map sh es], ι2, w'⟩ := by
  refine @Ev.mk O _ _ (fun id hn => ?_) (fun b lim hF => ?_) (fun id g0 hg => ?_) (fun id g0 c0 hg => ?_) (fun b x e => @Ev.out (hideO O H ι 0) _ _ hev b x (nohide e)) hrest
  ·obtain ⟨B, hB, hr⟩ := hn
   have hlt := (List.getElem?_eq_some_iff.1 hB).1
   exact ⟨⟨B, (look id hlt).trans hB, hr⟩, fun b wm e => ⟨wm, (nlt id hlt).trans e⟩⟩
  ·obtain ⟨k1, k2⟩ := @Ev.fix (hideO O H ι 0) _ _ hev b lim (p0.fix b lim hF)
   refine ⟨?_, k2⟩
   obtain ⟨C, t, f, a, hl, r, ro⟩ := k1
   refine ⟨C, t, f, a, hl, fun id wm e => ?_, fun x e => ro x (nohide e)⟩
   have e1 : ι2 id = some (b, wm) := e
   rcases Nat.lt_trichotomy id H.length with hlt | he | hgt
   ·rw [nlt id hlt] at e1
    obtain ⟨l, hl1, hl2⟩ := ro _ (spec1 e1)
    have key : (∃ g, H[id]? = some (.row g)) ∧ l = wm := by
     split at hl1
     ·rename_i g hg; cases hl1; exact ⟨⟨g, hg⟩, rfl⟩
     ·cases hl1
    obtain ⟨⟨g, hg⟩, rfl⟩ := key
    exact ⟨⟨g, (look id hlt).trans hg⟩, hl2⟩
   ·rw [he, nat0] at e1
    obtain ⟨⟨g, hg⟩, _⟩ := r 0 wm e1
    have hg' : ([Blk.map sh es])[0]? = some (.row g) := hg
    cases hg'
   ·rw [ngt id hgt] at e1
    cases e1
  ·have hlt := (List.getElem?_eq_some_iff.1 hg).1
   exact ⟨g0, (look id hlt).trans hg, Nat.le_refl _, fun _ => ⟨nlt id hlt, fun b wm C t hi hC => ⟨C, t, (hsame hi).trans hC, rfl⟩⟩⟩
  ·have hlt := (List.getElem?_eq_some_iff.1 hg).1
   exact ⟨_, g0, (look id hlt).trans hg, rfl, Nat.le_refl _, fun _ => ⟨⟨c0, rfl⟩, nlt id hlt, fun b wm C t hi hC => ⟨C, t, (hsame hi).trans hC, rfl⟩⟩⟩
 refine ⟨ι2, ?_, ?_, hev', fun id hn hnone => ?_⟩
 ·cases e with
  | returned c =>
   have hend' : @VRel (hideO O H ι 0) ⟨[.map sh es], ι', w'⟩ (.mp 0) c := hend
   simp only [VRel] at hend'
   obtain ⟨b, wm, hi, _, hc⟩ := hend'
   show @VRel O ⟨H ++ [.map sh es], ι2, w'⟩ (.mp H.length) c
   simp only [VRel]
   exact ⟨b, wm, nat0.trans hi, ⟨_, last, rfl⟩, hc⟩
  | panicked chain => exact hend.elim
  | outgrown => exact hend.elim
 ·refine @Rel.mk O _ (fun id b wm e => ?_) (fun i j b wm wm' ei ej => ?_) (fun b x e => ?_)
  ·have e1 : ι2 id = some (b, wm) := e
   rcases Nat.lt_trichotomy id H.length with hlt | he | hgt
   ·rw [nlt id hlt] at e1
    obtain ⟨B, hB, hr⟩ := hR1.blk id b wm e1
    exact ⟨B, (look id hlt).trans hB, hr.ev hev' (hsame e1)⟩
   ·rw [he, nat0] at e1
    obtain ⟨B, hB, hr⟩ := @Rel.blk (hideO O H ι 0) _ hR1' 0 b wm e1
    have hB' : ([Blk.map sh es])[0]? = some B := hB
    cases hB'
    exact ⟨_, by rw [he]; exact last, map_moved hr hes rfl⟩
   ·rw [ngt id hgt] at e1
    cases e1
  ·have ei1 : ι2 i = some (b, wm) := ei
   have ej1 : ι2 j = some (b, wm') := ej
   rcases Nat.lt_trichotomy i H.length with h1 | h1 | h1
   ·rw [nlt i h1] at ei1
    rcases Nat.lt_trichotomy j H.length with h2 | h2 | h2
    ·rw [nlt j h2] at ej1
     exact hR1.inj i j b wm wm' ei1 ej1
    ·rw [h2, nat0] at ej1
     exact absurd ej1 ((@Rel.out (hideO O H ι 0) _ hR1' b _ (spec1 ei1)).2 0 wm')
    ·rw [ngt j h2] at ej1; cases ej1
   ·rw [h1, nat0] at ei1
    rcases Nat.lt_trichotomy j H.length with h2 | h2 | h2
    ·rw [nlt j h2] at ej1
     exact absurd ei1 ((@Rel.out (hideO O H ι 0) _ hR1' b _ (spec1 ej1)).2 0 wm)
    ·rw [h1, h2]
    ·rw [ngt j h2] at ej1; cases ej1
   ·rw [ngt i h1] at ei1; cases ei1
  ·obtain ⟨k1, k2⟩ := @Rel.out (hideO O H ι 0) _ hR1' b x (nohide e)
   refine ⟨k1, fun id wm hi => ?_⟩
   have hi1 : ι2 id = some (b, wm) := hi
   rcases Nat.lt_trichotomy id H.length with h1 | h1 | h1
   ·rw [nlt id h1] at hi1
    exact (hR1.out b x e).2 id wm hi1
   ·rw [h1, nat0] at hi1
    exact k2 0 wm hi1
   ·rw [ngt id h1] at hi1; cases hi1
 ·obtain ⟨B, hB, _⟩ := hn
  have hlt := (List.getElem?_eq_some_iff.1 hB).1
  exact (nlt id hlt).trans hnone
theorem fn_ruleN {P : Program} {m : Bool} {f : FuncId} {fn : Func} {c : Code} {args : List AV} {sh : KeyShape} (Pr : List (Value × AV) → Prop) (hm : P.follows .mixedOrders = true) (hf : P.funcs[f]? = some fn) (hb : fn.body = some c) (hn : args.length ≤ fn.ntmps) (ha : AV.unders 0 args)
  (h : gCode P m fn.ntmps none c (initVars 0 args) .nil 0 [] noLo fun x e _ => (x = .ret ∨ x = .normal) ∧ e.defs = [] ∧ ∃ id es, resT P (get e.t) e.vars fn.results.toList = some [.mp id] ∧ get e.t id = some (.map sh es) ∧ (∀ p ∈ es, ∃ v, p.2 = .lit v) ∧ Pr es) :
  ∃ es, Pr es ∧ ∀ H, ACall P f args H (.ret (.mp H.length)) (H ++ [.map sh es]) := by
 obtain ⟨x, e, lo, H', hH', hk', hrun, hx, hd, id, es, hres, hg, hes, hP⟩ := gCode_spec hm c _ _ _ _ _ _ h [] [] HT.nil (Keep.refl _ _)
 have hcr : ACall P f args [] (.ret (.mp id)) H' := by
  rw [hd] at hrun
  exact ACall.intro_marks hf hb hn hrun hx List.nodup_nil (resT_sound hH' hres)
 have hB := hH'.blk _ _ hg
 refine ⟨es, hP, fun H => ACall.frame_map ?_ ha hes H⟩
 intro O ι w cs hR hargs
 refine (hcr O ι w cs hR hargs).mono ?_
 rintro e w' ⟨ι', hend, hR', hev, hnon⟩
 cases e with
 | panicked chain => exact hend.elim
 | outgrown => exact hend.elim
 | returned c =>
  have hend' : VRel ⟨H', ι', w'⟩ (.mp id) c := hend
  simp only [VRel] at hend'
  obtain ⟨b, wm, hi, _, hc⟩ := hend'
  obtain ⟨ι2, hι2⟩ : ∃ ι2 : Nat → Option (Nat × Nat), ι2 = fun j => if j = 0 then ι' id else none := ⟨_, rfl⟩
  have e0 : ι2 0 = ι' id := by rw [hι2]; rfl
  have es' : ∀ {j : Nat} {p : Nat × Nat}, ι2 j = some p → j = 0 ∧ ι' id = some p := fun {j p} e => by
   by_cases hj : j = 0
   ·subst hj
    exact ⟨rfl, e0 ▸ e⟩
   ·rw [hι2] at e
    simp [hj] at e
  refine ⟨ι2, ?_, ⟨fun j b' wm' e => ?_, fun i j b' wm1 wm2 ei ej => ?_, fun b' x' e => ?_⟩, ⟨fun j hn => ?_, fun b' lim hF => ?_, fun j g0 hg0 => ?_, fun j g0 c0 hg0 => ?_, hev.out, hev.rest⟩, fun j hn => ?_⟩
  ·show VRel ⟨[.map sh es], ι2, w'⟩ (.mp 0) c
   simp only [VRel]
   exact ⟨b, wm, e0.trans hi, ⟨_, rfl, rfl⟩, hc⟩
  ·obtain ⟨hj, e1⟩ := es' e
   subst hj
   obtain ⟨B, hB2, hr⟩ := hR'.blk id b' wm' e1
   have hB3 : H'[id]? = some B := hB2
   rw [hB] at hB3; cases hB3
   exact ⟨_, rfl, map_moved hr hes rfl⟩
  ·rw [(es' ei).1, (es' ej).1]
  ·obtain ⟨k1, k2⟩ := hR'.out b' x' e
   exact ⟨k1, fun j wm1 e1 => k2 id wm1 (es' e1).2⟩
  ·obtain ⟨B, hB2, _⟩ := hn
   have hB3 : ([] : List Blk)[j]? = some B := hB2
   simp at hB3
  ·obtain ⟨⟨C, t, f, a, hl, r, ro⟩, k2⟩ := hev.fix b' lim hF
   refine ⟨⟨C, t, f, a, hl, fun j wm1 e1 => ?_, ro⟩, k2⟩
   obtain ⟨⟨g, hg1⟩, _⟩ := r id wm1 (es' e1).2
   have hg2 : H'[id]? = some (.row g) := hg1
   rw [hB] at hg2; cases hg2
  ·have hB3 : ([] : List Blk)[j]? = some (.row g0) := hg0
   simp at hB3
  ·have hB3 : ([] : List Blk)[j]? = some (.mrow g0 c0) := hg0
   simp at hB3
  ·obtain ⟨B, hB2, _⟩ := hn
   have hB3 : ([] : List Blk)[j]? = some B := hB2
   simp at hB3
theorem CallG.map {P : Program} {f : FuncId} {args : List AV} {sh : KeyShape} {es : List (Value × AV)} {t : Trie Blk} {n : Nat} {K Kp : AV → Trie Blk → Nat → Nat → Prop} (h : ∀ H, ACall P f args H (.ret (.mp H.length)) (H ++ [.map sh es]))
  (k : K (.mp n) (set t n (.map sh es)) (n + 1) noLo) : CallG P f args t n K Kp :=
 .ret fun H hH => by
  have hl := hH.len
  have hc := h H
  rw [hl] at hc
  exact ⟨.mp n, _, n + 1, noLo, H ++ [.map sh es], hH.push _, hc, Keep.append _ _ _, k⟩
end Go.Vm

namespace Go.Vm
open Go.Proofs
theorem defs_nil {S S' : Sit} {ds : List Deferred} (h : DefRel S [] ds) : DefRel S' [] ds := by
 cases ds with
 | nil => trivial
 | cons _ _ => exact h.elim
theorem Rel.add [Outer] {H : List Blk} {ι : Nat → Option (Nat × Nat)} {w : World} {b wm : Nat} {sh : KeyShape} {es : List (Value × AV)} (hR : Rel ⟨H, ι, w⟩) (hb : ∀ id wm', ι id ≠ some (b, wm')) (ho : ∀ x, Outer.out b ≠ some x)
  (hB : BlkRel ⟨H, ι, w⟩ b wm (.map sh es)) (hes : ∀ p ∈ es, ∃ v, p.2 = .lit v) :
  Rel ⟨H ++ [.map sh es], fun id => if id = H.length then some (b, wm) else ι id, w⟩ ∧ Ev ⟨H, ι, w⟩ ⟨H ++ [.map sh es], fun id => if id = H.length then some (b, wm) else ι id, w⟩ ∧ Non ⟨H, ι, w⟩ ⟨H ++ [.map sh es], fun id => if id = H.length then some (b, wm) else ι id, w⟩ := by
 obtain ⟨ι2, hι2⟩ : ∃ ι2 : Nat → Option (Nat × Nat), ι2 = fun id => if id = H.length then some (b, wm) else ι id := ⟨_, rfl⟩
 rw [← hι2]
 have at_n : ι2 H.length = some (b, wm) := by rw [hι2]; simp
 have at_o : ∀ {id}, id ≠ H.length → ι2 id = ι id := fun {id} h => by rw [hι2]; simp [h]
 have look : ∀ {id : Nat} {B : Blk}, H[id]? = some B → (H ++ [Blk.map sh es])[id]? = some B ∧ id ≠ H.length := fun {id B} h => by
  have := (List.getElem?_eq_some_iff.1 h).1
  exact ⟨by rw [List.getElem?_append_left this]; exact h, by omega⟩
 have isMap : ∃ E cl, w.heap[b]? = some (.map E cl) := by
  obtain ⟨E, cl, h, _⟩ := hB
  exact ⟨E, cl, h⟩
 have hev : Ev ⟨H, ι, w⟩ ⟨H ++ [.map sh es], ι2, w⟩ := by
  refine ⟨fun id hn => ?_, fun b' lim hF => ⟨?_, fun _ _ => rfl⟩, fun id g0 hg => ?_, fun id g0 c0 hg => ?_, fun _ _ _ => rfl, Rest.refl _⟩
  ·obtain ⟨B, hB', hr⟩ := hn
   obtain ⟨h1, h2⟩ := look hB'
   exact ⟨⟨B, h1, hr⟩, fun b wm e => ⟨wm, (at_o h2).trans e⟩⟩
  ·obtain ⟨C, t, f, hC, hl, r, ro⟩ := hF
   refine ⟨C, t, f, hC, hl, fun id wm' e => ?_, ro⟩
   have e : ι2 id = some (b', wm') := e
   by_cases hid : id = H.length
   ·subst hid
    rw [at_n] at e
    cases e
    obtain ⟨E, cl, hm⟩ := isMap
    have hC : w.heap[b]? = some (.cells C t f) := hC
    rw [hm] at hC
    cases hC
   ·rw [at_o hid] at e
    obtain ⟨⟨g, hg⟩, h2⟩ := r id wm' e
    exact ⟨⟨g, (look hg).1⟩, h2⟩
  ·obtain ⟨h1, h2⟩ := look hg
   exact ⟨g0, h1, Nat.le_refl _, fun _ => ⟨at_o h2, fun b wm C t _ h => ⟨C, t, h, rfl⟩⟩⟩
  ·obtain ⟨h1, h2⟩ := look hg
   exact ⟨_, g0, h1, rfl, Nat.le_refl _, fun _ => ⟨⟨c0, rfl⟩, at_o h2, fun b wm C t _ h => ⟨C, t, h, rfl⟩⟩⟩
 refine ⟨⟨fun id b' wm' e => ?_, fun i j b' wm1 wm2 ei ej => ?_, fun b' x e => ⟨(hR.out b' x e).1, fun id wm' hi => ?_⟩⟩, hev, fun id hn hnone => ?_⟩
 ·have e : ι2 id = some (b', wm') := e
  by_cases hid : id = H.length
  ·subst hid
   rw [at_n] at e
   cases e
   exact ⟨_, by simp, map_moved hB hes rfl⟩
  ·rw [at_o hid] at e
   obtain ⟨B, hB', hr⟩ := hR.blk id b' wm' e
   exact ⟨B, (look hB').1, hr.ev hev rfl⟩
 ·have ei : ι2 i = some (b', wm1) := ei
  have ej : ι2 j = some (b', wm2) := ej
  by_cases hi : i = H.length
  ·by_cases hj : j = H.length
   ·rw [hi, hj]
   ·rw [hi, at_n] at ei
    cases ei
    rw [at_o hj] at ej
    exact absurd ej (hb j wm2)
  ·by_cases hj : j = H.length
   ·rw [hj, at_n] at ej
    cases ej
    rw [at_o hi] at ei
    exact absurd ei (hb i wm1)
   ·rw [at_o hi] at ei
    rw [at_o hj] at ej
    exact hR.inj i j b' wm1 wm2 ei ej
 ·have hi : ι2 id = some (b', wm') := hi
  by_cases hid : id = H.length
  ·rw [hid, at_n] at hi
   cases hi
   exact ho x e
  ·rw [at_o hid] at hi
   exact (hR.out b' x e).2 id wm' hi
 ·obtain ⟨B, hB', _⟩ := hn
  exact (at_o (look hB').2).trans hnone
theorem take_low {H H1 : List Blk} (h : ∀ id, id < H.length → H1[id]? = H[id]?) : H1.take H.length = H := by
 refine List.ext_getElem? fun i => ?_
 by_cases hi : i < H.length
 ·rw [List.getElem?_take_of_lt hi]; exact h i hi
 ·rw [List.getElem?_eq_none (by rw [List.length_take]; omega), List.getElem?_eq_none (by omega)]
@[reducible] def hide1 (O : Outer) (b0 : Nat) : Outer := ⟨fun b => if b = b0 then some none else O.out b⟩
theorem Post.toMap [Outer] {H H1 : List Blk} {ι : Nat → Option (Nat × Nat)} {w : World} {k j r0 : Nat} {V : Trie AV} {sh : KeyShape} {es : List (Value × AV)} {e' : Exit} {a' : Act} {w' : World} (hR : Rel ⟨H, ι, w⟩)
  (hp : Post ⟨H, ι, w⟩ .ret ⟨k, V, H1, []⟩ e' a' w') (hlow : ∀ id, id < H.length → H1[id]? = H[id]?) (hv : get V r0 = some (.mp j)) (hj : H.length ≤ j) (hg : H1[j]? = some (.map sh es)) (hes : ∀ p ∈ es, ∃ v, p.2 = .lit v) :
  Post ⟨H, ι, w⟩ .ret ⟨k, set .nil r0 (.mp H.length), H ++ [.map sh es], []⟩ e' a' w' := by
 obtain ⟨ι1, hx, hs1, hev, hnon⟩ := hp
 have hcut := take_low hlow
 have h1 := Rel.back hR hs1.rel hev hnon (fun id hlt => .inl (hlow id hlt))
 have h2 := hev.cut
 have h3 := hnon.cut
 simp only [hcut] at h1 h2 h3
 obtain ⟨c, hc, hr⟩ := hs1.vars r0 _ hv
 simp only [VRel] at hr
 obtain ⟨b, wm, hi, _, hcv⟩ := hr
 obtain ⟨B, hB, hrel⟩ := hs1.rel.blk j b wm hi
 have hB : H1[j]? = some B := hB
 rw [hg] at hB
 cases hB
 have nb : ∀ id wm', cutι ι1 H.length id ≠ some (b, wm') := fun id wm' e => by
  unfold cutι at e
  split at e
  ·have := hs1.rel.inj id j b wm' wm e hi
   omega
  ·cases e
 obtain ⟨q1, q2, q3⟩ := Rel.add (wm := wm) h1 nb (fun x e => (hs1.rel.out b x e).2 j wm hi) (map_moved hrel hes rfl) hes
 refine ⟨_, ?_, ⟨q1, hs1.size, fun s v hg' => ?_, defs_nil hs1.defs⟩, h2.trans q2, Non.trans h2 h3 q3⟩
 ·cases e' <;> first | trivial | exact hx.elim
 ·by_cases hs : r0 = s
  ·subst hs
   have hg' : get (set .nil r0 (AV.mp H.length)) r0 = some v := hg'
   rw [get_set_same] at hg'
   cases hg'
   refine ⟨c, hc, ?_⟩
   simp only [VRel]
   exact ⟨b, wm, by simp, ⟨.map sh es, by simp, rfl⟩, hcv⟩
  ·have hg' : get (set .nil r0 (AV.mp H.length)) s = some v := hg'
   rw [get_set_other _ _ _ _ hs, get_nil] at hg'
   cases hg'
def SwR {α : Type} (S : α → List (Nat × AV)) (es : α → List (Value × AV)) (μ : α → Nat) (sh : KeyShape) (s r0 i0 : Nat) (Pr : List (Value × AV) → Prop) (a : α) : CodeQ := fun x e lo' => i0 + 1 ≤ lo' ∧ e.defs = [] ∧ match x with
 | .normal => ∃ a', μ a' < μ a ∧ (∃ j, i0 + 1 ≤ j ∧ get e.vars s = some (.mp j) ∧ get e.t j = some (.map sh (es a'))) ∧ Slots (get e.vars) e.t i0 (S a')
 | .ret => ∃ j es', i0 + 1 ≤ j ∧ get e.vars r0 = some (.mp j) ∧ get e.t j = some (.map sh es') ∧ Pr es'
 | _ => False
theorem sw_core {P : Program} {m : Bool} {k : Nat} {c : Code} {α : Type} (hm : P.follows .mixedOrders = true) (S : α → List (Nat × AV)) (es : α → List (Value × AV)) (T : List (Nat × Blk)) (μ : α → Nat) (sh : KeyShape) (s r0 i0 : Nat) (Pr : List (Value × AV) → Prop)
    (hT : ∀ id, id < i0 → ∃ B, get (ofL T) id = some B ∧ B.under i0) (hes : ∀ a, ∀ p ∈ es a, ∃ v, p.2 = .lit v) (hPr : ∀ e, Pr e → ∀ p ∈ e, ∃ v, p.2 = .lit v)
    (body : ∀ a, gCode P m k none c (ofL ((s, .mp i0) :: S a)) (ofL ((i0, .map sh (es a)) :: T)) (i0 + 1) [] noLo (SwR S es μ sh s r0 i0 Pr a)) :
    ∀ j a, μ a = j → ∀ H, HT (ofL ((i0, .map sh (es a)) :: T)) (i0 + 1) H → ∃ es', Pr es' ∧ InL P none c ⟨k, ofL ((s, .mp i0) :: S a), H, []⟩ .ret ⟨k, set .nil r0 (.mp (i0 + 1)), H ++ [.map sh es'], []⟩ := by
  intro j
  induction j using Nat.strongRecOn with
  | _ j ih =>
  intro a hj H hH
  have hlen := hH.len
  obtain ⟨x, e, lo', H1, hH1, hk1, hrun, hlo, hd, hq⟩ := gCode_spec hm c _ _ _ _ _ _ (body a) H H hH (Keep.refl _ _)
  rw [hd] at hrun
  have hlow : ∀ id, id < H.length → H1[id]? = H[id]? := fun id hlt => hk1.low id (by omega) hlt
  have hTl : ∀ id, id < i0 → ∃ B, H[id]? = some B ∧ B.under i0 := fun id hlt => by
    obtain ⟨B, h1, h2⟩ := hT id hlt
    refine ⟨B, hH.blk id B ?_, h2⟩
    show get (set (ofL T) i0 _) id = some B
    rw [get_set_other _ _ _ _ (by omega)]
    exact h1
  have hM : H[i0]? = some (.map sh (es a)) := hH.blk _ _ (by
    show get (set (ofL T) i0 _) i0 = _
    rw [get_set_same])
  cases x with
  | exit i => exact hq.elim
  | pan v => exact hq.elim
  | ret =>
    obtain ⟨jj, es', h1, h2, h3, h4⟩ := hq
    refine ⟨es', h4, ?_⟩
    have hout : InL P none c ⟨k, ofL ((s, .mp i0) :: S a), H, []⟩ .ret ⟨k, e.vars, H1, []⟩ := .out hrun rfl
    intro O ι a w cro hro hs b kk cs hbro hb hr
    obtain ⟨e', a', w', hp, harr⟩ := hout O ι a w cro hro hs b kk cs hbro hb hr
    have := Post.toMap hs.rel hp hlow h2 (Nat.le_trans (Nat.le_of_eq hlen) h1) (hH1.blk _ _ h3) (hPr _ h4)
    rw [hlen] at this
    exact ⟨e', a', w', this, harr⟩
  | normal =>
    obtain ⟨a', hμ, ⟨jj, h1, h2, h3⟩, hS⟩ := hq
    obtain ⟨H2, hH2d⟩ : ∃ H2, H2 = H.take i0 ++ [Blk.map sh (es a')] := ⟨_, rfl⟩
    have tl : (H.take i0).length = i0 := by rw [List.length_take]; omega
    have low2 : ∀ id, id < i0 → H2[id]? = H[id]? := fun id hlt => by
      rw [hH2d, List.getElem?_append_left (by omega), List.getElem?_take_of_lt hlt]
    have top2 : H2[i0]? = some (.map sh (es a')) := by
      rw [hH2d, List.getElem?_append_right (by omega), tl, Nat.sub_self]
      rfl
    have len2 : H2.length = i0 + 1 := by rw [hH2d, List.length_append, tl]; rfl
    have hH2 : HT (ofL ((i0, .map sh (es a')) :: T)) (i0 + 1) H2 := by
      refine ⟨len2, fun id B hg => ?_⟩
      have hg : get (set (ofL T) i0 (.map sh (es a'))) id = some B := hg
      by_cases hid : i0 = id
      · subst hid
        rw [get_set_same] at hg
        cases hg
        exact top2
      · rw [get_set_other _ _ _ _ hid] at hg
        have hg' : get (ofL ((i0, .map sh (es a)) :: T)) id = some B := by
          show get (set (ofL T) i0 _) id = some B
          rw [get_set_other _ _ _ _ hid]
          exact hg
        have := hH.lt hg'
        rw [low2 id (by omega)]
        exact hH.blk id B hg'
    obtain ⟨es', hP, hin⟩ := ih (μ a') (by omega) a' rfl H2 hH2
    refine ⟨es', hP, ?_⟩
    intro O ι a0 w cro hro hs b kk cs hbro hb hr
    obtain ⟨e1, a1, w1, ⟨ι1, hx, hs1, hev, hnon⟩, harr⟩ := hrun O ι a0 w cro hro hs b (.inLoop c :: kk) cs hbro hb hr
    have e1n : e1 = .normal := by cases e1 <;> first | rfl | exact hx.elim
    subst e1n
    have hR1 : @Rel O ⟨H1, ι1, w1⟩ := hs1.rel
    -- names
    obtain ⟨c0, hc0, hr0⟩ := hs.vars s (.mp i0) (by show get (set _ s _) s = _; rw [get_set_same])
    simp only [VRel] at hr0
    obtain ⟨b0, wm0, hi0, hn0, _⟩ := hr0
    obtain ⟨wm1, hi1⟩ := (hev.ptr i0 hn0).2 b0 wm0 hi0
    have hi1 : ι1 i0 = some (b0, wm1) := hi1
    obtain ⟨cj, hcj, hrj⟩ := hs1.vars s _ h2
    simp only [VRel] at hrj
    obtain ⟨bj, wmj, hij, _, hcvj⟩ := hrj
    have hij : ι1 jj = some (bj, wmj) := hij
    obtain ⟨Bj, hBj, hrelj⟩ := hR1.blk jj bj wmj hij
    have hBj : H1[jj]? = some Bj := hBj
    rw [hH1.blk _ _ h3] at hBj
    cases hBj
    obtain ⟨B0, hB0, hrel0⟩ := hR1.blk i0 b0 wm1 hi1
    have hB0 : H1[i0]? = some B0 := hB0
    rw [hlow i0 (by omega), hM] at hB0
    cases hB0
    have map0 : ∃ E cl, w1.heap[b0]? = some (.map E cl) := by obtain ⟨E, cl, h, _⟩ := hrel0; exact ⟨E, cl, h⟩
    have mapj : ∃ E cl, w1.heap[bj]? = some (.map E cl) := by obtain ⟨E, cl, h, _⟩ := hrelj; exact ⟨E, cl, h⟩
    have hne : bj ≠ b0 := fun e => by
      subst e
      have := hR1.inj jj i0 bj wmj wm1 hij hi1
      omega
    have out0 : ∀ x, O.out b0 ≠ some x := fun x e => (hR1.out b0 x e).2 i0 wm1 hi1
    -- the other outside
    have o0 : (hide1 O b0).out b0 = some none := if_pos rfl
    have oo : ∀ {b}, b ≠ b0 → (hide1 O b0).out b = O.out b := fun {b} h => if_neg h
    have same1 : ∀ id, id < i0 → (H.take i0)[id]? = H1[id]? := fun id hlt => by rw [List.getElem?_take_of_lt hlt, hlow id (by omega)]
    have p0 : Pass O (hide1 O b0) H1 (H.take i0) ι1 (cutι ι1 i0) w1 i0 := by
      refine ⟨same1, fun id hlt => by simp [cutι, hlt], fun b' lim hF => ?_⟩
      obtain ⟨C, t, f, hC, hl, r, ro⟩ := hF
      refine ⟨C, t, f, hC, hl, fun id wm' e => ?_, fun y e => ?_⟩
      · have e : cutι ι1 i0 id = some (b', wm') := e
        unfold cutι at e
        split at e
        · rename_i hlt
          obtain ⟨⟨g, hg⟩, hw⟩ := r id wm' e
          exact ⟨⟨g, (same1 id hlt).trans hg⟩, hw⟩
        · cases e
      · by_cases hb' : b' = b0
        · subst hb'
          obtain ⟨E, cl, hm0⟩ := map0
          have hC : w1.heap[b']? = some (.cells C t f) := hC
          rw [hm0] at hC
          cases hC
        · rw [oo hb'] at e
          exact ro y e
    have cutS : ∀ {id p}, cutι ι1 i0 id = some p → id < i0 ∧ ι1 id = some p := fun {id p} e => by
      unfold cutι at e
      split at e
      · rename_i hlt; exact ⟨hlt, e⟩
      · cases e
    have hRc : @Rel (hide1 O b0) ⟨H.take i0, cutι ι1 i0, w1⟩ := by
      refine @Rel.mk (hide1 O b0) _ (fun id b' wm' e => ?_) (fun i j b' wma wmb ei ej => ?_) (fun b' y e => ?_)
      · obtain ⟨hlt, e⟩ := cutS e
        obtain ⟨B, hB, hrel⟩ := hR1.blk id b' wm' e
        obtain ⟨B', hB', hu⟩ := hTl id hlt
        have hB : H1[id]? = some B := hB
        rw [hlow id (by omega), hB'] at hB
        obtain rfl := Option.some.inj hB
        exact ⟨_, by show (H.take i0)[id]? = _; rw [List.getElem?_take_of_lt hlt]; exact hB', BlkRel.pass p0 hrel hu⟩
      · exact hR1.inj i j b' wma wmb (cutS ei).2 (cutS ej).2
      · by_cases hb' : b' = b0
        · subst hb'
          obtain ⟨E, cl, hm0⟩ := map0
          refine ⟨(Array.getElem?_eq_some_iff.1 hm0).1, fun id wm' h => ?_⟩
          obtain ⟨hlt, h⟩ := cutS h
          have := hR1.inj id i0 b' wm' wm1 h hi1
          omega
        · rw [oo hb'] at e
          obtain ⟨k1, k2⟩ := hR1.out b' y e
          exact ⟨k1, fun id wm' h => k2 id wm' (cutS h).2⟩
    obtain ⟨hR2, hev2, hnon2⟩ := @Rel.add (hide1 O b0) (H.take i0) (cutι ι1 i0) w1 bj wmj sh (es a') hRc (fun id wm' e => by
        obtain ⟨hlt, e⟩ := cutS e
        have := hR1.inj id jj bj wm' wmj e hij
        omega) (fun y e => by
        rw [oo hne] at e
        exact (hR1.out bj y e).2 jj wmj hij) (map_moved hrelj (hes a') rfl) (hes a')
    rw [tl] at hR2 hev2 hnon2
    rw [← hH2d] at hR2 hev2 hnon2
    obtain ⟨ι2, hι2⟩ : ∃ ι2 : Nat → Option (Nat × Nat), ι2 = fun id => if id = i0 then some (bj, wmj) else cutι ι1 i0 id := ⟨_, rfl⟩
    rw [← hι2] at hR2 hev2 hnon2
    have n2 : ι2 i0 = some (bj, wmj) := by rw [hι2]; simp
    have l2 : ∀ {id}, id < i0 → ι2 id = ι1 id := fun {id} hlt => by
      rw [hι2]
      show (if id = i0 then some (bj, wmj) else cutι ι1 i0 id) = _
      rw [if_neg (by omega)]
      simp [cutι, hlt]
    have hs2 : @SRel (hide1 O b0) ⟨k, ofL ((s, .mp i0) :: S a'), H2, []⟩ ι2 a1 w1 := by
      refine @SRel.mk (hide1 O b0) _ _ _ _ hR2 hs1.size (fun t v hg => ?_) (defs_nil hs1.defs)
      have hg : get (set (ofL (S a')) s (.mp i0)) t = some v := hg
      by_cases ht : s = t
      · subst ht
        rw [get_set_same] at hg
        cases hg
        refine ⟨cj, hcj, ?_⟩
        simp only [VRel]
        exact ⟨bj, wmj, n2, ⟨_, top2, rfl⟩, hcvj⟩
      · rw [get_set_other _ _ _ _ ht] at hg
        obtain ⟨v1, g1, g2, g3⟩ := hS.mem _ (get_ofL hg)
        obtain ⟨c1, hc1, hr1⟩ := hs1.vars t v1 g1
        refine ⟨c1, hc1, @VRel.ev (hide1 O b0) _ _ hev2 v c1 (VRel.pass p0 v c1 g3 (g2 _ _ hH1 O ι1 w1 c1 hr1))⟩
    obtain ⟨e2, a2, w2, ⟨ι3, hx3, hs3, hev3, hnon3⟩, harr2⟩ := hin (hide1 O b0) ι2 a1 w1 cro hro hs2 b kk cs hbro hb hr
    refine ⟨e2, a2, w2, ?_, .of_steps (StepsIn.trans harr (.one (fenced_calm hb hr rfl) stepR_inLoop)) harr2⟩
    have hR3 : @Rel (hide1 O b0) ⟨H2 ++ [.map sh es'], ι3, w2⟩ := @SRel.rel (hide1 O b0) _ _ _ _ hs3
    have hsize : a2.tmps.size = k := @SRel.size (hide1 O b0) ⟨k, set .nil r0 (.mp (i0 + 1)), H2 ++ [.map sh es'], []⟩ ι3 a2 w2 hs3
    have hrest : Rest w1 w2 := @Ev.rest (hide1 O b0) ⟨H2, ι2, w1⟩ ⟨H2 ++ [.map sh es'], ι3, w2⟩ hev3
    have heap0 : w2.heap[b0]? = w1.heap[b0]? := @Ev.out (hide1 O b0) _ _ hev3 b0 none o0
    -- back
    have hA := Rel.back hs.rel hR1 hev hnon (fun id hlt => .inl (hlow id hlt))
    have hevA := hev.cut
    have hnonA := hnon.cut
    simp only [take_low hlow] at hA hevA hnonA
    rw [hlen] at hA hevA hnonA
    refine Post.trans hevA hnonA _ _ _ ?_
    obtain ⟨ιf, hιf⟩ : ∃ ιf : Nat → Option (Nat × Nat), ιf = fun id => if id = i0 then some (b0, wm1) else if id ≤ i0 + 1 then ι3 id else none := ⟨_, rfl⟩
    have f0 : ιf i0 = some (b0, wm1) := by rw [hιf]; simp
    have fl : ∀ {id}, id < i0 → ιf id = ι3 id := fun {id} hlt => by
      rw [hιf]
      show (if id = i0 then some (b0, wm1) else if id ≤ i0 + 1 then ι3 id else none) = _
      rw [if_neg (by omega), if_pos (by omega)]
    have fn : ιf (i0 + 1) = ι3 (i0 + 1) := by
      rw [hιf]
      show (if i0 + 1 = i0 then some (b0, wm1) else if i0 + 1 ≤ i0 + 1 then ι3 (i0 + 1) else none) = _
      rw [if_neg (by omega), if_pos (by omega)]
    have fg : ∀ {id}, i0 + 1 < id → ιf id = none := fun {id} hlt => by
      rw [hιf]
      show (if id = i0 then some (b0, wm1) else if id ≤ i0 + 1 then ι3 id else none) = _
      rw [if_neg (by omega), if_neg (by omega)]
    have lowF : ∀ id, id < i0 + 1 → (H ++ [Blk.map sh es'])[id]? = H[id]? := fun id hlt => List.getElem?_append_left (by omega)
    have topF : (H ++ [Blk.map sh es'])[i0 + 1]? = some (.map sh es') := by rw [List.getElem?_append_right (by omega), hlen, Nat.sub_self]; rfl
    have low3 : ∀ id, id < i0 → (H2 ++ [Blk.map sh es'])[id]? = H[id]? := fun id hlt => by rw [List.getElem?_append_left (by omega)]; exact low2 id hlt
    have top3 : (H2 ++ [Blk.map sh es'])[i0 + 1]? = some (.map sh es') := by rw [List.getElem?_append_right (by omega), len2, Nat.sub_self]; rfl
    have cutT : ∀ {id p}, cutι ι1 (i0 + 1) id = some p → id < i0 + 1 ∧ ι1 id = some p := fun {id p} e => by
      unfold cutι at e
      split at e
      · rename_i hlt; exact ⟨hlt, e⟩
      · cases e
    -- what is fixed in the other situation is so in the last one
    have fixF : ∀ b' lim, @Fix (hide1 O b0) ⟨H2 ++ [.map sh es'], ι3, w2⟩ b' lim → @Fix O ⟨H ++ [.map sh es'], ιf, w2⟩ b' lim := fun b' lim hF => by
      obtain ⟨C, t, f, hC, hl, r, ro⟩ := hF
      have hb' : b' ≠ b0 := fun e => by
        subst e
        obtain ⟨l, hl', _⟩ := ro none o0
        cases hl'
      refine ⟨C, t, f, hC, hl, fun id wm' e => ?_, fun y e => ro y (by rw [oo hb']; exact e)⟩
      have e : ιf id = some (b', wm') := e
      rcases Nat.lt_trichotomy id i0 with hlt | he | hgt
      · rw [fl hlt] at e
        obtain ⟨⟨g, hg⟩, hw⟩ := r id wm' e
        have hg : (H2 ++ [Blk.map sh es'])[id]? = some (.row g) := hg
        exact ⟨⟨g, by show (H ++ [Blk.map sh es'])[id]? = _; rw [lowF id (by omega), ← low3 id hlt]; exact hg⟩, hw⟩
      · rw [he, f0] at e
        cases e
        exact absurd rfl hb'
      · by_cases h' : id = i0 + 1
        · rw [h', fn] at e
          obtain ⟨⟨g, hg⟩, _⟩ := r _ wm' e
          have hg : (H2 ++ [Blk.map sh es'])[i0 + 1]? = some (.row g) := hg
          rw [top3] at hg
          cases hg
        · rw [fg (by omega)] at e
          cases e
    have fix2 : ∀ b' lim, @Fix O ⟨H, cutι ι1 (i0 + 1), w1⟩ b' lim → @Fix (hide1 O b0) ⟨H2, ι2, w1⟩ b' lim := fun b' lim hF => by
      obtain ⟨C, t, f, hC, hl, r, ro⟩ := hF
      have hC : w1.heap[b']? = some (.cells C t f) := hC
      have hb0 : b' ≠ b0 := fun e => by
        subst e
        obtain ⟨E, cl, hm0⟩ := map0
        rw [hm0] at hC
        cases hC
      have hbj : b' ≠ bj := fun e => by
        subst e
        obtain ⟨E, cl, hm0⟩ := mapj
        rw [hm0] at hC
        cases hC
      refine ⟨C, t, f, hC, hl, fun id wm' e => ?_, fun y e => ro y (by rw [← oo hb0]; exact e)⟩
      have e : ι2 id = some (b', wm') := e
      rcases Nat.lt_trichotomy id i0 with hlt | he | hgt
      · rw [l2 hlt] at e
        obtain ⟨⟨g, hg⟩, hw⟩ := r id wm' (by show cutι ι1 (i0 + 1) id = _; simp only [cutι]; rw [if_pos (by omega)]; exact e)
        exact ⟨⟨g, (low2 id hlt).trans hg⟩, hw⟩
      · rw [he, n2] at e
        cases e
        exact absurd rfl hbj
      · rw [hι2] at e
        have e : (if id = i0 then some (bj, wmj) else cutι ι1 i0 id) = some (b', wm') := e
        rw [if_neg (by omega)] at e
        have := (cutS e).1
        omega
    have hevF : @Ev O ⟨H, cutι ι1 (i0 + 1), w1⟩ ⟨H ++ [.map sh es'], ιf, w2⟩ := by
      refine @Ev.mk O _ _ (fun id hn => ?_) (fun b' lim hF => ?_) (fun id g0 hg => ?_) (fun id g0 g1 hg => ?_) (fun b' y e => ?_) hrest
      · obtain ⟨B, hB, hr'⟩ := hn
        have hB : H[id]? = some B := hB
        have hlt := (List.getElem?_eq_some_iff.1 hB).1
        rw [hlen] at hlt
        refine ⟨⟨B, (lowF id hlt).trans hB, hr'⟩, fun b' wm' e => ?_⟩
        have e : ι1 id = some (b', wm') := (cutT e).2
        by_cases hid : id = i0
        · rw [hid, hi1] at e
          cases e
          exact ⟨wm1, by rw [hid]; exact f0⟩
        · obtain ⟨wm3, h3⟩ := (@Ev.ptr (hide1 O b0) _ _ hev3 id ⟨B, (low2 id (by omega)).trans hB, hr'⟩).2 b' wm' ((l2 (by omega)).trans e)
          exact ⟨wm3, (fl (by omega)).trans h3⟩
      · obtain ⟨k1, k2⟩ := @Ev.fix (hide1 O b0) _ _ hev3 b' lim (fix2 b' lim hF)
        exact ⟨fixF b' lim k1, k2⟩
      · have hg : H[id]? = some (.row g0) := hg
        have hlt := (List.getElem?_eq_some_iff.1 hg).1
        rw [hlen] at hlt
        have hid : id < i0 := by
          by_cases h' : id = i0
          · subst h'; rw [hM] at hg; cases hg
          · omega
        obtain ⟨g1, k1, k2, k3⟩ := @Ev.tok (hide1 O b0) _ _ hev3 id g0 ((low2 id hid).trans hg)
        have k1 : (H2 ++ [Blk.map sh es'])[id]? = some (.row g1) := k1
        rw [low3 id hid, hg] at k1
        cases k1
        obtain ⟨k4, k5⟩ := k3 rfl
        have k4 : ι3 id = ι2 id := k4
        refine ⟨g0, (lowF id hlt).trans hg, Nat.le_refl _, fun _ => ⟨?_, fun b' wm' C t hi hC => k5 b' wm' C t ?_ hC⟩⟩
        · show ιf id = cutι ι1 (i0 + 1) id
          rw [fl hid, k4, l2 hid]
          simp [cutι, hlt]
        · show ι2 id = _
          rw [l2 hid]
          exact (cutT hi).2
      · have hg : H[id]? = some (.mrow g0 g1) := hg
        have hlt := (List.getElem?_eq_some_iff.1 hg).1
        rw [hlen] at hlt
        have hid : id < i0 := by
          by_cases h' : id = i0
          · subst h'; rw [hM] at hg; cases hg
          · omega
        obtain ⟨B', gg, k1, km, k2, k3⟩ := @Ev.mtok (hide1 O b0) _ _ hev3 id g0 g1 ((low2 id hid).trans hg)
        have k1 : (H2 ++ [Blk.map sh es'])[id]? = some B' := k1
        rw [low3 id hid, hg] at k1
        cases k1
        simp only [Blk.mgen, Option.some.injEq] at km
        subst km
        obtain ⟨k6, k4, k5⟩ := k3 rfl
        have k4 : ι3 id = ι2 id := k4
        refine ⟨_, g0, (lowF id hlt).trans hg, rfl, Nat.le_refl _, fun _ => ⟨⟨g1, rfl⟩, ?_, fun b' wm' C t hi hC => k5 b' wm' C t ?_ hC⟩⟩
        · show ιf id = cutι ι1 (i0 + 1) id
          rw [fl hid, k4, l2 hid]
          simp [cutι, hlt]
        · show ι2 id = _
          rw [l2 hid]
          exact (cutT hi).2
      · have hb' : b' ≠ b0 := fun h => out0 y (h ▸ e)
        exact @Ev.out (hide1 O b0) _ _ hev3 b' y (by rw [oo hb']; exact e)
    have pF : Pass (hide1 O b0) O (H2 ++ [.map sh es']) (H ++ [.map sh es']) ι3 ιf w2 i0 := ⟨fun id hlt => by rw [lowF id (by omega), low3 id hlt], fun id hlt => fl hlt, fixF⟩
    have hRF : @Rel O ⟨H ++ [.map sh es'], ιf, w2⟩ := by
      refine @Rel.mk O _ (fun id b' wm' e => ?_) (fun i j b' wma wmb ei ej => ?_) (fun b' y e => ?_)
      · have e : ιf id = some (b', wm') := e
        rcases Nat.lt_trichotomy id i0 with hlt | he | hgt
        · rw [fl hlt] at e
          obtain ⟨B, hB, hrel⟩ := @Rel.blk (hide1 O b0) _ hR3 id b' wm' e
          have hB : (H2 ++ [Blk.map sh es'])[id]? = some B := hB
          obtain ⟨B', hB', hu⟩ := hTl id hlt
          rw [low3 id hlt, hB'] at hB
          obtain rfl := Option.some.inj hB
          exact ⟨_, (lowF id (by omega)).trans hB', BlkRel.pass pF hrel hu⟩
        · rw [he, f0] at e
          cases e
          obtain ⟨B, hB, hrel⟩ := hA.blk i0 b0 wm1 (by show cutι ι1 (i0 + 1) i0 = _; simp [cutι, hi1])
          have hB : H[i0]? = some B := hB
          rw [hM] at hB
          cases hB
          exact ⟨_, by rw [he]; exact (lowF i0 (by omega)).trans hM, hrel.ev hevF heap0⟩
        · by_cases h' : id = i0 + 1
          · rw [h', fn] at e
            obtain ⟨B, hB, hrel⟩ := @Rel.blk (hide1 O b0) _ hR3 (i0 + 1) b' wm' e
            have hB : (H2 ++ [Blk.map sh es'])[i0 + 1]? = some B := hB
            rw [top3] at hB
            cases hB
            exact ⟨_, by rw [h']; exact topF, map_moved hrel (hPr _ hP) rfl⟩
          · rw [fg (by omega)] at e
            cases e
      · have ei : ιf i = some (b', wma) := ei
        have ej : ιf j = some (b', wmb) := ej
        have key : ∀ {i p}, ιf i = some p → i = i0 ∧ p = (b0, wm1) ∨ i ≠ i0 ∧ ι3 i = some p := fun {i p} h => by
          rcases Nat.lt_trichotomy i i0 with hlt | he | hgt
          · exact .inr ⟨by omega, (fl hlt).symm.trans h⟩
          · rw [he, f0] at h
            cases h
            exact .inl ⟨he, rfl⟩
          · by_cases h' : i = i0 + 1
            · subst h'
              exact .inr ⟨by omega, fn.symm.trans h⟩
            · rw [fg (by omega)] at h
              cases h
        rcases key ei with ⟨i1, i2⟩ | ⟨i1, i2⟩
        · rcases key ej with ⟨j1, j2⟩ | ⟨j1, j2⟩
          · omega
          · cases i2
            exact absurd j2 ((@Rel.out (hide1 O b0) _ hR3 b0 none o0).2 j wmb)
        · rcases key ej with ⟨j1, j2⟩ | ⟨j1, j2⟩
          · cases j2
            exact absurd i2 ((@Rel.out (hide1 O b0) _ hR3 b0 none o0).2 i wma)
          · exact @Rel.inj (hide1 O b0) _ hR3 i j b' wma wmb i2 j2
      · have hb' : b' ≠ b0 := fun h => out0 y (h ▸ e)
        obtain ⟨k1, k2⟩ := @Rel.out (hide1 O b0) _ hR3 b' y (by rw [oo hb']; exact e)
        refine ⟨k1, fun id wm' h => ?_⟩
        have h : ιf id = some (b', wm') := h
        rcases Nat.lt_trichotomy id i0 with hlt | he | hgt
        · exact k2 id wm' ((fl hlt).symm.trans h)
        · rw [he, f0] at h
          cases h
          exact hb' rfl
        · by_cases h' : id = i0 + 1
          · subst h'
            exact k2 _ wm' (fn.symm.trans h)
          · rw [fg (by omega)] at h
            cases h
    refine ⟨ιf, ?_, @SRel.mk O _ _ _ _ hRF hsize (fun t v hg => ?_) (defs_nil (@SRel.defs (hide1 O b0) _ _ _ _ hs3)), hevF, fun id hn hnone => ?_⟩
    · cases e2 <;> first | trivial | exact hx3.elim
    · have hg : get (set .nil r0 (AV.mp (i0 + 1))) t = some v := hg
      by_cases ht : r0 = t
      · subst ht
        obtain ⟨c3, hc3, hr3⟩ := @SRel.vars (hide1 O b0) _ _ _ _ hs3 r0 (.mp (i0 + 1)) (by show get (set .nil r0 _) r0 = _; rw [get_set_same])
        rw [get_set_same] at hg
        cases hg
        refine ⟨c3, hc3, ?_⟩
        simp only [VRel] at hr3 ⊢
        obtain ⟨b3, wm3, k1, _, k3⟩ := hr3
        exact ⟨b3, wm3, fn.trans k1, ⟨_, topF, rfl⟩, k3⟩
      · rw [get_set_other _ _ _ _ ht, get_nil] at hg
        cases hg
    · have hnone : cutι ι1 (i0 + 1) id = none := hnone
      obtain ⟨B, hB, hr'⟩ := hn
      have hB : H[id]? = some B := hB
      have hlt := (List.getElem?_eq_some_iff.1 hB).1
      rw [hlen] at hlt
      have hnone : ι1 id = none := by
        simp only [cutι, hlt, if_true] at hnone
        exact hnone
      have hid : id < i0 := by
        by_cases h' : id = i0
        · rw [h', hi1] at hnone; cases hnone
        · omega
      show ιf id = none
      rw [fl hid]
      exact hnon3 id ⟨B, (low2 id hid).trans hB, hr'⟩ ((l2 hid).trans hnone)
theorem loop_sw {P : Program} {m : Bool} {k : Nat} {c : Code} {α : Type} (hm : P.follows .mixedOrders = true) {vars : Trie AV} {t : Trie Blk} {n lo : Nat} {Q : CodeQ} (S : α → List (Nat × AV)) (es : α → List (Value × AV)) (T : List (Nat × Blk)) (μ : α → Nat) (sh : KeyShape) (s r0 i0 : Nat) (Pr : List (Value × AV) → Prop)
  (a0 : α) (hn : n = i0 + 1) (hv : Slots (get vars) t noLo ((s, .mp i0) :: S a0)) (ht : Blks (get t) noLo ((i0, .map sh (es a0)) :: T))
  (hT : ∀ id, id < i0 → ∃ B, get (ofL T) id = some B ∧ B.under i0) (hes : ∀ a, ∀ p ∈ es a, ∃ v, p.2 = .lit v) (hPr : ∀ e, Pr e → ∀ p ∈ e, ∃ v, p.2 = .lit v)
  (body : ∀ a, gCode P m k none c (ofL ((s, .mp i0) :: S a)) (ofL ((i0, .map sh (es a)) :: T)) (i0 + 1) [] noLo (SwR S es μ sh s r0 i0 Pr a))
  (hQ : ∀ es', Pr es' → Q .ret ⟨set .nil r0 (.mp (i0 + 1)), set .nil (i0 + 1) (.map sh es'), i0 + 2, []⟩ lo) : LoopG P none c k vars t n [] lo Q := by
 subst hn
 refine ⟨fun H H0 hH hk => ?_⟩
 have hlen := hH.len
 obtain ⟨es', hP, hin⟩ := sw_core hm S es T μ sh s r0 i0 Pr hT hes hPr body _ a0 rfl H ⟨hlen, fun id B hg => hH.blk _ _ (ht.mem _ (get_ofL hg)).1⟩
 refine ⟨.ret, _, lo, H ++ [.map sh es'], ?_, hk.trans (Keep.append H _ lo) (Nat.le_refl _) (Nat.le_refl _), hin.fewer fun s v hg => ?_, hQ es' hP⟩
 ·have := (HT.nil.push (.map sh es'))
  refine ⟨by rw [List.length_append, hlen]; rfl, fun id B hg => ?_⟩
  by_cases hid : i0 + 1 = id
  ·subst hid
   have hg : get (set .nil (i0 + 1) (Blk.map sh es')) (i0 + 1) = some B := hg
   rw [get_set_same] at hg
   cases hg
   rw [List.getElem?_append_right (by omega), hlen, Nat.sub_self]
   rfl
  ·have hg : get (set .nil (i0 + 1) (Blk.map sh es')) id = some B := hg
   rw [get_set_other _ _ _ _ hid, get_nil] at hg
   cases hg
 ·obtain ⟨v1, g1, g2, _⟩ := hv.mem _ (get_ofL hg)
  exact ⟨v1, g1, g2 _ _ hH⟩
end Go.Vm

namespace Go.Vm
open Go.Proofs
theorem ixS_le {S : Type} [DecidableEq S] (x : S) : ∀ D : List S, ixS x D ≤ D.length
 | [] => Nat.le_refl _
 | y :: D => by
  have ih := ixS_le x D
  unfold ixS
  split
  ·omega
  ·rw [List.length_cons]; omega
theorem vAt_of {vs : List Vers} {n : Nat} (h : n < vs.length) : vs[n]? = some (vAt vs n) ∧ vAt vs n ∈ vs := by
 have e : vAt vs n = vs[n] := by simp [vAt, List.getD, List.getElem?_eq_getElem h]
 rw [e]
 exact ⟨List.getElem?_eq_getElem h, List.getElem_mem h⟩
theorem allP_small {vs : List Vers} (hn : vs.length ≤ 4) (hv : ∀ v ∈ vs, v.length ≤ 4) : (allP vs).length ≤ 16 := by
 have key : ∀ m, m ≤ vs.length → ((List.range m).flatMap (rowS vs)).length ≤ m * 4 := fun m => by
  induction m with
  | zero => intro _; simp
  | succ m ih =>
   intro hm
   have := ih (by omega)
   rw [List.range_succ, List.flatMap_append, List.flatMap_cons, List.flatMap_nil, List.append_nil, List.length_append]
   have hl : (rowS vs m).length ≤ 4 := by
    unfold rowS
    rw [List.length_map, List.length_range]
    exact hv _ (vAt_of (by omega)).2
   omega
 have := key vs.length (Nat.le_refl _)
 have e : allP vs = (List.range vs.length).flatMap (rowS vs) := rfl
 rw [e]
 omega
theorem clR_small {vs : List Vers} {K : Nat} (h : (allP vs).length ≤ 16) : ∀ (r : Nat) (p : Sta), clR vs K r p ≤ 16
 | 0, _ => Nat.zero_le _
 | r + 1, p => by
  have h1 := ixS_le (sgn vs K (clR vs K r) p) (ddS ((allP vs).map (sgn vs K (clR vs K r))))
  have h2 := ddS_length ((allP vs).map (sgn vs K (clR vs K r)))
  rw [List.length_map] at h2
  show ixS _ _ ≤ 16
  omega
theorem sgn_length (vs : List Vers) (K : Nat) (cl : Sta → Nat) (p : Sta) : (sgn vs K cl p).length = 9 := by
 unfold sgn
 simp [sgC_length]
theorem sgn_small {vs : List Vers} {K : Nat} {cl : Sta → Nat} {p : Sta} (h1 : ∀ q, cl q ≤ 16) (h2 : ∀ c, c < K → 0 ≤ ouS vs p c ∧ ouS vs p c ≤ 1000) : ∀ x ∈ sgn vs K cl p, -1 ≤ x ∧ x ≤ 1000 := by
 have key : ∀ c, ∀ x ∈ sgC vs cl p K c, -1 ≤ x ∧ x ≤ 1000 := fun c x hx => by
  unfold sgC at hx
  by_cases hc : c < K
  ·rw [if_pos hc] at hx
   have := h1 (stS vs p c)
   have := h2 c hc
   simp only [List.mem_cons, List.mem_nil_iff, or_false] at hx
   rcases hx with rfl | rfl <;> omega
  ·rw [if_neg hc] at hx
   simp only [List.mem_cons, List.mem_nil_iff, or_false] at hx
   rcases hx with rfl | rfl <;> omega
 intro x hx
 have := h1 p
 unfold sgn at hx
 rcases List.mem_cons.1 hx with rfl | hx
 ·omega
 ·simp only [List.mem_append] at hx
  rcases hx with hx | hx | hx | hx
  ·exact key 0 x hx
  ·exact key 1 x hx
  ·exact key 2 x hx
  ·exact key 3 x hx
theorem ouS_small {b : Book} (hB : BOk b) {p : Sta} (hp : p ∈ allP b.vs) {c : Nat} (hc : c < b.cues.toNat) : 0 ≤ ouS b.vs p c ∧ ouS b.vs p c ≤ 1000 := by
 obtain ⟨h1, h2⟩ := allP_mem.1 hp
 have hV := hB.2 _ (vAt_of h1).2
 obtain ⟨x, k1, k2, _, _⟩ := mv_at hV.vers.1 h2 hc
 have := (hV.1 x (List.mem_of_getElem? k1)).2 _ (List.mem_of_getElem? k2)
 have ht := hB.1.2.1
 unfold inI at this ht
 show 0 ≤ (mv (vAt b.vs p.1) p.2 c).2 ∧ (mv (vAt b.vs p.1) p.2 c).2 ≤ 1000
 omega
theorem under_kE {n N : Nat} (es : List (List Int × Int)) : (Blk.map (.arr N) (kE es)).under n := by
 show AV.unders n ((kE es).map (·.2))
 unfold kE
 rw [List.map_map]
 exact unders_map (f := fun p : List Int × Int => n' p.2) (fun _ => by unfold n'; trivial) es
theorem kE_lits {es : List (List Int × Int)} : ∀ p ∈ kE es, ∃ v, p.2 = .lit v := fun p hp => by
 obtain ⟨q, _, rfl⟩ := List.mem_map.1 hp
 exact ⟨_, rfl⟩
theorem kE_length (es : List (List Int × Int)) : (kE es).length = es.length := List.length_map _
def mapB (vs : List Vers) (n s : Nat) (cl : Sta → Nat) : Blk := .map (.arr 2) (kE (cE (preP vs n s) cl))
def numB (vs : List Vers) (K r n s : Nat) : Blk := .map (.arr 9) (kE (nE (ddS ((preP vs n s).map (sgn vs K (clR vs K r)))) 0))
def nine (l : List Int) : List Int := [l.getD 0 0, l.getD 1 0, l.getD 2 0, l.getD 3 0, l.getD 4 0, l.getD 5 0, l.getD 6 0, l.getD 7 0, l.getD 8 0]
theorem nine_eq {l : List Int} (h : l.length = 9) : nine l = l := by
 match l, h with
 | [_, _, _, _, _, _, _, _, _], _ => rfl
def xB (vs : List Vers) (K r n s c : Nat) : Blk := .box [n' ((sgn vs c (clR vs K r) (n, s)).getD 0 0), n' ((sgn vs c (clR vs K r) (n, s)).getD 1 0), n' ((sgn vs c (clR vs K r) (n, s)).getD 2 0), n' ((sgn vs c (clR vs K r) (n, s)).getD 3 0), n' ((sgn vs c (clR vs K r) (n, s)).getD 4 0), n' ((sgn vs c (clR vs K r) (n, s)).getD 5 0), n' ((sgn vs c (clR vs K r) (n, s)).getD 6 0), n' ((sgn vs c (clR vs K r) (n, s)).getD 7 0), n' ((sgn vs c (clR vs K r) (n, s)).getD 8 0)] 197
theorem xB_under (vs : List Vers) (K r n s c m : Nat) : (xB vs K r n s c).under m := ⟨trivial, trivial, trivial, trivial, trivial, trivial, trivial, trivial, trivial, trivial⟩
def clN (b : Book) (r nw nu nx : Nat) (n : Nat) : List (Nat × AV) := [(1, .ptr 0 0), (3, .mp nw), (7, n' (manyR b.vs b.cues.toNat r : Nat)), (8, .mp nu), (9, .mp nx), (43, eVersions b.vs), (44, n' b.vs.length), (45, n' n)]
def clS (b : Book) (r nw nu nx vid : Nat) (n s : Nat) : List (Nat × AV) := (10, n' n) :: (11, .ptr vid 0) :: (52, n' (vAt b.vs n).length) :: (53, n' s) :: clN b r nw nu nx n
def clC (b : Book) (r nw nu nx vid xid : Nat) (n s c : Nat) : List (Nat × AV) := (12, n' s) :: (13, .ptr xid 0) :: (63, n' b.cues) :: (64, n' c) :: clS b r nw nu nx vid n s
def blN (b : Book) (r nw nu nx n s : Nat) : List (Nat × Blk) := [(0, bBox b), (nw, mapB b.vs b.vs.length 0 (clR b.vs b.cues.toNat r)), (nu, numB b.vs b.cues.toNat r n s), (nx, mapB b.vs n s (clR b.vs b.cues.toNat (r + 1)))]
theorem next_value {vs : List Vers} {K r n s : Nat} (hn : n < vs.length) (hs : s < (vAt vs n).length) : clR vs K (r + 1) (n, s) = ixS (sgn vs K (clR vs K r) (n, s)) (ddS ((preP vs n (s + 1)).map (sgn vs K (clR vs K r)))) := by
 obtain ⟨R, hR⟩ := preP_more (s := s + 1) hn (by omega)
 show ixS _ (ddS ((allP vs).map _)) = _
 rw [hR, List.map_append]
 refine ddS_ix (List.mem_map.2 ⟨(n, s), ?_, rfl⟩)
 rw [preP_succ]
 simp
theorem mapB_next {vs : List Vers} {n s : Nat} {cl : Sta → Nat} {v : Int} (hv : v = (cl (n, s) : Nat)) : Blk.map (.arr 2) (kE (cE (preP vs n s) cl ++ [([(n : Int), (s : Int)], v)])) = mapB vs n (s + 1) cl := by
 subst hv
 unfold mapB
 rw [preP_succ, cE_snoc]
theorem mapB_row {vs : List Vers} {n : Nat} {cl : Sta → Nat} : mapB vs n (vAt vs n).length cl = mapB vs (n + 1) 0 cl := by
 unfold mapB
 rw [preP_row]
theorem numB_row {vs : List Vers} {K r n : Nat} : numB vs K r n (vAt vs n).length = numB vs K r (n + 1) 0 := by
 unfold numB
 rw [preP_row]
theorem numB_old {vs : List Vers} {K r n s : Nat} (h : sgn vs K (clR vs K r) (n, s) ∈ ddS ((preP vs n s).map (sgn vs K (clR vs K r)))) : ddS ((preP vs n (s + 1)).map (sgn vs K (clR vs K r))) = ddS ((preP vs n s).map (sgn vs K (clR vs K r))) := by
 rw [preP_succ, List.map_append]
 show ddS (_ ++ [_]) = _
 rw [ddS_snoc]
 exact if_pos h
theorem numB_new {vs : List Vers} {K r n s : Nat} (h : sgn vs K (clR vs K r) (n, s) ∉ ddS ((preP vs n s).map (sgn vs K (clR vs K r)))) : ddS ((preP vs n (s + 1)).map (sgn vs K (clR vs K r))) = ddS ((preP vs n s).map (sgn vs K (clR vs K r))) ++ [sgn vs K (clR vs K r) (n, s)] := by
 rw [preP_succ, List.map_append]
 show ddS (_ ++ [_]) = _
 rw [ddS_snoc]
 exact if_neg h
theorem now_look {vs : List Vers} {n s : Nat} {cl : Sta → Nat} {i : Int} (hi : i = s) (h : (n, s) ∈ allP vs) : lookI (cE (preP vs vs.length 0) cl) [(n : Int), i] = some ((cl (n, s) : Nat) : Int) := by
 subst hi
 rw [preP_all]
 exact cE_look h
def ClassOk (b : Book) (es : List (Value × AV)) : Prop := ∃ cl : Sta → Nat, es = kE (cE (allP b.vs) cl) ∧ (∀ p, cl p ≤ 16) ∧ ∀ p ∈ allP b.vs, ∀ q ∈ allP b.vs, (cl p = cl q ↔ ∀ l, OkL b.cues.toNat l → trM (stS b.vs) (ouS b.vs) p l = trM (stS b.vs) (ouS b.vs) q l)
set_option maxHeartbeats 40000000 in
set_option maxRecDepth 100000 in
theorem c_classes {b : Book} (hB : BOk b) : ∃ es, ClassOk b es ∧ ∀ H, ACall Tryz.prog 111 [eBook b] H (.ret (.mp H.length)) (H ++ [.map (.arr 2) es]) := by
 have hbc := hB.1.1
 have hvn4 := hB.1.2.2
 unfold inI at hbc hvn4
 have hsm := allP_small (vs := b.vs) (by omega) (fun v hv => by have := (hB.2 v hv).2; unfold inI at this; omega)
 have hcs := clR_small (K := b.cues.toNat) hsm
 refine fn_ruleN (m := false) (fn := Tryz.f111) (c := (Tryz.f111.body).getD .skip) (sh := .arr 2) _ mixed (by kernel_rfl) (by kernel_rfl) (of_decide_eq_true (by kernel_rfl)) ?_ ?_
 ·exact ⟨under_eBook 0 _, trivial⟩
 ·refine LoopG.at (n0 := 2) rfl (loop_up mixed (m := false) (fun n => [(1, .ptr 0 0), (3, .mp 1), (21, eVersions b.vs), (22, n' b.vs.length), (23, n' n)]) (fun n => [(0, bBox b), (1, mapB b.vs n 0 (clR b.vs b.cues.toNat 0))]) (fun _ => True) b.vs.length 1 (leb rfl) trivial ?_ ?_ ?_)
  ·repeat first | exact trivial | refine ⟨⟨_, rfl, Weak.refl _ _, by first | exact trivial | exact ltb rfl | exact under_eVersions _ _⟩, ?_⟩
  ·repeat first | exact trivial | refine ⟨bk rfl rfl, ?_⟩
  intro n hn _
  refine If.mk (fun h1 => ?_) (fun h1 => ?_)
  ·refine ifY ?_
   have hn' : n < b.vs.length := by omega
   obtain ⟨hvn, hvm⟩ := vAt_of hn'
   have hv4 := (hB.2 _ hvm).2
   unfold inI at hv4
   refine Ex.mk _ (jx_versions (r := n) rfl hvn) ?_
   refine Ex.mk _ rfl ?_
   refine LoopG.at (n0 := 3) rfl (loop_up mixed (m := false) (fun s => [(1, .ptr 0 0), (3, .mp 1), (4, n' n), (21, eVersions b.vs), (22, n' b.vs.length), (23, n' n), (30, n' (vAt b.vs n).length), (31, n' s)]) (fun s => [(0, bBox b), (1, mapB b.vs n s (clR b.vs b.cues.toNat 0)), (2, vBox (vAt b.vs n))]) (fun _ => True) (vAt b.vs n).length 1 (leb rfl) trivial ?_ ?_ ?_)
   ·repeat first | exact trivial | refine ⟨⟨_, rfl, Weak.refl _ _, by first | exact trivial | exact ltb rfl | exact under_eVersions _ _⟩, ?_⟩
   ·repeat first | exact trivial | refine ⟨bk rfl rfl, ?_⟩
   ·intro s hs _
    refine If.mk (fun h2 => ?_) (fun h2 => ?_)
    ·refine ifY ?_
     refine Ex.mk _ (aop_setK (kt := 141) (et := 3) (key := [(n : Int), (s : Int)]) rfl rfl rfl rfl rfl (by kernel_rfl) rfl (fun x hx => by simp at hx; omega) (cE_new preP_new) (v := ((clR b.vs b.cues.toNat 0 (n, s) : Nat) : Int))) ?_
     refine Side.mk (fits64 (by omega)) ?_
     refine ⟨leb rfl, rfl, by omega, trivial, ?_, ⟨bk rfl rfl, ⟨congrArg some (mapB_next rfl), ltb rfl⟩, bk rfl rfl, trivial⟩, ?_⟩
     ·repeat first | exact trivial | refine ⟨⟨_, rfl, Weak.refl _ _, by first | exact trivial | exact ltb rfl | exact under_eVersions _ _⟩, ?_⟩
     ·repeat first | exact trivial | refine ⟨⟨_, rfl, by first | exact under_kE _ | exact vBox_under _ _ | exact xB_under _ _ _ _ _ _ _⟩, ?_⟩
    ·refine ifN ?_
     obtain rfl : s = (vAt b.vs n).length := by omega
     refine ⟨leb rfl, ?_⟩
     refine Side.mk (fits64 (by omega)) ?_
     refine ⟨leb rfl, rfl, by omega, trivial, ?_, ⟨bk rfl rfl, ⟨congrArg some mapB_row, ltb rfl⟩, trivial⟩, ?_⟩
     ·repeat first | exact trivial | refine ⟨⟨_, rfl, Weak.refl _ _, by first | exact trivial | exact ltb rfl | exact under_eVersions _ _⟩, ?_⟩
     ·repeat first | exact trivial | refine ⟨⟨_, rfl, by first | exact under_kE _ | exact vBox_under _ _ | exact xB_under _ _ _ _ _ _ _⟩, ?_⟩
  refine ifN ?_
  obtain rfl : n = b.vs.length := by omega
  refine ⟨leb rfl, ?_⟩
  have hv : ∀ v ∈ b.vs, VersOk v b.cues.toNat := fun v hv => (hB.2 v hv).vers.1
  have hne : allP b.vs ≠ [] := fun e => by
   have : ((0, 0) : Sta) ∈ allP b.vs := allP_mem.2 ⟨by omega, (hB.2 _ (vAt_of (show 0 < b.vs.length by omega)).2).vers.2⟩
   rw [e] at this
   cases this
  refine LoopG.at (n0 := 2) rfl (loop_sw (m := false) (α := { r : Nat // ∀ q, q < r → manyR b.vs b.cues.toNat (q + 1) ≠ manyR b.vs b.cues.toNat q }) mixed (fun a => [(1, .ptr 0 0), (7, n' (manyR b.vs b.cues.toNat a.1 : Nat))]) (fun a => kE (cE (allP b.vs) (clR b.vs b.cues.toNat a.1))) [(0, bBox b)] (fun a => 17 - a.1) (.arr 2) 3 2 1 (ClassOk b) ⟨0, fun q h => by omega⟩ rfl ?_ ?_ ?_ ?_ ?_ ?_ ?_)
  ·exact ⟨wp rfl (ltb rfl), wp rfl (ltb rfl), wp rfl trivial, trivial⟩
  ·refine ⟨⟨?_, ltb rfl⟩, bk rfl rfl, trivial⟩
   show some (mapB b.vs b.vs.length 0 (clR b.vs b.cues.toNat 0)) = _
   unfold mapB
   rw [preP_all]
  ·intro id hid
   obtain rfl : id = 0 := by omega
   exact ⟨bBox b, rfl, bBox_under _ _⟩
  ·exact fun a => kE_lits
  ·rintro e ⟨cl, rfl, _⟩
   exact kE_lits
  ·rintro ⟨r, hr⟩
   refine LoopG.at (n0 := 4) rfl (loop_up mixed (m := false) (clN b r 1 2 3) (fun n => blN b r 1 2 3 n 0) (fun _ => True) b.vs.length 2 (leb rfl) trivial ?_ ?_ ?_)
   ·repeat first | exact trivial | refine ⟨⟨_, rfl, Weak.refl _ _, by first | exact trivial | exact ltb rfl | exact under_eVersions _ _⟩, ?_⟩
   ·refine ⟨bk rfl rfl, ⟨?_, ltb rfl⟩, bk rfl rfl, bk rfl rfl, trivial⟩
    show some (Blk.map (.arr 2) (kE (cE (allP b.vs) (clR b.vs b.cues.toNat r)))) = some (mapB b.vs b.vs.length 0 (clR b.vs b.cues.toNat r))
    unfold mapB
    rw [preP_all]
   intro n hn _
   refine If.mk (fun h1 => ?_) (fun h1 => ?_)
   ·refine ifY ?_
    have hn' : n < b.vs.length := by omega
    obtain ⟨hvn, hvm⟩ := vAt_of hn'
    have hV := hB.2 _ hvm
    have hv4 := hV.2
    unfold inI at hv4
    refine Ex.mk _ (jx_versions (r := n) rfl hvn) ?_
    refine Ex.mk _ rfl ?_
    refine LoopG.at (n0 := 5) rfl (loop_up mixed (m := false) (clS b r 1 2 3 4 n) (fun s => (4, vBox (vAt b.vs n)) :: blN b r 1 2 3 n s) (fun _ => True) (vAt b.vs n).length 2 (leb rfl) trivial ?_ ?_ ?_)
    ·repeat first | exact trivial | refine ⟨⟨_, rfl, Weak.refl _ _, by first | exact trivial | exact ltb rfl | exact under_eVersions _ _⟩, ?_⟩
    ·repeat first | exact trivial | refine ⟨bk rfl rfl, ?_⟩
    intro s hs _
    refine If.mk (fun h2 => ?_) (fun h2 => ?_)
    ·refine ifY ?_
     have hs' : s < (vAt b.vs n).length := by omega
     have hp : (n, s) ∈ allP b.vs := allP_mem.2 ⟨hn', hs'⟩
     have hcp := hcs r (n, s)
     refine Ex.mk _ (aop_lookK (kt := 141) (et := 3) (key := [(n : Int), (s : Int)]) rfl rfl rfl rfl (by kernel_rfl) (by kernel_rfl) rfl (fun x hx => by simp at hx; omega) (now_look rfl hp)) ?_
     refine LoopG.at (n0 := 6) rfl (loop_up mixed (m := false) (clC b r 1 2 3 4 5 n s) (fun c => (5, xB b.vs b.cues.toNat r n s c) :: (4, vBox (vAt b.vs n)) :: blN b r 1 2 3 n s) (fun _ => True) b.cues.toNat 5 (leb rfl) trivial ?_ ?_ ?_)
     ·repeat first | exact trivial | refine ⟨⟨_, rfl, Weak.refl _ _, by first | exact trivial | exact ltb rfl | exact under_eVersions _ _⟩, ?_⟩
     ·repeat first | exact trivial | refine ⟨bk rfl rfl, ?_⟩
     ·intro c hc _
      refine If.mk (fun h3 => ?_) (fun h3 => ?_)
      ·refine ifY ?_
       obtain ⟨y, hy1, hy2, hy3, hy4⟩ := mv_at hV.vers.1 hs' (show c < b.cues.toNat by omega)
       have hq : (n, (mv (vAt b.vs n) s c).1.toNat) ∈ allP b.vs := allP_mem.2 ⟨hn', hy3⟩
       refine CallG.pure _ (c_hears hy1 hy2) ?_
       rcases (show c = 0 ∨ c = 1 ∨ c = 2 ∨ c = 3 by omega) with rfl | rfl | rfl | rfl
       all_goals
        refine PickW.mk [5] ?_
        iterate 4 refine Side.mk (by unfold fitsK; kernel_rfl) ?_
        refine Ex.mk _ (aop_lookK (kt := 141) (et := 3) (key := [(n : Int), _]) rfl rfl rfl rfl (by kernel_rfl) (by kernel_rfl) rfl (fun x hx => by simp at hx; omega) (now_look hy4.symm hq)) ?_
        refine Side.mk (by unfold fitsK; kernel_rfl) ?_
        refine ⟨leb rfl, rfl, by omega, trivial, ?_, ?_, ?_⟩
        ·repeat first | exact trivial | refine ⟨⟨_, rfl, Weak.refl _ _, by first | exact trivial | exact ltb rfl | exact under_eVersions _ _⟩, ?_⟩
        ·repeat first | exact trivial | refine ⟨bk rfl rfl, ?_⟩
        ·first
          | exact ⟨⟨xB b.vs b.cues.toNat r n s 1, rfl, xB_under _ _ _ _ _ _ _⟩, trivial⟩
          | exact ⟨⟨xB b.vs b.cues.toNat r n s 2, rfl, xB_under _ _ _ _ _ _ _⟩, trivial⟩
          | exact ⟨⟨xB b.vs b.cues.toNat r n s 3, rfl, xB_under _ _ _ _ _ _ _⟩, trivial⟩
          | exact ⟨⟨xB b.vs b.cues.toNat r n s 4, rfl, xB_under _ _ _ _ _ _ _⟩, trivial⟩
      ·refine ifN ?_
       obtain rfl : c = b.cues.toNat := by omega
       refine ⟨leb rfl, ?_⟩
       have hxs : ∀ x ∈ sgn b.vs b.cues.toNat (clR b.vs b.cues.toNat r) (n, s), -1 ≤ x ∧ x ≤ 1000 := sgn_small (hcs r) (fun c hc => ouS_small hB hp hc)
       have hnv : lookI (nE (ddS ((preP b.vs n (s + 1)).map (sgn b.vs b.cues.toNat (clR b.vs b.cues.toNat r)))) 0) (sgn b.vs b.cues.toNat (clR b.vs b.cues.toNat r) (n, s)) = some ((clR b.vs b.cues.toNat (r + 1) (n, s) : Nat) : Int) := by
        rw [nE_look (ddS_mem.2 (List.mem_map.2 ⟨(n, s), by rw [preP_succ]; simp, rfl⟩)), Nat.zero_add, next_value hn' hs']
       have h9 := nine_eq (sgn_length b.vs b.cues.toNat (clR b.vs b.cues.toNat r) (n, s))
       by_cases hm : sgn b.vs b.cues.toNat (clR b.vs b.cues.toNat r) (n, s) ∈ ddS ((preP b.vs n s).map (sgn b.vs b.cues.toNat (clR b.vs b.cues.toNat r)))
       ·have hold := numB_old hm
        refine Ex.mk _ (aop_lookK2 (kt := 197) (et := 3) (key := nine (sgn b.vs b.cues.toNat (clR b.vs b.cues.toNat r) (n, s))) rfl rfl rfl rfl (by kernel_rfl) (by kernel_rfl) rfl (by rw [h9]; exact hxs) (by rw [h9]; exact nE_look hm)) ?_
        refine ifN ?_
        rw [hold] at hnv
        refine Ex.mk _ (aop_lookK (kt := 197) (et := 3) (key := nine (sgn b.vs b.cues.toNat (clR b.vs b.cues.toNat r) (n, s))) rfl rfl rfl rfl (by kernel_rfl) (by kernel_rfl) rfl (by rw [h9]; exact hxs) (by rw [h9]; exact hnv)) ?_
        refine Ex.mk _ (aop_setK (kt := 141) (et := 3) (key := [(n : Int), (s : Int)]) rfl rfl rfl rfl rfl (by kernel_rfl) rfl (fun x hx => by simp at hx; omega) (cE_new preP_new)) ?_
        refine Side.mk (fits64 (by omega)) ?_
        refine ⟨leb rfl, rfl, by omega, trivial, ?_, ⟨bk rfl rfl, bk rfl rfl, bk rfl rfl, ⟨(by show some (numB b.vs b.cues.toNat r n s) = some (numB b.vs b.cues.toNat r n (s + 1)); unfold numB; rw [hold]), ltb rfl⟩, ⟨congrArg some (mapB_next rfl), ltb rfl⟩, trivial⟩, ?_⟩
        ·repeat first | exact trivial | refine ⟨⟨_, rfl, Weak.refl _ _, by first | exact trivial | exact ltb rfl | exact under_eVersions _ _⟩, ?_⟩
        ·repeat first | exact trivial | refine ⟨⟨_, rfl, by first | exact under_kE _ | exact vBox_under _ _ | exact xB_under _ _ _ _ _ _ _⟩, ?_⟩
       ·have hnew := numB_new hm
        refine Ex.mk _ (aop_lookN2 (kt := 197) (et := 3) (key := nine (sgn b.vs b.cues.toNat (clR b.vs b.cues.toNat r) (n, s))) rfl rfl rfl rfl (by kernel_rfl) (by kernel_rfl) rfl (by rw [h9]; exact hxs) (by rw [h9]; exact lookI_none (nE_keys hm))) ?_
        refine ifY ?_
        have hset : Blk.map (.arr 9) (kE (nE (ddS ((preP b.vs n s).map (sgn b.vs b.cues.toNat (clR b.vs b.cues.toNat r)))) 0 ++ [(nine (sgn b.vs b.cues.toNat (clR b.vs b.cues.toNat r) (n, s)), (((kE (nE (ddS ((preP b.vs n s).map (sgn b.vs b.cues.toNat (clR b.vs b.cues.toNat r)))) 0)).length : Nat) : Int))])) = numB b.vs b.cues.toNat r n (s + 1) := by
         unfold numB
         rw [h9, hnew, nE_snoc, kE_length, nE_length, Nat.zero_add]
        refine Ex.mk _ ((aop_setK (kt := 197) (et := 3) (N := 9) (key := nine (sgn b.vs b.cues.toNat (clR b.vs b.cues.toNat r) (n, s))) (es := nE (ddS ((preP b.vs n s).map (sgn b.vs b.cues.toNat (clR b.vs b.cues.toNat r)))) 0) (v := (((kE (nE (ddS ((preP b.vs n s).map (sgn b.vs b.cues.toNat (clR b.vs b.cues.toNat r)))) 0)).length : Nat) : Int)) rfl rfl rfl rfl rfl (by kernel_rfl) rfl (by rw [h9]; exact hxs) (by rw [h9]; exact nE_keys hm)).trans (congrArg (fun B => some (DR.val (.lit undef) (Dl.set 2 B))) hset)) ?_
        refine Ex.mk _ (aop_lookK (kt := 197) (et := 3) (key := nine (sgn b.vs b.cues.toNat (clR b.vs b.cues.toNat r) (n, s))) rfl rfl rfl rfl (by kernel_rfl) (by kernel_rfl) rfl (by rw [h9]; exact hxs) (by rw [h9]; exact hnv)) ?_
        refine Ex.mk _ (aop_setK (kt := 141) (et := 3) (key := [(n : Int), (s : Int)]) rfl rfl rfl rfl rfl (by kernel_rfl) rfl (fun x hx => by simp at hx; omega) (cE_new preP_new)) ?_
        refine Side.mk (fits64 (by omega)) ?_
        refine ⟨leb rfl, rfl, by omega, trivial, ?_, ⟨bk rfl rfl, bk rfl rfl, bk rfl rfl, bk rfl rfl, ⟨congrArg some (mapB_next rfl), ltb rfl⟩, trivial⟩, ?_⟩
        ·repeat first | exact trivial | refine ⟨⟨_, rfl, Weak.refl _ _, by first | exact trivial | exact ltb rfl | exact under_eVersions _ _⟩, ?_⟩
        ·repeat first | exact trivial | refine ⟨⟨_, rfl, by first | exact under_kE _ | exact vBox_under _ _ | exact xB_under _ _ _ _ _ _ _⟩, ?_⟩
    ·refine ifN ?_
     obtain rfl : s = (vAt b.vs n).length := by omega
     refine ⟨leb rfl, ?_⟩
     refine Side.mk (fits64 (by omega)) ?_
     refine ⟨leb rfl, rfl, by omega, trivial, ?_, ⟨bk rfl rfl, bk rfl rfl, ⟨congrArg some numB_row, ltb rfl⟩, ⟨congrArg some mapB_row, ltb rfl⟩, trivial⟩, ?_⟩
     ·repeat first | exact trivial | refine ⟨⟨_, rfl, Weak.refl _ _, by first | exact trivial | exact ltb rfl | exact under_eVersions _ _⟩, ?_⟩
     ·repeat first | exact trivial | refine ⟨⟨_, rfl, by first | exact under_kE _ | exact vBox_under _ _ | exact xB_under _ _ _ _ _ _ _⟩, ?_⟩
   ·refine ifN ?_
    obtain rfl : n = b.vs.length := by omega
    refine ⟨leb rfl, ?_⟩
    have hlen : (kE (nE (ddS ((preP b.vs b.vs.length 0).map (sgn b.vs b.cues.toNat (clR b.vs b.cues.toNat r)))) 0)).length = manyR b.vs b.cues.toNat (r + 1) := by
     rw [kE_length, nE_length, preP_all]
     rfl
    have hmap : mapB b.vs b.vs.length 0 (clR b.vs b.cues.toNat (r + 1)) = Blk.map (.arr 2) (kE (cE (allP b.vs) (clR b.vs b.cues.toNat (r + 1)))) := by
     unfold mapB
     rw [preP_all]
    refine If.mk (fun he => ?_) (fun he => ?_)
    ·refine ifY ?_
     rw [hlen] at he
     have he' : manyR b.vs b.cues.toNat (r + 1) = manyR b.vs b.cues.toNat r := by omega
     refine ⟨leb rfl, rfl, 3, _, leb rfl, rfl, congrArg some hmap, clR b.vs b.cues.toNat (r + 1), rfl, hcs (r + 1), fun p hp q hq => stable hv (by omega) hne he' hp hq⟩
    ·refine ifN ?_
     rw [hlen] at he
     have hr' : ∀ q, q < r + 1 → manyR b.vs b.cues.toNat (q + 1) ≠ manyR b.vs b.cues.toNat q := fun q hq e => by
      by_cases hqr : q = r
      ·subst hqr
       exact he (by omega)
      ·exact hr q (by omega) e
     have h16 := many_grows hne (r + 1) hr'
     have h17 := many_le (vs := b.vs) (K := b.cues.toNat) r
     refine ⟨leb rfl, rfl, ⟨r + 1, hr'⟩, ?_, ⟨3, leb rfl, rfl, congrArg some hmap⟩, wp rfl (ltb rfl), ⟨_, rfl, Weak.of_eq (?_), trivial⟩, trivial⟩
     ·show 17 - (r + 1) < 17 - r
      omega
     ·exact congrArg n' (congrArg Int.ofNat hlen)
  ·intro es' hes
   exact ⟨.inl rfl, rfl, _, _, rfl, rfl, (by obtain ⟨cl, rfl, _⟩ := hes; exact kE_lits), hes⟩
end Go.Vm
