/-
  Reduced versions, on which this claim rests; no statement of the program is proved here. Conditions: none.
-/
import Derived.Test.YtdhdaadoehbopaaGreatDoorCo
import Derived.Test.YtdhdaadoehbopaaGreatDoorCp
import Derived.Test.YtdhdaadoehbopaaGreatDoorCr
import Derived.Test.YtdhdaadoehbopaaGreatDoorCa
import Derived.Test.YtdhdaadoehbopaaGreatDoorCb

namespace Go.Vm
open Go.Proofs
section
variable (al : Nat → Nat → Bool)
def plcB : List Nat → Nat → Option Nat
 | [], _ => none
 | x :: l, n => if al x n = true then some 0 else (plcB l n).map (· + 1)
def insB (S : List Nat) (n : Nat) : List Nat := if (plcB al S n).isSome then S else S ++ [n]
def numN (S : List Nat) (n : Nat) : Nat := (plcB al S n).getD 0
variable (v : Vers) (K : Nat)
def nxS (a c : Nat) : Nat := (mv v a c).1.toNat
def rowF (S : List Nat) (i : Nat) : Nat → List Nat
 | 0 => S
 | c + 1 => insB al (rowF S i c) (nxS v (S.getD i 0) c)
def stF : Nat → List Nat
 | 0 => [0]
 | i + 1 => rowF al v (stF i) i K
def mvO (i c : Nat) : Move := (((numN al (rowF al v (stF al v K i) i (c + 1)) (nxS v ((stF al v K i).getD i 0) c) : Nat) : Int), (mv v ((stF al v K i).getD i 0) c).2)
def rowO (i n : Nat) : List Move := (List.range n).map (mvO al v K i)
def redR (N : Nat) : Vers := (List.range N).map fun i => rowO al v K i K
structure Exit (N : Nat) : Prop where
 on : ∀ i, i < N → i < (stF al v K i).length
 off : (stF al v K N).length ≤ N
end
section
variable {al : Nat → Nat → Bool}
theorem plcB_app {n : Nat} : ∀ {S T : List Nat} {q : Nat}, plcB al S n = some q → plcB al (S ++ T) n = some q
 | x :: S, T, q, h => by
  show (if al x n = true then some 0 else (plcB al (S ++ T) n).map (· + 1)) = some q
  have h : (if al x n = true then some 0 else (plcB al S n).map (· + 1)) = some q := h
  by_cases e : al x n = true
  ·rw [if_pos e] at h ⊢; exact h
  ·rw [if_neg e] at h ⊢
   cases hq : plcB al S n with
   | none => rw [hq] at h; cases h
   | some p => rw [hq] at h; rw [plcB_app hq]; exact h
theorem plcB_new {n : Nat} (hr : al n n = true) : ∀ {S : List Nat}, plcB al S n = none → plcB al (S ++ [n]) n = some S.length
 | [], _ => by show (if al n n = true then some 0 else _) = _; rw [if_pos hr]; rfl
 | x :: S, h => by
  show (if al x n = true then some 0 else (plcB al (S ++ [n]) n).map (· + 1)) = _
  have h : (if al x n = true then some 0 else (plcB al S n).map (· + 1)) = none := h
  by_cases e : al x n = true
  ·rw [if_pos e] at h; cases h
  ·rw [if_neg e] at h ⊢
   cases hq : plcB al S n with
   | none => rw [plcB_new hr hq]; rfl
   | some p => rw [hq] at h; cases h
theorem plcB_lt {n : Nat} : ∀ {S : List Nat} {q : Nat}, plcB al S n = some q → q < S.length
 | x :: S, q, h => by
  have h : (if al x n = true then some 0 else (plcB al S n).map (· + 1)) = some q := h
  by_cases e : al x n = true
  ·rw [if_pos e] at h
   cases h
   simp
  ·rw [if_neg e] at h
   cases hq : plcB al S n with
   | none => rw [hq] at h; cases h
   | some p =>
    rw [hq] at h
    obtain rfl := Option.some.inj h
    have := plcB_lt hq
    simp
    omega
theorem plcB_none {n : Nat} : ∀ {S : List Nat}, plcB al S n = none ↔ ∀ x ∈ S, al x n = false
 | [] => ⟨fun _ x hx => (by cases hx), fun _ => rfl⟩
 | x :: S => by
  show (if al x n = true then some 0 else (plcB al S n).map (· + 1)) = none ↔ _
  by_cases e : al x n = true
  ·rw [if_pos e]
   exact ⟨fun h => (by cases h), fun h => (by rw [h x (by simp)] at e; cases e)⟩
  ·rw [if_neg e, Option.map_eq_none_iff, plcB_none (S := S)]
   have e' : al x n = false := by simpa using e
   exact ⟨fun h y hy => (List.mem_cons.1 hy).elim (fun h2 => (by rw [h2]; exact e')) (h y), fun h y hy => h y (by simp [hy])⟩
theorem insB_more (S : List Nat) (n : Nat) : ∃ R, insB al S n = S ++ R := by
 unfold insB
 split
 ·exact ⟨[], by simp⟩
 ·exact ⟨[n], rfl⟩
variable {v : Vers} {K : Nat}
theorem rowF_more (S : List Nat) (i : Nat) : ∀ {c d : Nat}, c ≤ d → ∃ R, rowF al v S i d = rowF al v S i c ++ R := fun {c d} h => by
 obtain ⟨e, rfl⟩ := Nat.exists_eq_add_of_le h
 induction e with
 | zero => exact ⟨[], by simp⟩
 | succ e ih =>
  obtain ⟨R, hR⟩ := ih (by omega)
  obtain ⟨R', hR'⟩ := insB_more (al := al) (rowF al v S i (c + e)) (nxS v (S.getD i 0) (c + e))
  refine ⟨R ++ R', ?_⟩
  show insB al (rowF al v S i (c + e)) (nxS v (S.getD i 0) (c + e)) = _
  rw [hR', hR, List.append_assoc]
theorem stF_more {i j : Nat} (h : i ≤ j) : ∃ R, stF al v K j = stF al v K i ++ R := by
 obtain ⟨e, rfl⟩ := Nat.exists_eq_add_of_le h
 induction e with
 | zero => exact ⟨[], by simp⟩
 | succ e ih =>
  obtain ⟨R, hR⟩ := ih (by omega)
  obtain ⟨R', hR'⟩ := rowF_more (al := al) (v := v) (stF al v K (i + e)) (i + e) (Nat.zero_le K)
  refine ⟨R ++ R', ?_⟩
  show rowF al v (stF al v K (i + e)) (i + e) K = _
  rw [hR']
  show stF al v K (i + e) ++ R' = _
  rw [hR, List.append_assoc]
theorem st_row {i j c : Nat} (h : i < j) (hc : c ≤ K) : ∃ R, stF al v K j = rowF al v (stF al v K i) i c ++ R := by
 obtain ⟨R, hR⟩ := stF_more (al := al) (v := v) (K := K) (i := i + 1) (j := j) h
 obtain ⟨R', hR'⟩ := rowF_more (al := al) (v := v) (stF al v K i) i hc
 refine ⟨R' ++ R, ?_⟩
 rw [hR, ← List.append_assoc, ← hR']
 rfl
structure StOkR (al : Nat → Nat → Bool) (v : Vers) (S : List Nat) : Prop where
 lt : ∀ x ∈ S, x < v.length
 apart : S.Pairwise fun x y => al x y = false
theorem StOkR.nodup {S : List Nat} (h : StOkR al v S) (hr : ∀ x, x < v.length → al x x = true) : S.Nodup := by
 refine h.apart.imp_of_mem fun {a b} ha _ hab e => ?_
 subst e
 rw [hr a (h.lt a ha)] at hab
 cases hab
theorem StOkR.ins {S : List Nat} {n : Nat} (h : StOkR al v S) (hn : n < v.length) : StOkR al v (insB al S n) := by
 unfold insB
 cases hp : plcB al S n with
 | some q => simpa using h
 | none =>
  refine ⟨fun x hx => ?_, ?_⟩
  ·simp at hx
   rcases hx with hx | rfl
   ·exact h.lt x hx
   ·exact hn
  ·simp only [Option.isSome_none, Bool.false_eq_true, if_false]
   exact List.pairwise_append.2 ⟨h.apart, List.pairwise_singleton _ _, fun x hx y hy => by
    rw [List.mem_singleton] at hy
    subst hy
    exact plcB_none.1 hp x hx⟩
theorem StOkR.length {S : List Nat} (h : StOkR al v S) (hr : ∀ x, x < v.length → al x x = true) : S.length ≤ v.length := by
 have := nodup_length (h.nodup hr) (U := List.range v.length) fun x hx => List.mem_range.2 (h.lt x hx)
 simpa using this
theorem getD_lt {S : List Nat} {i : Nat} (h : i < S.length) : S.getD i 0 ∈ S := by
 have : S.getD i 0 = S[i] := by simp [List.getD, List.getElem?_eq_getElem h]
 rw [this]
 exact List.getElem_mem h
theorem getD_app {S R : List Nat} {i : Nat} (h : i < S.length) : (S ++ R).getD i 0 = S.getD i 0 := by
 simp [List.getD, List.getElem?_append_left h]
variable (hnx : ∀ x, x < v.length → ∀ c, c < K → nxS v x c < v.length)
include hnx
theorem rowF_ok {S : List Nat} (h : StOkR al v S) {i : Nat} (hi : i < S.length) : ∀ {c : Nat}, c ≤ K → StOkR al v (rowF al v S i c)
 | 0, _ => h
 | c + 1, hc => (rowF_ok h hi (c := c) (by omega)).ins (hnx _ (h.lt _ (getD_lt hi)) c hc)
theorem stF_ok (h0 : 0 < v.length) : ∀ {i : Nat}, (∀ j, j < i → j < (stF al v K j).length) → StOkR al v (stF al v K i)
  | 0, _ => ⟨fun x hx => by
      have hx : x ∈ [0] := hx
      rw [List.mem_singleton] at hx; subst hx; exact h0, List.pairwise_singleton _ _⟩
  | i + 1, h => rowF_ok hnx (stF_ok h0 fun j hj => h j (by omega)) (h i (by omega)) (Nat.le_refl K)
theorem exit_some (h0 : 0 < v.length) (hr : ∀ x, x < v.length → al x x = true) : ∃ N, Exit al v K N := by
 have key : ∀ m, (∃ N, Exit al v K N) ∨ ∀ i, i < m → i < (stF al v K i).length := fun m => by
  induction m with
  | zero => exact .inr fun i h => by omega
  | succ m ih =>
   rcases ih with h | h
   ·exact .inl h
   ·by_cases hm : m < (stF al v K m).length
    ·refine .inr fun i hi => ?_
     rcases Nat.lt_or_ge i m with h1 | h1
     ·exact h i h1
     ·obtain rfl : i = m := by omega
      exact hm
    ·exact .inl ⟨m, h, by omega⟩
 rcases key (v.length + 1) with h | h
 ·exact h
 ·have h1 := h v.length (by omega)
  have := (stF_ok hnx h0 (i := v.length) fun j hj => h j (by omega)).length hr
  omega
omit hnx
theorem Exit.unique {N M : Nat} (h : Exit al v K N) (hM : Exit al v K M) : N = M := by
 rcases Nat.lt_trichotomy N M with h1 | h1 | h1
 ·have := hM.on N h1
  have := h.off
  omega
 ·exact h1
 ·have := h.on M h1
  have := hM.off
  omega
theorem plc_row {N i c : Nat} (hi : i < N) (hc : c < K) (hr : ∀ x, x < v.length → al x x = true) (hn : nxS v ((stF al v K i).getD i 0) c < v.length) :
  plcB al (stF al v K N) (nxS v ((stF al v K i).getD i 0) c) = some (numN al (rowF al v (stF al v K i) i (c + 1)) (nxS v ((stF al v K i).getD i 0) c)) := by
 obtain ⟨R, hR⟩ := st_row (al := al) (v := v) (K := K) hi (show c + 1 ≤ K by omega)
 have key : ∃ q, plcB al (rowF al v (stF al v K i) i (c + 1)) (nxS v ((stF al v K i).getD i 0) c) = some q := by
  show ∃ q, plcB al (insB al (rowF al v (stF al v K i) i c) _) _ = some q
  unfold insB
  cases hp : plcB al (rowF al v (stF al v K i) i c) (nxS v ((stF al v K i).getD i 0) c) with
  | some q => exact ⟨q, by simpa using hp⟩
  | none => exact ⟨_, plcB_new (hr _ hn) hp⟩
 obtain ⟨q, hq⟩ := key
 rw [hR, plcB_app hq]
 unfold numN
 rw [hq]
 rfl
end
end Go.Vm

namespace Go.Vm
open Go.Proofs
def alF (v : Vers) (K a b : Nat) : Bool := decide (dT v v K a b = [])
theorem alF_iff {v : Vers} {K i j : Nat} (hv : VersOk v K) (hi : i < v.length) (hj : j < v.length) : alF v K i j = true ↔ ∀ u, OkL K u → plays v i (cuesI u) = plays v j (cuesI u) := by
 obtain ⟨h1, h2⟩ := dT_ok hv hv hi hj
 unfold alF
 rw [decide_eq_true_iff]
 constructor
 ·intro h u hu
  exact Classical.byContradiction fun hne => h2 h u hu hne
 ·intro h
  apply Classical.byContradiction
  intro hne
  obtain ⟨k1, k2, _⟩ := h1 hne
  exact k2 (h _ k1)
theorem alF_refl {v : Vers} {K : Nat} (hv : VersOk v K) : ∀ x, x < v.length → alF v K x x = true := fun _ hx => (alF_iff hv hx hx).2 fun _ _ => rfl
theorem trS_plays (vs : List Vers) (n : Nat) : ∀ (l : List Nat) (s : Nat), trM (stS vs) (ouS vs) (n, s) l = plays (vAt vs n) s (cuesI l)
 | [], _ => rfl
 | c :: l, s => by
  show ouS vs (n, s) c :: trM (stS vs) (ouS vs) (n, (mv (vAt vs n) s c).1.toNat) l = (mv (vAt vs n) s ((c : Int)).toNat).2 :: plays (vAt vs n) (mv (vAt vs n) s ((c : Int)).toNat).1.toNat (cuesI l)
  rw [trS_plays vs n l, Int.toNat_natCast]
  rfl
theorem nxS_lt {v : Vers} {K : Nat} (hv : VersOk v K) : ∀ x, x < v.length → ∀ c, c < K → nxS v x c < v.length := fun x hx c hc => by
 obtain ⟨_, _, _, h, _⟩ := mv_at hv hx hc
 exact h
def jE (es : List (Int × Int)) : List (Value × AV) := es.map fun p => (.int .i64 p.1, n' p.2)
def lookJ (es : List (Int × Int)) (k : Int) : Option Int := (es.find? fun p => decide (p.1 = k)).map (·.2)
theorem mlook_J (k : Int) : ∀ es, mlook (jE es) (.int .i64 k) = (lookJ es k).map n'
 | [] => rfl
 | p :: es => by
  have ih := mlook_J k es
  unfold mlook lookJ jE at ih ⊢
  rw [List.map_cons, List.find?_cons, List.find?_cons]
  simp only [veq]
  by_cases h : p.1 = k
  ·simp [h]
  ·simp only [h, decide_false]
   exact ih
theorem mset_J {k x : Int} : ∀ {es : List (Int × Int)}, (∀ p ∈ es, p.1 ≠ k) → mset (jE es) (.int .i64 k) (n' x) = jE (es ++ [(k, x)])
 | [], _ => rfl
 | p :: es, h => by
  show (if decide (p.1 = k) = true then (Value.int .i64 p.1, n' x) :: jE es else (Value.int .i64 p.1, n' p.2) :: mset (jE es) (.int .i64 k) (n' x)) = _
  rw [decide_eq_false (h p (by simp)), mset_J fun q hq => h q (by simp [hq])]
  rfl
section
variable {P : Program} {m : Bool} {g : Nat → Option Blk} {n : Nat} {ρ : Operand → Option AV} {o : Oper} {t kt et id : Nat} {x k y : Operand} {key : Int} {es : List (Int × Int)} {v : Int}
theorem aop_lookJ (ho : o.op = .lookup t x k false) (hx : ρ x = some (.mp id)) (hk : ρ k = some (n' key)) (hg : g id = some (.map .int (jE es))) (ht : tmap P t = some (.int, kt, et)) (hz : tz P et = some (.int .i64 0)) (hb : -1 ≤ key ∧ key ≤ 1000) (hf : lookJ es key = some v) :
  aopF P m g n ρ o = some (.val (n' v) .same) := by
 rw [aopF_fun]
 obtain ⟨dst, op, ty, pos, after, guard⟩ := o
 simp only at ho
 subst ho
 have hc : conc (n' key) = some (.int .i64 key) := rfl
 simp only [aopT, hx, hk, ht, hc, hg, hz, mlook_J, hf]
 rw [if_pos ⟨by simp [KeyShape.same], isI64_small hb⟩]
 rfl
theorem aop_lookJ2 (ho : o.op = .lookup t x k true) (hx : ρ x = some (.mp id)) (hk : ρ k = some (n' key)) (hg : g id = some (.map .int (jE es))) (ht : tmap P t = some (.int, kt, et)) (hz : tz P et = some (.int .i64 0)) (hb : -1 ≤ key ∧ key ≤ 1000) (hf : lookJ es key = some v) :
  aopF P m g n ρ o = some (.val (.tup [n' v, .lit (.bool true)]) .same) := by
 rw [aopF_fun]
 obtain ⟨dst, op, ty, pos, after, guard⟩ := o
 simp only at ho
 subst ho
 have hc : conc (n' key) = some (.int .i64 key) := rfl
 simp only [aopT, hx, hk, ht, hc, hg, hz, mlook_J, hf]
 rw [if_pos ⟨by simp [KeyShape.same], isI64_small hb⟩]
 rfl
theorem aop_lookJN (ho : o.op = .lookup t x k true) (hx : ρ x = some (.mp id)) (hk : ρ k = some (n' key)) (hg : g id = some (.map .int (jE es))) (ht : tmap P t = some (.int, kt, et)) (hz : tz P et = some (.int .i64 0)) (hb : -1 ≤ key ∧ key ≤ 1000) (hf : lookJ es key = none) :
  aopF P m g n ρ o = some (.val (.tup [n' 0, .lit (.bool false)]) .same) := by
 rw [aopF_fun]
 obtain ⟨dst, op, ty, pos, after, guard⟩ := o
 simp only at ho
 subst ho
 have hc : conc (n' key) = some (.int .i64 key) := rfl
 simp only [aopT, hx, hk, ht, hc, hg, hz, mlook_J, hf]
 rw [if_pos ⟨by simp [KeyShape.same], isI64_small hb⟩]
 rfl
theorem aop_setJ (ho : o.op = .mapUpdate t x k y ∨ o.op = .insert t x k y) (hx : ρ x = some (.mp id)) (hk : ρ k = some (n' key)) (hy : ρ y = some (n' v)) (hg : g id = some (.map .int (jE es))) (ht : tmap P t = some (.int, kt, et)) (hb : -1 ≤ key ∧ key ≤ 1000) (hf : ∀ p ∈ es, p.1 ≠ key) :
  aopF P m g n ρ o = some (.val (.lit undef) (.set id (.map .int (jE (es ++ [(key, v)]))))) := by
 rw [aopF_fun]
 obtain ⟨dst, op, ty, pos, after, guard⟩ := o
 simp only at ho
 have hc : conc (n' key) = some (.int .i64 key) := rfl
 rcases ho with rfl | rfl
 ·simp only [aopT, hx, hk, hy, ht, hc, hg, mset_J hf]
  rw [if_pos ⟨by simp [KeyShape.same], isI64_small hb⟩]
 ·simp only [aopT, hx, hk, hy, ht, hc, hg, mset_J hf]
  rw [if_pos ⟨by simp [KeyShape.same], isI64_small hb⟩]
end
def cI (cl : Nat → Nat) : List Nat → Nat → List (Int × Int)
 | [], _ => []
 | x :: S, i => (((cl x : Nat) : Int), (i : Int)) :: cI cl S (i + 1)
theorem cI_snoc (cl : Nat → Nat) (x : Nat) : ∀ (S : List Nat) (i : Nat), cI cl (S ++ [x]) i = cI cl S i ++ [(((cl x : Nat) : Int), ((i + S.length : Nat) : Int))]
 | [], _ => rfl
 | y :: S, i => by
  show _ :: cI cl (S ++ [x]) (i + 1) = _ :: (cI cl S (i + 1) ++ _)
  rw [cI_snoc cl x S, show i + 1 + S.length = i + (y :: S).length by rw [List.length_cons]; omega]
theorem cI_look {cl : Nat → Nat} {al : Nat → Nat → Bool} {n : Nat} : ∀ {S : List Nat} {i : Nat}, (∀ x ∈ S, cl x = cl n ↔ al x n = true) → lookJ (cI cl S i) ((cl n : Nat) : Int) = (plcB al S n).map fun q => ((i + q : Nat) : Int)
 | [], _, _ => rfl
 | x :: S, i, h => by
  have hx := h x (by simp)
  have ih := cI_look (S := S) (i := i + 1) fun y hy => h y (by simp [hy])
  unfold lookJ at ih
  unfold lookJ cI
  rw [List.find?_cons]
  show _ = (if al x n = true then some 0 else (plcB al S n).map (· + 1)).map _
  by_cases e : cl x = cl n
  ·rw [if_pos (hx.1 e)]
   simp [e]
  ·rw [if_neg fun h' => e (hx.2 h')]
   have hne : ¬ (((cl x : Nat) : Int) = ((cl n : Nat) : Int)) := by omega
   simp only [hne, decide_false]
   rw [ih, Option.map_map]
   congr 1
   funext q
   show ((i + 1 + q : Nat) : Int) = ((i + (q + 1) : Nat) : Int)
   rw [show i + 1 + q = i + (q + 1) by omega]
theorem cI_keys {cl : Nat → Nat} {k : Nat} : ∀ {S : List Nat} {i : Nat}, (∀ x ∈ S, cl x ≠ k) → ∀ p ∈ cI cl S i, p.1 ≠ (k : Int)
 | x :: S, i, h, p, hp, e => by
  rcases List.mem_cons.1 hp with h1 | h1
  ·subst h1
   have e : ((cl x : Nat) : Int) = (k : Int) := e
   exact h x (by simp) (by omega)
  ·exact cI_keys (fun y hy => h y (by simp [hy])) p h1 e
end Go.Vm

namespace Go.Vm
open Go.Proofs
def F2 (P : Nat → Nat → Prop) : List Nat → List Nat → Prop
 | [], [] => True
 | x :: S, y :: T => P x y ∧ F2 P S T
 | _, _ => False
section
variable {P : Nat → Nat → Prop}
theorem F2.length : ∀ {S T : List Nat}, F2 P S T → S.length = T.length
 | [], [], _ => rfl
 | _ :: _, _ :: _, h => by rw [List.length_cons, List.length_cons, F2.length h.2]
 | [], _ :: _, h => h.elim
 | _ :: _, [], h => h.elim
theorem F2.snoc {x y : Nat} (hp : P x y) : ∀ {S T : List Nat}, F2 P S T → F2 P (S ++ [x]) (T ++ [y])
 | [], [], _ => ⟨hp, trivial⟩
 | _ :: _, _ :: _, h => ⟨h.1, F2.snoc hp h.2⟩
 | [], _ :: _, h => h.elim
 | _ :: _, [], h => h.elim
theorem F2.getD : ∀ {S T : List Nat} {i : Nat}, F2 P S T → i < S.length → P (S.getD i 0) (T.getD i 0)
 | [], _, _, _, h => absurd h (Nat.not_lt_zero _)
 | _ :: S, _ :: T, 0, h, _ => h.1
 | _ :: S, _ :: T, i + 1, h, hi => by
  have := F2.getD (S := S) (T := T) (i := i) h.2 (by simpa using hi)
  simpa [List.getD] using this
 | _ :: _, [], _, h, _ => h.elim
end
section
variable {v w : Vers} {K : Nat}
def xal (v w : Vers) (K x y : Nat) : Prop := x < v.length ∧ y < w.length ∧ ∀ u, OkL K u → plays v x (cuesI u) = plays w y (cuesI u)
theorem xal.tune {x y c : Nat} (h : xal v w K x y) (hc : c < K) : (mv v x c).2 = (mv w y c).2 := by
 have := h.2.2 [c] (fun z hz => by rw [List.mem_singleton] at hz; omega)
 have e : [(mv v x ((c : Int)).toNat).2] = [(mv w y ((c : Int)).toNat).2] := this
 rw [Int.toNat_natCast] at e
 injection e
theorem xal.next {x y c : Nat} (hv : VersOk v K) (hw : VersOk w K) (h : xal v w K x y) (hc : c < K) : xal v w K (nxS v x c) (nxS w y c) := by
 refine ⟨nxS_lt hv x h.1 c hc, nxS_lt hw y h.2.1 c hc, fun u hu => ?_⟩
 have := h.2.2 (c :: u) (fun z hz => by
  rcases List.mem_cons.1 hz with rfl | hz
  ·exact hc
  ·exact hu z hz)
 have e : (mv v x ((c : Int)).toNat).2 :: plays v (mv v x ((c : Int)).toNat).1.toNat (cuesI u) = (mv w y ((c : Int)).toNat).2 :: plays w (mv w y ((c : Int)).toNat).1.toNat (cuesI u) := this
 rw [Int.toNat_natCast] at e
 injection e
theorem xal.same {x y x' y' : Nat} (hv : VersOk v K) (hw : VersOk w K) (h : xal v w K x y) (h' : xal v w K x' y') : alF v K x x' = alF w K y y' := by
 rw [Bool.eq_iff_iff, alF_iff hv h.1 h'.1, alF_iff hw h.2.1 h'.2.1]
 exact ⟨fun k u hu => by rw [← h.2.2 u hu, ← h'.2.2 u hu]; exact k u hu, fun k u hu => by rw [h.2.2 u hu, h'.2.2 u hu]; exact k u hu⟩
variable (hv : VersOk v K) (hw : VersOk w K)
include hv hw
theorem plcB_same {x y : Nat} (hx : xal v w K x y) : ∀ {S T : List Nat}, F2 (xal v w K) S T → plcB (alF v K) S x = plcB (alF w K) T y
 | [], [], _ => rfl
 | a :: S, b :: T, h => by
  show (if alF v K a x = true then some 0 else (plcB (alF v K) S x).map (· + 1)) = (if alF w K b y = true then some 0 else (plcB (alF w K) T y).map (· + 1))
  rw [h.1.same hv hw hx, plcB_same hx h.2]
 | [], _ :: _, h => h.elim
 | _ :: _, [], h => h.elim
theorem insB_same {x y : Nat} (hx : xal v w K x y) {S T : List Nat} (h : F2 (xal v w K) S T) : F2 (xal v w K) (insB (alF v K) S x) (insB (alF w K) T y) := by
 unfold insB
 rw [plcB_same hv hw hx h]
 by_cases hp : (plcB (alF w K) T y).isSome = true
 ·rw [if_pos hp, if_pos hp]; exact h
 ·rw [if_neg hp, if_neg hp]; exact h.snoc hx
theorem rowF_same {S T : List Nat} (h : F2 (xal v w K) S T) {i : Nat} (hi : i < S.length) : ∀ {c : Nat}, c ≤ K → F2 (xal v w K) (rowF (alF v K) v S i c) (rowF (alF w K) w T i c)
 | 0, _ => h
 | c + 1, hc => insB_same hv hw ((h.getD hi).next hv hw (by omega)) (rowF_same h hi (c := c) (by omega))
theorem stF_same (h0 : xal v w K 0 0) : ∀ {i : Nat}, (∀ j, j < i → j < (stF (alF v K) v K j).length) → F2 (xal v w K) (stF (alF v K) v K i) (stF (alF w K) w K i)
 | 0, _ => ⟨h0, trivial⟩
 | i + 1, h => rowF_same hv hw (stF_same h0 fun j hj => h j (by omega)) (h i (by omega)) (Nat.le_refl K)
theorem exit_same (h0 : xal v w K 0 0) {N : Nat} (h : Exit (alF v K) v K N) : Exit (alF w K) w K N :=
 ⟨fun i hi => by rw [← (stF_same hv hw h0 (i := i) fun j hj => h.on j (by omega)).length]; exact h.on i hi, by rw [← (stF_same hv hw h0 (i := N) fun j hj => h.on j hj).length]; exact h.off⟩
theorem red_same (h0 : xal v w K 0 0) {N : Nat} (h : Exit (alF v K) v K N) : redR (alF v K) v K N = redR (alF w K) w K N := by
 unfold redR
 refine List.map_congr_left fun i hi => ?_
 have hi := List.mem_range.1 hi
 unfold rowO
 refine List.map_congr_left fun c hc => ?_
 have hc := List.mem_range.1 hc
 have hF := stF_same hv hw h0 (i := i) fun j hj => h.on j (by omega)
 have hil := h.on i hi
 have hx := hF.getD hil
 have hR := rowF_same hv hw hF hil (c := c + 1) (by omega)
 unfold mvO numN
 rw [plcB_same hv hw (hx.next hv hw hc) hR, hx.tune hc]
end
section
variable {v : Vers} {K N : Nat} (hv : VersOk v K) (h0 : 0 < v.length) (hE : Exit (alF v K) v K N)
include hv h0 hE
theorem red_states : StOkR (alF v K) v (stF (alF v K) v K N) := stF_ok (nxS_lt hv) h0 fun j hj => hE.on j hj
omit hv h0 in
theorem red_len : (stF (alF v K) v K N).length = N := by
 refine Nat.le_antisymm hE.off ?_
 cases N with
 | zero => exact Nat.zero_le _
 | succ n =>
  have h1 := hE.on n (by omega)
  obtain ⟨R, hR⟩ := stF_more (al := alF v K) (v := v) (K := K) (show n ≤ n + 1 by omega)
  rw [hR, List.length_append]
  omega
theorem red_few : N ≤ v.length := by
 have := (red_states hv h0 hE).length (alF_refl hv)
 rw [red_len hE] at this
 exact this
omit hv h0 in
theorem red_some : 0 < N := by
 rcases Nat.eq_zero_or_pos N with h | h
 ·subst h
  have := hE.off
  have e : stF (alF v K) v K 0 = [0] := rfl
  rw [e] at this
  simp at this
 ·exact h
omit hv h0 in
theorem st_get {i : Nat} (hi : i < N) : (stF (alF v K) v K i).getD i 0 = (stF (alF v K) v K N).getD i 0 := by
 obtain ⟨R, hR⟩ := stF_more (al := alF v K) (v := v) (K := K) (show i ≤ N by omega)
 rw [hR, getD_app (hE.on i hi)]
omit hv h0 hE in
theorem red_at {i c : Nat} (hi : i < N) (hc : c < K) : mv (redR (alF v K) v K N) i c = mvO (alF v K) v K i c := by
 unfold mv redR rowO
 simp [List.getD, hi, hc]
theorem red_num {i c : Nat} (hi : i < N) (hc : c < K) : ∃ q, (mvO (alF v K) v K i c).1 = ((q : Nat) : Int) ∧ q < N ∧ alF v K ((stF (alF v K) v K N).getD q 0) (nxS v ((stF (alF v K) v K N).getD i 0) c) = true := by
 have hlt := (red_states hv h0 hE).lt _ (getD_lt (show i < (stF (alF v K) v K N).length by rw [red_len hE]; exact hi))
 have hnx := nxS_lt hv _ hlt c hc
 have e := st_get hE hi
 have hp := plc_row (al := alF v K) (v := v) (K := K) hi hc (alF_refl hv) (by rw [e]; exact hnx)
 rw [e] at hp
 refine ⟨_, rfl, ?_, ?_⟩
 ·have := plcB_lt hp
  rw [red_len hE] at this
  rw [e]
  exact this
 ·have key : ∀ {S : List Nat} {n q : Nat}, plcB (alF v K) S n = some q → alF v K (S.getD q 0) n = true := fun {S} => by
   induction S with
   | nil => intro n q h; cases h
   | cons x S ih =>
    intro n q h
    have h : (if alF v K x n = true then some 0 else (plcB (alF v K) S n).map (· + 1)) = some q := h
    by_cases ex : alF v K x n = true
    ·rw [if_pos ex] at h
     cases h
     exact ex
    ·rw [if_neg ex] at h
     cases hq : plcB (alF v K) S n with
     | none => rw [hq] at h; cases h
     | some p =>
      rw [hq] at h
      obtain rfl := Option.some.inj h
      have := ih hq
      simpa [List.getD] using this
  rw [e]
  exact key hp
theorem red_plays : ∀ (u : List Nat) (i : Nat), OkL K u → i < N → plays (redR (alF v K) v K N) i (cuesI u) = plays v ((stF (alF v K) v K N).getD i 0) (cuesI u)
 | [], _, _, _ => rfl
 | c :: u, i, hu, hi => by
  have hc : c < K := hu c (by simp)
  have hu' : OkL K u := fun z hz => hu z (by simp [hz])
  show (mv (redR (alF v K) v K N) i ((c : Int)).toNat).2 :: plays (redR (alF v K) v K N) (mv (redR (alF v K) v K N) i ((c : Int)).toNat).1.toNat (cuesI u) = (mv v ((stF (alF v K) v K N).getD i 0) ((c : Int)).toNat).2 :: plays v (mv v ((stF (alF v K) v K N).getD i 0) ((c : Int)).toNat).1.toNat (cuesI u)
  rw [Int.toNat_natCast, red_at hi hc]
  obtain ⟨q, e1, e2, e3⟩ := red_num hv h0 hE hi hc
  have hlt := (red_states hv h0 hE).lt _ (getD_lt (show i < (stF (alF v K) v K N).length by rw [red_len hE]; exact hi))
  have hlq := (red_states hv h0 hE).lt _ (getD_lt (show q < (stF (alF v K) v K N).length by rw [red_len hE]; exact e2))
  rw [e1, Int.toNat_natCast, red_plays u q hu' e2, (alF_iff hv hlq (nxS_lt hv _ hlt c hc)).1 e3 u hu']
  have et : (mvO (alF v K) v K i c).2 = (mv v ((stF (alF v K) v K N).getD i 0) c).2 := by
   unfold mvO
   rw [st_get hE hi]
  rw [et]
  rfl
omit hv h0 hE in
theorem red_first : (stF (alF v K) v K N).getD 0 0 = 0 := by
 obtain ⟨R, hR⟩ := stF_more (al := alF v K) (v := v) (K := K) (Nat.zero_le N)
 rw [hR]
 rfl
theorem red_alike {u : List Nat} (hu : OkL K u) : plays (redR (alF v K) v K N) 0 (cuesI u) = plays v 0 (cuesI u) := by
 rw [red_plays hv h0 hE u 0 hu (red_some hE), red_first]
omit h0 hv hE in
theorem red_length : (redR (alF v K) v K N).length = N := by unfold redR; rw [List.length_map, List.length_range]
theorem red_vers : VersOk (redR (alF v K) v K N) K := fun s hs => by
 unfold redR at hs
 obtain ⟨i, hi, rfl⟩ := List.mem_map.1 hs
 have hi := List.mem_range.1 hi
 refine ⟨by unfold rowO; rw [List.length_map, List.length_range], fun m hm => ?_⟩
 unfold rowO at hm
 obtain ⟨c, hc, rfl⟩ := List.mem_map.1 hm
 have hc := List.mem_range.1 hc
 obtain ⟨q, e1, e2, _⟩ := red_num hv h0 hE hi hc
 rw [red_length, e1]
 omega
theorem red_tunes {lo hi : Int} (ht : ∀ s ∈ v, ∀ m ∈ s, lo ≤ m.2 ∧ m.2 ≤ hi) : ∀ s ∈ redR (alF v K) v K N, ∀ m ∈ s, lo ≤ m.2 ∧ m.2 ≤ hi := fun s hs m hm => by
 unfold redR at hs
 obtain ⟨i, hi', rfl⟩ := List.mem_map.1 hs
 have hi' := List.mem_range.1 hi'
 unfold rowO at hm
 obtain ⟨c, hc, rfl⟩ := List.mem_map.1 hm
 have hc := List.mem_range.1 hc
 have hlt := (red_states hv h0 hE).lt _ (getD_lt (show i < (stF (alF v K) v K N).length by rw [red_len hE]; exact hi'))
 have et : (mvO (alF v K) v K i c).2 = (mv v ((stF (alF v K) v K N).getD i 0) c).2 := by
  unfold mvO
  rw [st_get hE hi']
 rw [et]
 obtain ⟨x, k1, k2, _, _⟩ := mv_at hv hlt hc
 exact ht x (List.mem_of_getElem? k1) _ (List.mem_of_getElem? k2)
end
end Go.Vm

namespace Go.Vm
open Go.Proofs
theorem cuesI_get {S : List Nat} {r : Nat} (h : r < S.length) : (cuesI S)[r]? = some ((S.getD r 0 : Nat) : Int) := by
 unfold cuesI
 simp [List.getD, h]
end Go.Vm

namespace Go.Vm
open Go.Proofs
def gnS (S : List Nat) : Nat := S.length - 1
theorem gnS_snoc {S : List Nat} (h : 0 < S.length) (x : Nat) : gnS (S ++ [x]) = gnS S + 1 := by
 unfold gnS
 rw [List.length_append, List.length_singleton]
 omega
def numM (cl : Nat → Nat) (S : List Nat) : Blk := .map .int (jE (cI cl S 0))
def stA (S : List Nat) : AV := .sl (cuesI S).length ((cuesI S).map n') (.own 6 (gnS S) 1)
theorem under_numM (n : Nat) (cl : Nat → Nat) (S : List Nat) : (numM cl S).under n := by
 show AV.unders n ((jE (cI cl S 0)).map (·.2))
 unfold jE
 rw [List.map_map]
 exact unders_map (f := fun p : Int × Int => n' p.2) (fun _ => by unfold n'; trivial) _
theorem under_stA {n : Nat} (h : 6 < n) (S : List Nat) : (stA S).under n := ⟨under_ints n _, h⟩
theorem redR_snoc (al : Nat → Nat → Bool) (v : Vers) (K r : Nat) : redR al v K (r + 1) = redR al v K r ++ [rowO al v K r K] := by
 unfold redR
 rw [List.range_succ, List.map_append]
 rfl
theorem rowO_snoc (al : Nat → Nat → Bool) (v : Vers) (K i c : Nat) : rowO al v K i (c + 1) = rowO al v K i c ++ [mvO al v K i c] := by
 unfold rowO
 rw [List.range_succ, List.map_append]
 rfl
theorem stA_snoc {S : List Nat} (h : 0 < S.length) (x : Nat) : stA (S ++ [x]) = .sl ((cuesI S).length + 1) ((cuesI S).map n' ++ [n' (x : Int)]) (.own 6 (gnS S + 1) 1) := by
 unfold stA
 rw [cuesI_snoc, List.length_append, List.map_append, gnS_snoc h]
 rfl
def redT (b : Book) (v : Vers) (es : List (Value × AV)) (cl : Nat → Nat) (S : List Nat) (r : Nat) : List (Nat × Blk) :=
 [(0, bBox b), (1, nilBox), (2, vBox v), (3, .map (.arr 2) es), (4, numM cl S), (5, .box [.sl r ((redR (alF v b.cues.toNat) v b.cues.toNat r).map eState) (.own 7 r 1)] 32), (6, .row (gnS S)), (7, .row r)]
set_option maxHeartbeats 40000000 in
set_option maxRecDepth 100000 in
theorem c_Reduce {b : Book} (hl : BLen b) (hB : BOk b) {i : Nat} (hi : i < b.vs.length) {N : Nat} (hE : Exit (alF (vAt b.vs i) b.cues.toNat) (vAt b.vs i) b.cues.toNat N) (H : List Blk) :
  ACall Tryz.prog 65 [eBook b, n' i] H (.ret (.tup [eVersion (redR (alF (vAt b.vs i) b.cues.toNat) (vAt b.vs i) b.cues.toNat N), .lit (.int .i64 0)])) H := by
 obtain ⟨es, ⟨cl0, hes, hcb, hcl⟩, hc⟩ := c_classes hB
 have hbc := hB.1.1
 have hvn4 := hB.1.2.2
 unfold inI at hbc hvn4
 obtain ⟨hvi, hvm⟩ := vAt_of hi
 have hV := hB.2 _ hvm
 have hv := hV.vers.1
 have hv0 := hV.vers.2
 have hv4 := hV.2
 unfold inI at hv4
 have hrow : ∀ s, s < (vAt b.vs i).length → (i, s) ∈ allP b.vs := fun s hs => allP_mem.2 ⟨hi, hs⟩
 obtain ⟨cl, hcld⟩ : ∃ cl : Nat → Nat, cl = fun s => cl0 (i, s) := ⟨_, rfl⟩
 have hlk : ∀ s, s < (vAt b.vs i).length → lookI (cE (allP b.vs) cl0) [(i : Int), (s : Int)] = some ((cl s : Nat) : Int) := fun s hs => by
  rw [hcld]
  exact cE_look (hrow s hs)
 have hal : ∀ x y, x < (vAt b.vs i).length → y < (vAt b.vs i).length → (cl x = cl y ↔ alF (vAt b.vs i) b.cues.toNat x y = true) := fun x y hx hy => by
  rw [hcld, alF_iff hv hx hy]
  show cl0 (i, x) = cl0 (i, y) ↔ _
  rw [hcl _ (hrow x hx) _ (hrow y hy)]
  simp only [trS_plays]
 have hNs := red_few hv hv0 hE
 generalize hvd : vAt b.vs i = v at *
 refine fn_rule (m := false) (fn := Tryz.f65) (c := (Tryz.f65.body).getD .skip) mixed (by kernel_rfl) (by kernel_rfl) (of_decide_eq_true (by kernel_rfl)) ?_ ?_ ?_ H
 ·exact ⟨under_eBook 0 _, trivial, trivial⟩
 ·exact ⟨under_eVersion 0 _, trivial, trivial⟩
 ·refine CallG.bool (c_isBook hl) (fun _ => ?_) (fun x => absurd hB x)
  refine CallG.bool (c_hasVersion hB.fit _) (fun _ => ?_) (fun x => absurd (by unfold inI; omega) x)
  refine ifN ?_
  refine Ex.mk _ (jx_versions (r := i) rfl hvi) ?_
  refine Ex.mk _ rfl ?_
  refine CallG.map hc ?_
  have hcb' : ∀ s, -1 ≤ ((cl s : Nat) : Int) ∧ ((cl s : Nat) : Int) ≤ 1000 := fun s => by
   have := hcb (i, s)
   rw [hcld]
   show -1 ≤ ((cl0 (i, s) : Nat) : Int) ∧ ((cl0 (i, s) : Nat) : Int) ≤ 1000
   omega
  subst hes
  refine Ex.mk _ (aop_lookK (kt := 141) (et := 3) (key := [(i : Int), ((0 : Nat) : Int)]) rfl rfl rfl rfl (by kernel_rfl) (by kernel_rfl) rfl (fun x hx => by simp at hx; omega) (hlk 0 hv0)) ?_
  refine Ex.mk _ (aop_setJ (kt := 3) (et := 3) (key := ((cl 0 : Nat) : Int)) (es := []) (v := ((0 : Nat) : Int)) (.inr rfl) rfl rfl rfl rfl (by kernel_rfl) (hcb' 0) (fun p hp => by cases hp)) ?_
  refine LoopG.ghost (LoopG.ghost (LoopG.at (n0 := 8) rfl (LoopG.box 5 [.sl 0 [] (.own 7 0 1)] 2 (leb rfl) (leb rfl) rfl (.cons (Weak.own (r := 7) (g := 0) 1 rfl) (.nil _)) ?_)))
  refine loop_up mixed (m := false) (fun r => [(1, n' i), (2, .ptr 0 0), (4, .ptr 1 0), (6, .ptr 2 0), (7, .mp 3), (8, .mp 4), (9, stA (stF (alF v b.cues.toNat) v b.cues.toNat r)), (10, .ptr 5 0), (11, n' r)]) (fun r => redT b v (kE (cE (allP b.vs) cl0)) cl (stF (alF v b.cues.toNat) v b.cues.toNat r) r) (fun _ => True) N 2 (leb rfl) trivial ?_ ?_ ?_
  ·exact ⟨wp rfl trivial, wp rfl (ltb rfl), wp rfl (ltb rfl), wp rfl (ltb rfl), wp rfl (ltb rfl), wp rfl (ltb rfl), ⟨_, rfl, fun n H hH => WeakH.fullOwnN (r := 6) (len := 1) (sz := 1) rfl (hH.blk _ _ rfl), under_stA (ltb rfl) _⟩, wp rfl (ltb rfl), wp rfl trivial, trivial⟩
  ·exact ⟨bk rfl rfl, bk rfl rfl, bk rfl rfl, bk rfl rfl, bk rfl rfl, bk rfl rfl, bk rfl rfl, bk rfl rfl, trivial⟩
  ·intro r hr _
   have hsl : (stF (alF v b.cues.toNat) v b.cues.toNat r).length ≤ 4 := by
    have := (stF_ok (nxS_lt hv) hv0 (i := r) fun j hj => hE.on j (by omega)).length (alF_refl hv)
    omega
   have hcl := cuesI_length (stF (alF v b.cues.toNat) v b.cues.toNat r)
   refine If.mk (fun h1 => ?_) (fun h1 => ?_)
   ·refine ifY ?_
    have hrN : r < N := by
     rcases Nat.lt_or_ge r N with h | h
     ·exact h
     ·have := hE.off
      obtain rfl : r = N := by omega
      omega
    have hrl := hE.on r hrN
    have hok := stF_ok (nxS_lt hv) hv0 (i := r) fun j hj => hE.on j (by omega)
    have hx := hok.lt _ (getD_lt hrl)
    refine LoopG.ghost (LoopG.at (n0 := 9) rfl (LoopG.after ?_))
    refine loop_up mixed (m := false) (fun c => [(1, n' i), (2, .ptr 0 0), (4, .ptr 1 0), (6, .ptr 2 0), (7, .mp 3), (8, .mp 4), (9, stA (rowF (alF v b.cues.toNat) v (stF (alF v b.cues.toNat) v b.cues.toNat r) r c)), (10, .ptr 5 0), (11, n' r), (12, .sl c ((rowO (alF v b.cues.toNat) v b.cues.toNat r c).flatMap eMove) (.own 8 c 2)), (50, n' b.cues), (51, n' c)]) (fun c => redT b v (kE (cE (allP b.vs) cl0)) cl (rowF (alF v b.cues.toNat) v (stF (alF v b.cues.toNat) v b.cues.toNat r) r c) r ++ [(8, .row c)]) (fun _ => True) b.cues.toNat 2 (leb rfl) trivial ?_ ?_ ?_
    ·exact ⟨wp rfl trivial, wp rfl (ltb rfl), wp rfl (ltb rfl), wp rfl (ltb rfl), wp rfl (ltb rfl), wp rfl (ltb rfl), ⟨_, rfl, Weak.refl _ _, under_stA (ltb rfl) _⟩, wp rfl (ltb rfl), wp rfl trivial, ⟨_, rfl, Weak.own (r := 8) (g := 0) 2 rfl, ⟨trivial, ltb rfl⟩⟩, wp rfl trivial, wp rfl trivial, trivial⟩
    ·exact ⟨bk rfl rfl, bk rfl rfl, bk rfl rfl, bk rfl rfl, bk rfl rfl, bk rfl rfl, bk rfl rfl, bk rfl rfl, bk rfl rfl, trivial⟩
    ·intro c hc _
     have hokc := rowF_ok (K := b.cues.toNat) (nxS_lt hv) hok hrl hc
     have hlc := hokc.length (alF_refl hv)
     have hclc := cuesI_length (rowF (alF v b.cues.toNat) v (stF (alF v b.cues.toNat) v b.cues.toNat r) r c)
     have hposc : 0 < (rowF (alF v b.cues.toNat) v (stF (alF v b.cues.toNat) v b.cues.toNat r) r c).length := by
      obtain ⟨R, hR⟩ := rowF_more (al := (alF v b.cues.toNat)) (v := v) (stF (alF v b.cues.toNat) v b.cues.toNat r) r (Nat.zero_le c)
      rw [hR, List.length_append]
      show 0 < (stF (alF v b.cues.toNat) v b.cues.toNat r).length + _
      omega
     have hrc : r < (rowF (alF v b.cues.toNat) v (stF (alF v b.cues.toNat) v b.cues.toNat r) r c).length := by
      obtain ⟨R, hR⟩ := rowF_more (al := (alF v b.cues.toNat)) (v := v) (stF (alF v b.cues.toNat) v b.cues.toNat r) r (Nat.zero_le c)
      rw [hR, List.length_append]
      show r < (stF (alF v b.cues.toNat) v b.cues.toNat r).length + _
      omega
     have hgc : (rowF (alF v b.cues.toNat) v (stF (alF v b.cues.toNat) v b.cues.toNat r) r c).getD r 0 = (stF (alF v b.cues.toNat) v b.cues.toNat r).getD r 0 := by
      obtain ⟨R, hR⟩ := rowF_more (al := (alF v b.cues.toNat)) (v := v) (stF (alF v b.cues.toNat) v b.cues.toNat r) r (Nat.zero_le c)
      rw [hR]
      exact getD_app hrl
     refine If.mk (fun h2 => ?_) (fun h2 => ?_)
     ·refine ifY ?_
      have hcK : c < b.cues.toNat := by omega
      obtain ⟨y, hy1, hy2, hy3, hy4⟩ := mv_at hv hx hcK
      have hnx : nxS v ((stF (alF v b.cues.toNat) v b.cues.toNat r).getD r 0) c < v.length := hy3
      have hlook := hlk _ hnx
      have hkey : ∀ x ∈ [(i : Int), (mv v ((stF (alF v b.cues.toNat) v b.cues.toNat r).getD r 0) c).1], -1 ≤ x ∧ x ≤ 1000 := fun x hx => by
       rcases List.mem_cons.1 hx with h | h
       ·omega
       ·rw [List.mem_singleton] at h
        rw [h]
        omega
      have hcond : ∀ z ∈ rowF (alF v b.cues.toNat) v (stF (alF v b.cues.toNat) v b.cues.toNat r) r c, cl z = cl (nxS v ((stF (alF v b.cues.toNat) v b.cues.toNat r).getD r 0) c) ↔ (alF v b.cues.toNat) z (nxS v ((stF (alF v b.cues.toNat) v b.cues.toNat r).getD r 0) c) = true := fun z hz => hal z _ (hokc.lt z hz) hnx
      refine PickW.mk [20] ?_
      refine Ex.mk _ (jx_ints (r := r) rfl ((cuesI_get hrc).trans (by rw [hgc]))) ?_
      refine Ex.mk _ rfl ?_
      refine CallG.pure _ (c_hears hy1 hy2) ?_
      refine Ex.mk _ (aop_lookK (kt := 141) (et := 3) (key := [(i : Int), (mv v ((stF (alF v b.cues.toNat) v b.cues.toNat r).getD r 0) c).1]) rfl rfl rfl rfl (by kernel_rfl) (by kernel_rfl) rfl hkey (by rw [← hy4]; exact hlook)) ?_
      have hfind := cI_look (cl := cl) (S := rowF (alF v b.cues.toNat) v (stF (alF v b.cues.toNat) v b.cues.toNat r) r c) (i := 0) hcond
      cases hp : plcB (alF v b.cues.toNat) (rowF (alF v b.cues.toNat) v (stF (alF v b.cues.toNat) v b.cues.toNat r) r c) (nxS v ((stF (alF v b.cues.toNat) v b.cues.toNat r).getD r 0) c) with
      | some q =>
       rw [hp] at hfind
       have hS : rowF (alF v b.cues.toNat) v (stF (alF v b.cues.toNat) v b.cues.toNat r) r (c + 1) = rowF (alF v b.cues.toNat) v (stF (alF v b.cues.toNat) v b.cues.toNat r) r c := by
        show insB (alF v b.cues.toNat) (rowF (alF v b.cues.toNat) v (stF (alF v b.cues.toNat) v b.cues.toNat r) r c) (nxS v ((stF (alF v b.cues.toNat) v b.cues.toNat r).getD r 0) c) = _
        unfold insB
        rw [hp]
        rfl
       have hm : mvO (alF v b.cues.toNat) v b.cues.toNat r c = (((0 + q : Nat) : Int), (mv v ((stF (alF v b.cues.toNat) v b.cues.toNat r).getD r 0) c).2) := by
        unfold mvO numN
        rw [hS, hp, Nat.zero_add]
        rfl
       refine Ex.mk _ (aop_lookJ2 (kt := 3) (et := 3) rfl rfl rfl rfl (by kernel_rfl) (by kernel_rfl) (hcb' _) hfind) ?_
       refine ifN ?_
       refine Ex.mk _ (aop_lookJ (kt := 3) (et := 3) rfl rfl rfl rfl (by kernel_rfl) (by kernel_rfl) (hcb' _) hfind) ?_
       refine ex_app _ _ (app_move (by rw [flat_length]; unfold rowO; rw [List.length_map, List.length_range]) (by omega) rfl) ?_
       refine Side.mk (fits64 (by omega)) ?_
       refine ⟨leb rfl, rfl, by omega, trivial, ⟨wp rfl trivial, wp rfl (ltb rfl), wp rfl (ltb rfl), wp rfl (ltb rfl), wp rfl (ltb rfl), wp rfl (ltb rfl), ⟨_, rfl, Weak.of_eq (congrArg stA hS.symm), under_stA (ltb rfl) _⟩, wp rfl (ltb rfl), wp rfl trivial, ⟨_, rfl, Weak.of_eq (?_), ⟨unders_flat _ _, ltb rfl⟩⟩, wp rfl trivial, wp rfl trivial, trivial⟩, ⟨bk rfl rfl, bk rfl rfl, bk rfl rfl, bk rfl rfl, ⟨congrArg some (congrArg (numM cl) hS.symm), ltb rfl⟩, bk rfl rfl, ⟨congrArg (fun S => some (Blk.row (gnS S))) hS.symm, ltb rfl⟩, bk rfl rfl, bk rfl rfl, trivial⟩, ⟨⟨_, rfl, trivial⟩, trivial⟩⟩
       rw [rowO_snoc, List.flatMap_append, hm]
       rfl
      | none =>
       rw [hp] at hfind
       have hS : rowF (alF v b.cues.toNat) v (stF (alF v b.cues.toNat) v b.cues.toNat r) r (c + 1) = rowF (alF v b.cues.toNat) v (stF (alF v b.cues.toNat) v b.cues.toNat r) r c ++ [nxS v ((stF (alF v b.cues.toNat) v b.cues.toNat r).getD r 0) c] := by
        show insB (alF v b.cues.toNat) (rowF (alF v b.cues.toNat) v (stF (alF v b.cues.toNat) v b.cues.toNat r) r c) (nxS v ((stF (alF v b.cues.toNat) v b.cues.toNat r).getD r 0) c) = _
        unfold insB
        rw [hp]
        rfl
       have hm : mvO (alF v b.cues.toNat) v b.cues.toNat r c = (((rowF (alF v b.cues.toNat) v (stF (alF v b.cues.toNat) v b.cues.toNat r) r c).length : Int), (mv v ((stF (alF v b.cues.toNat) v b.cues.toNat r).getD r 0) c).2) := by
        unfold mvO numN
        rw [hS, plcB_new (alF_refl hv _ hnx) hp]
        rfl
       refine Ex.mk _ (aop_lookJN (kt := 3) (et := 3) rfl rfl rfl rfl (by kernel_rfl) (by kernel_rfl) (hcb' _) hfind) ?_
       refine ifY ?_
       have hnew : ∀ p ∈ cI cl (rowF (alF v b.cues.toNat) v (stF (alF v b.cues.toNat) v b.cues.toNat r) r c) 0, p.1 ≠ ((cl (nxS v ((stF (alF v b.cues.toNat) v b.cues.toNat r).getD r 0) c) : Nat) : Int) := cI_keys fun z hz e => by
        have h7 := plcB_none.1 hp z hz
        rw [(hcond z hz).1 e] at h7
        cases h7
       have hset : Blk.map .int (jE (cI cl (rowF (alF v b.cues.toNat) v (stF (alF v b.cues.toNat) v b.cues.toNat r) r c) 0 ++ [(((cl (nxS v ((stF (alF v b.cues.toNat) v b.cues.toNat r).getD r 0) c) : Nat) : Int), (((cuesI (rowF (alF v b.cues.toNat) v (stF (alF v b.cues.toNat) v b.cues.toNat r) r c)).length : Nat) : Int))])) = numM cl (rowF (alF v b.cues.toNat) v (stF (alF v b.cues.toNat) v b.cues.toNat r) r (c + 1)) := by
        unfold numM
        rw [hS, cI_snoc, hclc, Nat.zero_add]
       have hcond2 : ∀ z ∈ rowF (alF v b.cues.toNat) v (stF (alF v b.cues.toNat) v b.cues.toNat r) r (c + 1), cl z = cl (nxS v ((stF (alF v b.cues.toNat) v b.cues.toNat r).getD r 0) c) ↔ (alF v b.cues.toNat) z (nxS v ((stF (alF v b.cues.toNat) v b.cues.toNat r).getD r 0) c) = true := fun z hz => by
        rw [hS] at hz
        rcases List.mem_append.1 hz with hz | hz
        ·exact hcond z hz
        ·rw [List.mem_singleton] at hz
         subst hz
         exact ⟨fun _ => alF_refl hv _ hnx, fun _ => rfl⟩
       have hfind2 := cI_look (cl := cl) (S := rowF (alF v b.cues.toNat) v (stF (alF v b.cues.toNat) v b.cues.toNat r) r (c + 1)) (i := 0) hcond2
       have hplc : plcB (alF v b.cues.toNat) (rowF (alF v b.cues.toNat) v (stF (alF v b.cues.toNat) v b.cues.toNat r) r (c + 1)) (nxS v ((stF (alF v b.cues.toNat) v b.cues.toNat r).getD r 0) c) = some (rowF (alF v b.cues.toNat) v (stF (alF v b.cues.toNat) v b.cues.toNat r) r c).length := by
        rw [hS]
        exact plcB_new (alF_refl hv _ hnx) hp
       rw [hplc] at hfind2
       refine Ex.mk _ ((aop_setJ (kt := 3) (et := 3) (key := ((cl (nxS v ((stF (alF v b.cues.toNat) v b.cues.toNat r).getD r 0) c) : Nat) : Int)) (es := cI cl (rowF (alF v b.cues.toNat) v (stF (alF v b.cues.toNat) v b.cues.toNat r) r c) 0) (v := (((cuesI (rowF (alF v b.cues.toNat) v (stF (alF v b.cues.toNat) v b.cues.toNat r) r c)).length : Nat) : Int)) (.inl rfl) rfl rfl rfl rfl (by kernel_rfl) (hcb' _) hnew).trans (congrArg (fun B => some (DR.val (.lit undef) (Dl.set 4 B))) hset)) ?_
       refine ex_app _ _ (app_int (List.length_map _) (by omega) rfl) ?_
       refine Ex.mk _ (aop_lookJ (kt := 3) (et := 3) (es := cI cl (rowF (alF v b.cues.toNat) v (stF (alF v b.cues.toNat) v b.cues.toNat r) r (c + 1)) 0) rfl rfl rfl rfl (by kernel_rfl) (by kernel_rfl) (hcb' _) hfind2) ?_
       refine ex_app _ _ (app_move (by rw [flat_length]; unfold rowO; rw [List.length_map, List.length_range]) (by omega) rfl) ?_
       refine Side.mk (fits64 (by omega)) ?_
       refine ⟨leb rfl, rfl, by omega, trivial, ⟨wp rfl trivial, wp rfl (ltb rfl), wp rfl (ltb rfl), wp rfl (ltb rfl), wp rfl (ltb rfl), wp rfl (ltb rfl), ⟨_, rfl, Weak.of_eq (?_), under_stA (ltb rfl) _⟩, wp rfl (ltb rfl), wp rfl trivial, ⟨_, rfl, Weak.of_eq (?_), ⟨unders_flat _ _, ltb rfl⟩⟩, wp rfl trivial, wp rfl trivial, trivial⟩, ⟨bk rfl rfl, bk rfl rfl, bk rfl rfl, bk rfl rfl, bk rfl rfl, bk rfl rfl, ⟨?_, ltb rfl⟩, bk rfl rfl, bk rfl rfl, trivial⟩, ⟨⟨_, rfl, under_numM _ _ _⟩, ⟨_, rfl, ⟨⟨unders_map (under_state _) _, ltb rfl⟩, trivial⟩⟩, ⟨_, rfl, trivial⟩, ⟨_, rfl, trivial⟩, ⟨_, rfl, trivial⟩, trivial⟩⟩
       ·rw [hS, stA_snoc hposc]
        show AV.sl _ (_ ++ [n' (mv v ((stF (alF v b.cues.toNat) v b.cues.toNat r).getD r 0) c).1]) _ = AV.sl _ (_ ++ [n' (((mv v ((stF (alF v b.cues.toNat) v b.cues.toNat r).getD r 0) c).1.toNat : Nat) : Int)]) _
        rw [hy4]
       ·rw [rowO_snoc, List.flatMap_append, hm]
        show _ = AV.sl _ (_ ++ [n' (((rowF (alF v b.cues.toNat) v (stF (alF v b.cues.toNat) v b.cues.toNat r) r c).length : Nat) : Int), _]) _
        simp only [Nat.zero_add]
       ·rw [hS, gnS_snoc hposc]
        rfl
     ·refine ifN ?_
      obtain rfl : c = b.cues.toNat := by omega
      refine ⟨leb rfl, .inr ⟨[(1, n' i), (2, .ptr 0 0), (4, .ptr 1 0), (6, .ptr 2 0), (7, .mp 3), (8, .mp 4), (9, stA (stF (alF v b.cues.toNat) v b.cues.toNat (r + 1))), (10, .ptr 5 0), (11, n' r), (12, eState (rowO (alF v b.cues.toNat) v b.cues.toNat r b.cues.toNat))], ⟨⟨_, rfl, Weak.refl _ _⟩, ⟨_, rfl, Weak.refl _ _⟩, ⟨_, rfl, Weak.refl _ _⟩, ⟨_, rfl, Weak.refl _ _⟩, ⟨_, rfl, Weak.refl _ _⟩, ⟨_, rfl, Weak.refl _ _⟩, ⟨_, rfl, Weak.refl _ _⟩, ⟨_, rfl, Weak.refl _ _⟩, ⟨_, rfl, Weak.refl _ _⟩, ⟨_, rfl, ?_⟩, trivial⟩, ?_⟩⟩
      ·have el : (rowO (alF v b.cues.toNat) v b.cues.toNat r b.cues.toNat).length = b.cues.toNat := by unfold rowO; rw [List.length_map, List.length_range]
       show Weak _ (.sl b.cues.toNat ((rowO (alF v b.cues.toNat) v b.cues.toNat r b.cues.toNat).flatMap eMove) _) (.sl (rowO (alF v b.cues.toNat) v b.cues.toNat r b.cues.toNat).length ((rowO (alF v b.cues.toNat) v b.cues.toNat r b.cues.toNat).flatMap eMove) .unk)
       rw [el]
       exact Weak.tail _ _ _ _
      ·refine ex_app _ _ (app_state (by rw [List.length_map, red_length]) (by omega) rfl) ?_
       refine Side.mk (fits64 (by omega)) ?_
       refine ⟨leb rfl, rfl, by omega, trivial, ⟨wp rfl trivial, wp rfl (ltb rfl), wp rfl (ltb rfl), wp rfl (ltb rfl), wp rfl (ltb rfl), wp rfl (ltb rfl), ⟨_, rfl, Weak.refl _ _, under_stA (ltb rfl) _⟩, wp rfl (ltb rfl), wp rfl trivial, trivial⟩, ⟨bk rfl rfl, bk rfl rfl, bk rfl rfl, bk rfl rfl, bk rfl rfl, ⟨?_, ltb rfl⟩, bk rfl rfl, bk rfl rfl, trivial⟩, ?_⟩
       ·show some (Blk.box [.sl (r + 1) ((redR (alF v b.cues.toNat) v b.cues.toNat r).map eState ++ [eState (rowO (alF v b.cues.toNat) v b.cues.toNat r b.cues.toNat)]) (.own 7 (r + 1) 1)] 32) = some (Blk.box [.sl (r + 1) ((redR (alF v b.cues.toNat) v b.cues.toNat (r + 1)).map eState) (.own 7 (r + 1) 1)] 32)
        rw [redR_snoc, List.map_append]
        rfl
       ·exact ⟨⟨_, rfl, vBox_under _ _⟩, ⟨_, rfl, under_kE _⟩, ⟨_, rfl, under_numM _ _ _⟩, ⟨_, rfl, ⟨⟨unders_append (unders_map (under_state _) _) ⟨under_state _ _, trivial⟩, ltb rfl⟩, trivial⟩⟩, ⟨_, rfl, trivial⟩, ⟨_, rfl, trivial⟩, trivial⟩
   ·refine ifN ?_
    have er : r = N := by
     rcases Nat.lt_or_ge r N with h | h
     ·have := hE.on r h
      omega
     ·omega
    subst er
    refine ⟨leb rfl, .inl rfl, FinG.mk _ rfl rfl ?_⟩
    show AV.tup [AV.agg [AV.sl r (AV.freezes _ ((redR (alF v b.cues.toNat) v b.cues.toNat r).map eState)) .unk], _] = _
    rw [freezes_map (freeze_state _)]
    show _ = AV.tup [AV.agg [.sl (redR (alF v b.cues.toNat) v b.cues.toNat r).length ((redR (alF v b.cues.toNat) v b.cues.toNat r).map eState) .unk], _]
    rw [red_length]
    rfl
end Go.Vm

namespace Go.Vm
open Go.Proofs
set_option maxRecDepth 100000 in
theorem structEq_moves (a b c d : Int) : structEq Tryz.prog 116 (.agg [n' a, n' b]) (.agg [n' c, n' d]) = (if a == c then (if b == d then some true else some false) else some false) := by kernel_rfl
set_option maxRecDepth 100000 in
theorem binB_moves (a b c d : Int) : binB Tryz.prog .neq 116 (.agg [n' a, n' b]) (.agg [n' c, n' d]) = some (.lit (.bool (decide ((a, b) ≠ (c, d))))) := by
 have e : binB Tryz.prog .neq 116 (.agg [n' a, n' b]) (.agg [n' c, n' d]) = (match structEq Tryz.prog 116 (.agg [n' a, n' b]) (.agg [n' c, n' d]) with
  | some b => some (.lit (.bool !b))
  | none => none) := by
  unfold binB
  show (match BinOp.neq, structEq Tryz.prog 116 _ _ with
   | .eql, some b => some (AV.lit (.bool b))
   | .neq, some b => some (.lit (.bool !b))
   | _, _ => none) = _
  cases structEq Tryz.prog 116 (.agg [n' a, n' b]) (.agg [n' c, n' d]) <;> rfl
 rw [e, structEq_moves]
 by_cases h1 : a = c
 ·by_cases h2 : b = d
  ·simp [h1, h2]
  ·simp [h1, h2]
 ·simp [h1]
set_option maxRecDepth 100000 in
theorem c_sameVersions (a b : Vers) (ha : a.length ≤ 1000000) (ha2 : ∀ s ∈ a, s.length ≤ 1000000) (hb : b.length ≤ 1000000) (hb2 : ∀ s ∈ b, s.length ≤ 1000000) (H : List Blk) :
  ACall Tryz.prog 66 [eVersion a, eVersion b] H (.ret (.lit (.bool (decide (a = b))))) H := by
 refine fn_rule (m := false) (fn := Tryz.f66) (c := (Tryz.f66.body).getD .skip) mixed (by kernel_rfl) (by kernel_rfl) (of_decide_eq_true (by kernel_rfl)) ?_ ?_ ?_ H
 ·exact ⟨under_eVersion 0 _, under_eVersion 0 _, trivial⟩
 ·trivial
 ·refine If.mk (fun h0 => ?_) (fun h0 => ?_)
  ·refine ifN ?_
   have hl : a.length = b.length := by omega
   refine LoopG.at (n0 := 2) rfl (loop_up mixed (m := false) (fun r => [(2, .ptr 0 0), (3, .ptr 1 0), (5, n' r)]) (fun _ => [(0, vBox a), (1, vBox b)]) (fun r => a.take r = b.take r) a.length 2 (leb rfl) rfl ?_ ?_ ?_)
   ·exact ⟨wp rfl (ltb rfl), wp rfl (ltb rfl), wp rfl trivial, trivial⟩
   ·exact ⟨bk rfl rfl, bk rfl rfl, trivial⟩
   ·intro r hr hI
    refine If.mk (fun h1 => ?_) (fun h1 => ?_)
    ·refine ifY ?_
     have hra : r < a.length := by omega
     have hrb : r < b.length := by omega
     have hsa := ha2 _ (List.getElem_mem hra)
     have hsb := hb2 _ (List.getElem_mem hrb)
     have ga := List.getElem?_eq_getElem hra
     have gb := List.getElem?_eq_getElem hrb
     generalize hx : a[r] = x at hsa ga
     generalize hy : b[r] = y at hsb gb
     have ta : a.take (r + 1) = a.take r ++ [x] := by rw [List.take_add_one, ga]; rfl
     have tb : b.take (r + 1) = b.take r ++ [y] := by rw [List.take_add_one, gb]; rfl
     have hne : x ≠ y → a ≠ b := fun h e => by
      subst e
      rw [ga] at gb
      exact h (Option.some.inj gb)
     refine Ex.mk _ (jx_states (r := r) rfl ga) ?_
     refine Ex.mk _ rfl ?_
     refine Ex.mk _ (jx_states (r := r) rfl gb) ?_
     refine Ex.mk _ rfl ?_
     refine If.mk (fun h2 => ?_) (fun h2 => ?_)
     ·refine ifN ?_
      have hxy : x.length = y.length := by omega
      refine LoopG.at (n0 := 15) rfl (loop_up mixed (m := false) (fun q => [(2, .ptr 0 0), (3, .ptr 1 0), (5, n' r), (6, n' q)]) (fun _ => [(0, vBox a), (1, vBox b)]) (fun q => x.take q = y.take q) x.length 2 (leb rfl) rfl ?_ ?_ ?_)
      ·exact ⟨wp rfl (ltb rfl), wp rfl (ltb rfl), wp rfl trivial, wp rfl trivial, trivial⟩
      ·exact ⟨bk rfl rfl, bk rfl rfl, trivial⟩
      ·intro q hq hJ
       refine Ex.mk _ (jx_states (r := r) rfl ga) ?_
       refine Ex.mk _ rfl ?_
       refine If.mk (fun h3 => ?_) (fun h3 => ?_)
       ·refine ifY ?_
        have hqx : q < x.length := by omega
        have hqy : q < y.length := by omega
        have gx := List.getElem?_eq_getElem hqx
        have gy := List.getElem?_eq_getElem hqy
        generalize hu : x[q] = u at gx
        generalize hw : y[q] = w at gy
        refine Ex.mk _ (jx_states (r := r) rfl ga) ?_
        refine Ex.mk _ rfl ?_
        refine Ex.mk _ (jx_moves (r := q) rfl gx) ?_
        refine Ex.mk _ rfl ?_
        refine Ex.mk _ (jx_states (r := r) rfl gb) ?_
        refine Ex.mk _ rfl ?_
        refine Ex.mk _ (jx_moves (r := q) rfl gy) ?_
        refine Ex.mk _ rfl ?_
        refine NowR.of (binB_moves _ _ _ _) ?_
        have hne2 : u ≠ w → a ≠ b := fun h => hne fun e => by
         rw [e, gy] at gx
         exact h (Option.some.inj gx).symm
        refine IfB.mk (fun h4 => ?_) (fun h4 => ?_)
        ·have h4' : u ≠ w := fun e => by simp [e] at h4
         exact ⟨leb rfl, leb rfl, .inl rfl, FinG.no rfl rfl (hne2 h4')⟩
        ·have h4' : u = w := by
          have h5 : (u.1, u.2) = (w.1, w.2) := by simpa using h4
          exact h5
         refine Side.mk (fits64 (by omega)) ?_
         refine ⟨leb rfl, rfl, by omega, ?_, ⟨wp rfl (ltb rfl), wp rfl (ltb rfl), wp rfl trivial, wp rfl trivial, trivial⟩, ⟨bk rfl rfl, bk rfl rfl, trivial⟩, trivial⟩
         show x.take (q + 1) = y.take (q + 1)
         rw [List.take_add_one, List.take_add_one, hJ, gx, gy, h4']
       ·refine ifN ?_
        have hxy2 : x = y := by
         rw [List.take_of_length_le (by omega), List.take_of_length_le (by omega)] at hJ
         exact hJ
        refine ⟨leb rfl, ?_⟩
        refine Side.mk (fits64 (by omega)) ?_
        refine ⟨leb rfl, rfl, by omega, ?_, ⟨wp rfl (ltb rfl), wp rfl (ltb rfl), wp rfl trivial, trivial⟩, ⟨bk rfl rfl, bk rfl rfl, trivial⟩, trivial⟩
        show a.take (r + 1) = b.take (r + 1)
        rw [ta, tb, hI, hxy2]
     ·refine ifY ?_
      exact ⟨leb rfl, .inl rfl, FinG.no rfl rfl (hne fun e => h2 (by rw [e]))⟩
    ·refine ifN ?_
     have hab : a = b := by
      rw [List.take_of_length_le (by omega), List.take_of_length_le (by omega)] at hI
      exact hI
     exact ⟨leb rfl, .inl rfl, FinG.yes rfl rfl hab⟩
  ·refine ifY ?_
   refine ⟨.inl rfl, FinG.no rfl rfl (fun e => h0 (by rw [e]))⟩
end Go.Vm
