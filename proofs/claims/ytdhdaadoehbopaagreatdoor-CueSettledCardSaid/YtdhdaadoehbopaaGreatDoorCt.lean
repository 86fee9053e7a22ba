/-
  Searches by levels, and Join of the specification, for books and lists as told at each, in every heap. Conditions: at each theorem.
-/
import Derived.Test.YtdhdaadoehbopaaGreatDoorCo
import Derived.Test.YtdhdaadoehbopaaGreatDoorCf
import Derived.Test.YtdhdaadoehbopaaGreatDoorCs
import Derived.Test.YtdhdaadoehbopaaGreatDoorCp
import Derived.Test.YtdhdaadoehbopaaGreatDoorCc
import Derived.Test.YtdhdaadoehbopaaGreatDoorCa
import Derived.Test.YtdhdaadoehbopaaGreatDoorCd
import Derived.Test.YtdhdaadoehbopaaGreatDoorVc

namespace Go.Vm
section
variable {K : Type} {next : K → Nat → K} {done : K → Prop} {start : K} {c : Nat}
theorem passesL {q : List (K × List Nat)} {met : List K} {proc : K → Prop} (h : InvO next done start c q met proc) : ∀ (t u : List Nat), OkL c (u ++ t) → runB next start u ∈ met →
  proc (runB next start (u ++ t)) ∨ (∃ p ∈ q, p.1 = runB next start (u ++ t) ∧ LE p.2 (u ++ t)) ∨ ∃ p ∈ q, p.2.length < (u ++ t).length
 | [], u, ho, hm => by
  rw [List.append_nil] at ho ⊢
  rcases h.split _ hm with h1 | ⟨m, h1⟩
  ·exact .inl h1
  ·exact .inr (.inl ⟨_, h1, rfl, (h.least _ h1).2.2 u ho rfl⟩)
 | d :: t, u, ho, hm => by
  rcases h.split _ hm with h1 | ⟨m, h1⟩
  ·have e : u ++ d :: t = (u ++ [d]) ++ t := by simp
   have hd : d < c := ho d (by simp)
   rw [e] at ho ⊢
   exact passesL h t (u ++ [d]) ho (by rw [runB_snoc]; exact h.cl _ h1 d hd)
  ·have hu : OkL c u := fun y hy => ho y (by simp [hy])
   refine .inr (.inr ⟨_, h1, ?_⟩)
   have h2 : LE m u := (h.least _ h1).2.2 u hu rfl
   show m.length < _
   rw [List.length_append, List.length_cons]
   rcases h2 with h2 | h2
   ·rcases h2 with h2 | ⟨h2, _⟩ <;> omega
   ·rw [h2]; omega
theorem InvO.level {q : List (K × List Nat)} {met : List K} {proc : K → Prop} (h : InvO next done start c q met proc) {n : Nat} (hn : ∀ p ∈ q, p.2.length = n) {q1 q2 : List (K × List Nat)} {x : K} {l : List Nat} (hq : q = q1 ++ (x, l) :: q2) (h1 : ∀ p ∈ q1, ¬ done p.1) (hx : done x) :
  Found next done start c (some l) := by
 have hxq : (x, l) ∈ q := by rw [hq]; simp
 obtain ⟨k1, k2, k3⟩ := h.least _ hxq
 refine ⟨fun l' e => ?_, (fun e => by cases e)⟩
 cases e
 refine ⟨k2, by rw [k1]; exact hx, fun u hu hdu => ?_⟩
 rcases passesL h u [] hu h.s with h4 | ⟨p, hp, e, h4⟩ | ⟨p, hp, h4⟩
 ·exact absurd hdu (h.nd _ h4)
 ·have e : p.1 = runB next start u := e
  have h4 : LE p.2 u := h4
  have hs := h.sorted
  rw [hq] at hs hp
  have hs := (List.pairwise_append.1 hs).2.1
  rcases List.mem_append.1 hp with hp | hp
  ·exact absurd (by rw [e]; exact hdu) (h1 p hp)
  ·rcases List.mem_cons.1 hp with rfl | hp
   ·exact h4
   ·exact LE.trans (.inl ((List.pairwise_cons.1 hs).1 p hp)) h4
 ·have h4 : p.2.length < u.length := h4
  have e1 := hn p hp
  have e2 : l.length = n := hn _ hxq
  exact .inl (.inl (by omega))
variable [DecidableEq K]
def lvStep (s : List K × List (K × List Nat)) (m : K × List Nat) : List K × List (K × List Nat) := if m.1 ∈ s.1 then s else (s.1 ++ [m.1], s.2 ++ [m])
def moreX (next : K → Nat → K) (p : K × List Nat) (r : Nat) : List (K × List Nat) := (List.range r).map fun d => (next p.1 d, p.2 ++ [d])
def moreK (next : K → Nat → K) (c : Nat) (q : List (K × List Nat)) : List (K × List Nat) := q.flatMap fun p => moreX next p c
theorem InvI.goes {x : K} {l : List Nat} {q nx : List (K × List Nat)} {met : List K} {proc : K → Prop} (h : InvI next done start c x l 0 (q ++ nx) met proc) : ∀ r, r ≤ c →
  InvI next done start c x l r (q ++ ((moreX next (x, l) r).foldl lvStep (met, nx)).2) ((moreX next (x, l) r).foldl lvStep (met, nx)).1 proc
 | 0, _ => h
 | r + 1, hr => by
  have ih := InvI.goes h r (by omega)
  have e : moreX next (x, l) (r + 1) = moreX next (x, l) r ++ [(next x r, l ++ [r])] := by
   unfold moreX
   rw [List.range_succ, List.map_append]
   rfl
  rw [e, List.foldl_append]
  show InvI next done start c x l (r + 1) (q ++ (lvStep _ (next x r, l ++ [r])).2) (lvStep _ (next x r, l ++ [r])).1 proc
  generalize (moreX next (x, l) r).foldl lvStep (met, nx) = s at ih
  unfold lvStep
  by_cases hm : next x r ∈ s.1
  ·rw [if_pos hm]
   exact ih.old hm
  ·rw [if_neg hm]
   have := ih.new (by omega) hm
   rw [List.append_assoc] at this
   exact this
theorem InvO.goes : ∀ {q nx : List (K × List Nat)} {met : List K} {proc : K → Prop}, InvO next done start c (q ++ nx) met proc → (∀ p ∈ q, ¬ done p.1) →
  ∃ proc', InvO next done start c ((moreK next c q).foldl lvStep (met, nx)).2 ((moreK next c q).foldl lvStep (met, nx)).1 proc'
 | [], nx, met, proc, h, _ => ⟨proc, h⟩
 | (x, l) :: q, nx, met, proc, h, hd => by
  have h1 := (InvO.take h (hd (x, l) (by simp))).goes c (Nat.le_refl _)
  have h2 := h1.over
  have e : moreK next c ((x, l) :: q) = moreX next (x, l) c ++ moreK next c q := rfl
  rw [e, List.foldl_append]
  generalize (moreX next (x, l) c).foldl lvStep (met, nx) = s at h2
  exact InvO.goes h2 fun p hp => hd p (by simp [hp])
end
def longL (c : Nat) (lev : List (List Nat)) : List (List Nat) := lev.flatMap fun l => (List.range c).map fun d => l ++ [d]
def stpK (key : List Nat → Nat) (s : List Nat × List (List Nat)) (m : List Nat) : List Nat × List (List Nat) := if key m ∈ s.1 then s else (s.1 ++ [key m], s.2 ++ [m])
def levK (key : List Nat → Nat) (c : Nat) (ks : List Nat) (lev : List (List Nat)) : List Nat × List (List Nat) := (longL c lev).foldl (stpK key) (ks, [])
section
variable {K : Type} (next : K → Nat → K) (done : K → Prop) (start : K) (c : Nat) (key : List Nat → Nat)
def nxO : Option K → Nat → Option K
 | none, d => some (next start d)
 | some y, d => some (next y d)
def dnO : Option K → Prop
 | none => done start
 | some y => done y
theorem runO_snoc (l : List Nat) (d : Nat) : runB (nxO next start) none (l ++ [d]) = some (runB next start (l ++ [d])) := by
 have key : ∀ (l : List Nat) (y : K), runB (nxO next start) (some y) l = some (runB next y l) := fun l => by
  induction l with
  | nil => intro y; rfl
  | cons a l ih => intro y; exact ih (next y a)
 cases l with
 | nil => exact key [] (next start d)
 | cons a l => exact key (l ++ [d]) (next start a)
theorem runO_done (l : List Nat) : dnO done start (runB (nxO next start) none l) ↔ done (runB next start l) := by
 rcases List.eq_nil_or_concat l with rfl | ⟨l', d, rfl⟩
 ·exact Iff.rfl
 ·rw [List.concat_eq_append, runO_snoc]; exact Iff.rfl
structure InvW (ks : List Nat) (lev : List (List Nat)) (n : Nat) : Prop where
 inv : ∃ met proc, InvO (nxO next start) (dnO done start) none c (lev.map fun l => (runB (nxO next start) none l, l)) met proc ∧ ∃ ls : List (List Nat), (∀ l ∈ ls, OkL c l ∧ ∃ l' d, l = l' ++ [d]) ∧ met = none :: ls.map (fun l => runB (nxO next start) none l) ∧ ks = ls.map key
 len : ∀ l ∈ lev, l.length = n ∧ OkL c l
 nodup : ks.Nodup
 few : lev.length ≤ ks.length + 1
 long : n ≤ ks.length ∨ lev = []
 keys : ∀ x ∈ ks, ∃ l, OkL c l ∧ x = key l
variable {next done start c key}
theorem InvW.begin : InvW next done start c key [] [[]] 0 :=
 ⟨⟨[none], fun _ => False, InvO.begin, [], (by simp), rfl, rfl⟩, (fun l hl => by rw [List.mem_singleton] at hl; subst hl; exact ⟨rfl, fun _ h => by cases h⟩), List.nodup_nil, Nat.le_refl _, .inl (Nat.zero_le _), (by simp)⟩
theorem found_O {o : Option (List Nat)} (h : Found (nxO next start) (dnO done start) none c o) : Found next done start c o :=
 ⟨fun l e => by
  obtain ⟨h1, h2, h3⟩ := h.yes l e
  exact ⟨h1, (runO_done next done start l).1 h2, fun u hu hd => h3 u hu ((runO_done next done start u).2 hd)⟩, fun e u hu hd => h.no e u hu ((runO_done next done start u).2 hd)⟩
theorem InvW.found {ks : List Nat} {lev l1 l2 : List (List Nat)} {n : Nat} {l : List Nat} (h : InvW next done start c key ks lev n) (hl : lev = l1 ++ l :: l2) (h1 : ∀ m ∈ l1, ¬ done (runB next start m)) (hd : done (runB next start l)) : Found next done start c (some l) := by
 obtain ⟨met, proc, hI, _⟩ := h.inv
 refine found_O (hI.level (n := n) (fun p hp => ?_) (q1 := l1.map fun l => (runB (nxO next start) none l, l)) (q2 := l2.map fun l => (runB (nxO next start) none l, l)) (by rw [hl, List.map_append]; rfl) (fun p hp => ?_) ((runO_done next done start l).2 hd))
 ·obtain ⟨m, hm, rfl⟩ := List.mem_map.1 hp
  exact (h.len m hm).1
 ·obtain ⟨m, hm, rfl⟩ := List.mem_map.1 hp
  exact fun h' => h1 m hm ((runO_done next done start m).1 h')
theorem InvW.nothing {ks : List Nat} {n : Nat} (h : InvW next done start c key ks [] n) : Found next done start c none := by
 obtain ⟨met, proc, hI, _⟩ := h.inv
 exact found_O hI.nothing
theorem foldK (hk : ∀ l m, OkL c l → OkL c m → l ≠ [] → m ≠ [] → (key l = key m ↔ runB next start l = runB next start m)) [DecidableEq K] : ∀ (w : List (List Nat)) (ls nx : List (List Nat)), (∀ l ∈ w, OkL c l ∧ ∃ l' d, l = l' ++ [d]) → (∀ l ∈ ls, OkL c l ∧ ∃ l' d, l = l' ++ [d]) →
  ∃ ls' : List (List Nat), (∀ l ∈ ls', OkL c l ∧ ∃ l' d, l = l' ++ [d]) ∧ w.foldl (stpK key) (ls.map key, nx) = (ls'.map key, (w.foldl (stpK key) (ls.map key, nx)).2) ∧
   (w.map fun l => (runB (nxO next start) none l, l)).foldl lvStep (none :: ls.map (fun l => runB (nxO next start) none l), nx.map fun l => (runB (nxO next start) none l, l)) =
    (none :: ls'.map (fun l => runB (nxO next start) none l), (w.foldl (stpK key) (ls.map key, nx)).2.map fun l => (runB (nxO next start) none l, l))
 | [], ls, nx, _, h => ⟨ls, h, rfl, rfl⟩
 | m :: w, ls, nx, hw, h => by
  obtain ⟨ho, m', d, e⟩ := hw m (by simp)
  have hne : ∀ {l : List Nat}, (∃ l' d, l = l' ++ [d]) → l ≠ [] := fun {l} ⟨l', d, h⟩ h' => by rw [h'] at h; simp at h
  have mem : key m ∈ ls.map key ↔ runB (nxO next start) none m ∈ none :: ls.map (fun l => runB (nxO next start) none l) := by
   rw [List.mem_map, List.mem_cons, List.mem_map]
   have en : runB (nxO next start) none m ≠ none := by rw [e, runO_snoc]; simp
   constructor
   ·rintro ⟨l, hl, hkl⟩
    obtain ⟨hlo, l', d', el⟩ := h l hl
    refine .inr ⟨l, hl, ?_⟩
    rw [el, e, runO_snoc, runO_snoc, ← el, ← e, (hk l m hlo ho (hne ⟨l', d', el⟩) (hne ⟨m', d, e⟩)).1 hkl]
   ·rintro (h' | ⟨l, hl, hkl⟩)
    ·exact absurd h' en
    ·obtain ⟨hlo, l', d', el⟩ := h l hl
     refine ⟨l, hl, (hk l m hlo ho (hne ⟨l', d', el⟩) (hne ⟨m', d, e⟩)).2 ?_⟩
     rw [el, e, runO_snoc, runO_snoc] at hkl
     rw [el, e]
     exact Option.some.inj hkl
  rw [List.map_cons, List.foldl_cons, List.foldl_cons]
  by_cases hm : key m ∈ ls.map key
  ·have e1 : stpK key (ls.map key, nx) m = (ls.map key, nx) := if_pos hm
   have e2 : lvStep (none :: ls.map (fun l => runB (nxO next start) none l), nx.map fun l => (runB (nxO next start) none l, l)) (runB (nxO next start) none m, m) = (none :: ls.map (fun l => runB (nxO next start) none l), nx.map fun l => (runB (nxO next start) none l, l)) := if_pos (mem.1 hm)
   rw [e1, e2]
   exact foldK hk w ls nx (fun l hl => hw l (by simp [hl])) h
  ·have e1 : stpK key (ls.map key, nx) m = ((ls ++ [m]).map key, nx ++ [m]) := by
    rw [List.map_append]
    exact if_neg hm
   have e2 : lvStep (none :: ls.map (fun l => runB (nxO next start) none l), nx.map fun l => (runB (nxO next start) none l, l)) (runB (nxO next start) none m, m) = (none :: (ls ++ [m]).map (fun l => runB (nxO next start) none l), (nx ++ [m]).map fun l => (runB (nxO next start) none l, l)) := by
    rw [List.map_append, List.map_append]
    exact if_neg fun h' => hm (mem.2 h')
   rw [e1, e2]
   refine foldK hk w (ls ++ [m]) (nx ++ [m]) (fun l hl => hw l (by simp [hl])) fun l hl => ?_
   rcases List.mem_append.1 hl with hl | hl
   ·exact h l hl
   ·rw [List.mem_singleton] at hl
    subst hl
    exact ⟨ho, m', d, e⟩
theorem longL_mem {lev : List (List Nat)} {m : List Nat} : m ∈ longL c lev ↔ ∃ l ∈ lev, ∃ d, d < c ∧ m = l ++ [d] := by
 unfold longL
 rw [List.mem_flatMap]
 constructor
 ·rintro ⟨l, hl, hm⟩
  obtain ⟨d, hd, rfl⟩ := List.mem_map.1 hm
  exact ⟨l, hl, d, List.mem_range.1 hd, rfl⟩
 ·rintro ⟨l, hl, d, hd, rfl⟩
  exact ⟨l, hl, List.mem_map.2 ⟨d, List.mem_range.2 hd, rfl⟩⟩
structure Adds (key : List Nat → Nat) (w : List (List Nat)) (ks : List Nat) (nx : List (List Nat)) (s : List Nat × List (List Nat)) : Prop where
 sub : ∀ m ∈ s.2, m ∈ nx ∨ m ∈ w
 nodup : ks.Nodup → s.1.Nodup
 keys : ∀ x ∈ s.1, x ∈ ks ∨ ∃ m ∈ w, x = key m
 many : s.1.length + nx.length = ks.length + s.2.length
theorem adds : ∀ (w : List (List Nat)) (ks : List Nat) (nx : List (List Nat)), Adds key w ks nx (w.foldl (stpK key) (ks, nx))
 | [], ks, nx => ⟨fun m h => .inl h, fun h => h, fun x h => .inl h, rfl⟩
 | m :: w, ks, nx => by
  rw [List.foldl_cons]
  by_cases hm : key m ∈ ks
  ·have e1 : stpK key (ks, nx) m = (ks, nx) := if_pos hm
   rw [e1]
   obtain ⟨a, b, d, e⟩ := adds w ks nx
   exact ⟨fun x hx => (a x hx).imp id fun h => by simp [h], b, fun x hx => (d x hx).imp id fun ⟨y, h1, h2⟩ => ⟨y, by simp [h1], h2⟩, e⟩
  ·have e1 : stpK key (ks, nx) m = (ks ++ [key m], nx ++ [m]) := if_neg hm
   rw [e1]
   obtain ⟨a, b, d, e⟩ := adds w (ks ++ [key m]) (nx ++ [m])
   refine ⟨fun x hx => ?_, fun h => b ?_, fun x hx => ?_, ?_⟩
   ·rcases a x hx with h | h
    ·rcases List.mem_append.1 h with h | h
     ·exact .inl h
     ·rw [List.mem_singleton] at h; subst h; exact .inr (by simp)
    ·exact .inr (by simp [h])
   ·refine List.nodup_append.2 ⟨h, by simp, fun a ha b hb hab => ?_⟩
    rw [List.mem_singleton] at hb
    subst hb hab
    exact hm ha
   ·rcases d x hx with h | ⟨y, h1, h2⟩
    ·rcases List.mem_append.1 h with h | h
     ·exact .inl h
     ·rw [List.mem_singleton] at h; exact .inr ⟨m, by simp, h⟩
    ·exact .inr ⟨y, by simp [h1], h2⟩
   ·rw [List.length_append, List.length_append] at e
    simp only [List.length_singleton] at e
    omega
theorem InvW.step (hk : ∀ l m, OkL c l → OkL c m → l ≠ [] → m ≠ [] → (key l = key m ↔ runB next start l = runB next start m)) {ks : List Nat} {lev : List (List Nat)} {n : Nat} (h : InvW next done start c key ks lev n) (hd : ∀ m ∈ lev, ¬ done (runB next start m)) :
  InvW next done start c key (levK key c ks lev).1 (levK key c ks lev).2 (n + 1) ∧ (levK key c ks lev).1.length = ks.length + (levK key c ks lev).2.length := by
 classical
 obtain ⟨met, proc, hI, ls, hls, rfl, rfl⟩ := h.inv
 have hI' : InvO (nxO next start) (dnO done start) none c ((lev.map fun l => (runB (nxO next start) none l, l)) ++ []) (none :: ls.map fun l => runB (nxO next start) none l) proc := by rw [List.append_nil]; exact hI
 obtain ⟨proc', hG⟩ := hI'.goes fun p hp => by
  obtain ⟨m, hm, rfl⟩ := List.mem_map.1 hp
  exact fun h' => hd m hm ((runO_done next done start m).1 h')
 have em : moreK (nxO next start) c (lev.map fun l => (runB (nxO next start) none l, l)) = (longL c lev).map fun l => (runB (nxO next start) none l, l) := by
  unfold moreK longL moreX
  rw [List.flatMap_map, List.map_flatMap]
  congr 1
  funext l
  rw [List.map_map]
  refine List.map_congr_left fun d _ => ?_
  show (nxO next start (runB (nxO next start) none l) d, l ++ [d]) = (runB (nxO next start) none (l ++ [d]), l ++ [d])
  rw [runB_snoc]
 have hw : ∀ l ∈ longL c lev, OkL c l ∧ ∃ l' d, l = l' ++ [d] := fun l hl => by
  obtain ⟨l', h1, d, h2, rfl⟩ := longL_mem.1 hl
  refine ⟨fun x hx => ?_, l', d, rfl⟩
  rcases List.mem_append.1 hx with hx | hx
  ·exact (h.len l' h1).2 x hx
  ·rw [List.mem_singleton] at hx; omega
 obtain ⟨ls', g1, g2, g3⟩ := foldK (start := start) hk (longL c lev) ls [] hw hls
 have g3 : ((longL c lev).map fun l => (runB (nxO next start) none l, l)).foldl lvStep (none :: ls.map (fun l => runB (nxO next start) none l), []) = _ := g3
 rw [em, g3] at hG
 obtain ⟨a1, a2, a3, a4⟩ := adds (key := key) (longL c lev) (ls.map key) []
 have e1 : (levK key c (ls.map key) lev).1 = ls'.map key := congrArg Prod.fst g2
 have a4 : (levK key c (ls.map key) lev).1.length + 0 = (ls.map key).length + (levK key c (ls.map key) lev).2.length := a4
 refine ⟨⟨⟨_, proc', hG, ls', g1, rfl, e1⟩, fun l hl => ?_, a2 h.nodup, by omega, ?_, fun x hx => ?_⟩, by omega⟩
 ·rcases a1 l hl with h' | h'
  ·cases h'
  ·obtain ⟨l', h1, d, h2, rfl⟩ := longL_mem.1 h'
   exact ⟨by rw [List.length_append, (h.len l' h1).1]; rfl, (hw _ h').1⟩
 ·by_cases hz : (levK key c (ls.map key) lev).2 = []
  ·exact .inr hz
  ·left
   have := List.length_pos_iff.2 hz
   rcases h.long with h' | h'
   ·omega
   ·subst h'
    exact absurd rfl hz
 ·rcases a3 x hx with h' | ⟨m, h1, h2⟩
  ·exact h.keys x h'
  ·exact ⟨m, (hw m h1).1, h2⟩
end
end Go.Vm

namespace Go.Vm
open Go.Proofs
def aftN (vs : List Vers) (n : Int) (l : List Nat) : Nat := after (vs.getD n.toNat []) 0 (cuesI l)
def plI (vs : List Vers) (n : Int) (l : List Nat) : List Int := plays (vs.getD n.toNat []) 0 (cuesI l)
def lAt (L : List Int) (i : Nat) : Int := L.getD i 0
structure LeftOk (vs : List Vers) (L : List Int) : Prop where
 mem : ∀ n ∈ L, 0 ≤ n ∧ n < vs.length
 few : L.length ≤ 4
section
variable {vs : List Vers} {K : Nat} {L : List Int} (hv : ∀ v ∈ vs, VersOk v K) (hv0 : ∀ v ∈ vs, 0 < v.length) (hs : ∀ v ∈ vs, v.length ≤ 4) (hn : vs.length ≤ 4) (hL : LeftOk vs L)
theorem vget {n : Int} (h : 0 ≤ n ∧ n < vs.length) : vs.getD n.toNat [] ∈ vs := by
 have h1 : n.toNat < vs.length := by omega
 have : vs.getD n.toNat [] = vs[n.toNat] := by simp [List.getD, List.getElem?_eq_getElem h1]
 rw [this]
 exact List.getElem_mem h1
include hv hv0 hs hL in
theorem aft_lt {n : Int} (h : n ∈ L) {l : List Nat} (hl : OkL K l) : aftN vs n l < 4 := by
 have hm := vget (hL.mem n h)
 have := after_lt (hv _ hm) (cuesI_ok hl) (hv0 _ hm)
 have := hs _ hm
 unfold aftN
 omega
theorem lAt_mem {i : Nat} (h : i < L.length) : lAt L i ∈ L := by
 have : lAt L i = L[i] := by simp [lAt, List.getD, List.getElem?_eq_getElem h]
 rw [this]
 exact List.getElem_mem h
theorem mem_lAt {n : Int} (h : n ∈ L) : ∃ i, i < L.length ∧ lAt L i = n := by
 obtain ⟨i, hi, e⟩ := List.getElem_of_mem h
 exact ⟨i, hi, by simp [lAt, List.getD, List.getElem?_eq_getElem hi, e]⟩
theorem er_aft {n : Nat} (h : (n : Int) ∈ L) (l : List Nat) : erI vs L l n = (aftN vs (n : Int) l : Nat) := by
 unfold erI aftN
 rw [if_pos h, Int.toNat_natCast]
theorem pl_pl (n : Nat) (l : List Nat) : plN vs n l = plI vs (n : Int) l := by
 unfold plN plI
 rw [Int.toNat_natCast]
include hL hn in
theorem L_nat {n : Int} (h : n ∈ L) : ∃ m : Nat, n = (m : Int) ∧ m < 4 := by
 have := hL.mem n h
 exact ⟨n.toNat, by omega, by omega⟩
end
end Go.Vm

namespace Go.Vm
open Go.Proofs
def alS (vs : List Vers) (K : Nat) (p q : Sta) : Prop := ∀ l, OkL K l → trM (stS vs) (ouS vs) p l = trM (stS vs) (ouS vs) q l
theorem alS.refl {vs : List Vers} {K : Nat} (p : Sta) : alS vs K p p := fun _ _ => rfl
theorem alS.symm {vs : List Vers} {K : Nat} {p q : Sta} (h : alS vs K p q) : alS vs K q p := fun l hl => (h l hl).symm
theorem alS.trans {vs : List Vers} {K : Nat} {p q r : Sta} (h : alS vs K p q) (h' : alS vs K q r) : alS vs K p r := fun l hl => (h l hl).trans (h' l hl)
theorem alS_dT {vs : List Vers} {K a b s t : Nat} (ha : VersOk (vAt vs a) K) (hb : VersOk (vAt vs b) K) (hs : s < (vAt vs a).length) (ht : t < (vAt vs b).length) : alS vs K (a, s) (b, t) ↔ dT (vAt vs a) (vAt vs b) K s t = [] := by
 obtain ⟨h1, h2⟩ := dT_ok ha hb hs ht
 unfold alS
 simp only [trS_plays]
 constructor
 ·intro h
  apply Classical.byContradiction
  intro hne
  obtain ⟨k1, k2, _⟩ := h1 hne
  exact k2 (h _ k1)
 ·intro h u hu
  exact Classical.byContradiction fun hne => h2 h u hu hne
def pairS (vs : List Vers) (K : Nat) (m : Bool) (a b : Nat) (pa pb : Int) : Prop := 0 ≤ pa → 0 ≤ pb → m = true ∨ alS vs K (a, 0) (b, 0)
def doneS (vs : List Vers) (K : Nat) (p : Pos) : Prop :=
 pairS vs K p.2.1 1 0 p.1.2.1 p.1.1 ∧ pairS vs K p.2.2.1 2 0 p.1.2.2.1 p.1.1 ∧ pairS vs K p.2.2.2.1 2 1 p.1.2.2.1 p.1.2.1 ∧ pairS vs K p.2.2.2.2.1 3 0 p.1.2.2.2 p.1.1 ∧ pairS vs K p.2.2.2.2.2.1 3 1 p.1.2.2.2 p.1.2.1 ∧ pairS vs K p.2.2.2.2.2.2 3 2 p.1.2.2.2 p.1.2.2.1
theorem six {P : Nat → Nat → Prop} : (P 1 0 ∧ P 2 0 ∧ P 2 1 ∧ P 3 0 ∧ P 3 1 ∧ P 3 2) ↔ ∀ a b, a < 4 → b < a → P a b := by
 constructor
 ·rintro ⟨h1, h2, h3, h4, h5, h6⟩ a b ha hb
  have : a = 1 ∧ b = 0 ∨ a = 2 ∧ b = 0 ∨ a = 2 ∧ b = 1 ∨ a = 3 ∧ b = 0 ∨ a = 3 ∧ b = 1 ∨ a = 3 ∧ b = 2 := by omega
  rcases this with ⟨rfl, rfl⟩ | ⟨rfl, rfl⟩ | ⟨rfl, rfl⟩ | ⟨rfl, rfl⟩ | ⟨rfl, rfl⟩ | ⟨rfl, rfl⟩ <;> assumption
 ·intro h
  exact ⟨h 1 0 (by omega) (by omega), h 2 0 (by omega) (by omega), h 2 1 (by omega) (by omega), h 3 0 (by omega) (by omega), h 3 1 (by omega) (by omega), h 3 2 (by omega) (by omega)⟩
section
variable {vs : List Vers} {K : Nat} {L : List Int} (hv : ∀ v ∈ vs, VersOk v K) (hv0 : ∀ v ∈ vs, 0 < v.length) (hs : ∀ v ∈ vs, v.length ≤ 4) (hn : vs.length ≤ 4) (hL : LeftOk vs L)
theorem LeftOk.nat (hL : LeftOk vs L) : ∀ n : Nat, (n : Int) ∈ L → n < vs.length := fun n h => by have := hL.mem _ h; omega
theorem vAt_in {a : Nat} (h : a < vs.length) : vAt vs a ∈ vs := by
 have e : vAt vs a = vs[a] := by simp [vAt, List.getD, List.getElem?_eq_getElem h]
 rw [e]
 exact List.getElem_mem h
def specS (vs : List Vers) (K : Nat) (L : List Int) (l : List Nat) : Prop := ∀ i, i < L.length → ∀ k, k < i → ¬ (plI vs (lAt L i) l = plI vs (lAt L k) l ∧ dT (vAt vs (lAt L i).toNat) (vAt vs (lAt L k).toNat) K 0 0 ≠ [])
def specJ (vs : List Vers) (K : Nat) (L : List Int) (l : List Nat) : Prop := ∀ i, i < L.length → 1 ≤ i → dT (vAt vs (lAt L 0).toNat) (vAt vs (lAt L i).toNat) K (aftN vs (lAt L 0) l) (aftN vs (lAt L i) l) = []
include hv hv0 hn hL in
theorem doneS_iff {l : List Nat} : doneS vs K (posRun vs L l) ↔ specS vs K L l := by
 have e1 : doneS vs K (posRun vs L l) ↔ ∀ a b, a < 4 → b < a → pairS vs K (brB vs L l a b) a b (erI vs L l a) (erI vs L l b) := six (P := fun a b => pairS vs K (brB vs L l a b) a b (erI vs L l a) (erI vs L l b))
 have e2 : ∀ a b : Nat, pairS vs K (brB vs L l a b) a b (erI vs L l a) (erI vs L l b) ↔ ((a : Int) ∈ L → (b : Int) ∈ L → plI vs a l = plI vs b l → alS vs K (a, 0) (b, 0)) := fun a b => by
  unfold pairS
  rw [er_pos, er_pos]
  unfold brB
  rw [decide_eq_true_iff, pl_pl, pl_pl]
  constructor
  ·intro h ha hb e
   rcases h ha hb with h | h
   ·exact absurd e h.2.2
   ·exact h
  ·intro h ha hb
   by_cases e : plI vs a l = plI vs b l
   ·exact .inr (h ha hb e)
   ·exact .inl ⟨ha, hb, e⟩
 rw [e1]
 have al : ∀ {a b : Nat}, (a : Int) ∈ L → (b : Int) ∈ L → (alS vs K (a, 0) (b, 0) ↔ dT (vAt vs a) (vAt vs b) K 0 0 = []) := fun {a b} ha hb =>
  alS_dT (hv _ (vAt_in (hL.nat a ha))) (hv _ (vAt_in (hL.nat b hb))) (hv0 _ (vAt_in (hL.nat a ha))) (hv0 _ (vAt_in (hL.nat b hb)))
 constructor
 ·rintro h i hi k hk ⟨h1, h2⟩
  obtain ⟨a, ea, ha4⟩ := L_nat hn hL (lAt_mem hi)
  obtain ⟨b, eb, hb4⟩ := L_nat hn hL (lAt_mem (show k < L.length by omega))
  have ha : (a : Int) ∈ L := by rw [← ea]; exact lAt_mem hi
  have hb : (b : Int) ∈ L := by rw [← eb]; exact lAt_mem (by omega)
  rw [ea, eb] at h1 h2
  rw [Int.toNat_natCast, Int.toNat_natCast] at h2
  refine h2 ((al ha hb).1 ?_)
  rcases Nat.lt_trichotomy a b with h3 | h3 | h3
  ·exact ((e2 b a).1 (h b a hb4 h3) hb ha h1.symm).symm
  ·subst h3; exact alS.refl _
  ·exact (e2 a b).1 (h a b ha4 h3) ha hb h1
 ·intro h a b ha4 hba
  rw [e2]
  intro ha hb e
  obtain ⟨i, hi, ei⟩ := mem_lAt ha
  obtain ⟨j, hj, ej⟩ := mem_lAt hb
  rcases Nat.lt_trichotomy i j with h3 | h3 | h3
  ·refine alS.symm ((al hb ha).2 ?_)
   have := h j hj i h3
   rw [ei, ej, Int.toNat_natCast, Int.toNat_natCast] at this
   exact Classical.byContradiction fun h4 => this ⟨e.symm, h4⟩
  ·subst h3
   rw [ei] at ej
   have : a = b := by omega
   subst this
   exact alS.refl _
  ·refine (al ha hb).2 ?_
   have := h i hi j h3
   rw [ei, ej, Int.toNat_natCast, Int.toNat_natCast] at this
   exact Classical.byContradiction fun h4 => this ⟨e, h4⟩
end
end Go.Vm

namespace Go.Vm
open Go.Proofs
theorem Found.distinct {K : Type} {next : K → Nat → K} {done : K → Prop} {start : K} {c : Nat} {l : List Nat} (h : Found next done start c (some l)) {i j : Nat} (hij : i < j) (hj : j ≤ l.length) : runB next start (l.take i) ≠ runB next start (l.take j) := fun e => by
 obtain ⟨h1, h2, h3⟩ := h.yes l rfl
 have run_app : ∀ (a b : List Nat), runB next start (a ++ b) = runB next (runB next start a) b := fun a b => by unfold runB; rw [List.foldl_append]
 have e1 : runB next start (l.take i ++ l.drop j) = runB next start l := by
  rw [run_app, e, ← run_app, List.take_append_drop]
 have hlen : (l.take i ++ l.drop j).length < l.length := by rw [List.length_append, List.length_take, List.length_drop]; omega
 have h4 := h3 (l.take i ++ l.drop j) (fun x hx => by
  rcases List.mem_append.1 hx with hx | hx
  ·exact h1 x (List.mem_of_mem_take hx)
  ·exact h1 x (List.mem_of_mem_drop hx)) (by rw [e1]; exact h2)
 rcases h4 with (h4 | ⟨h4, _⟩) | h4
 ·omega
 ·omega
 ·rw [← h4] at hlen; omega
theorem Found.bound {K C : Type} [DecidableEq C] {next : K → Nat → K} {done : K → Prop} {start : K} {c : Nat} {l : List Nat} (h : Found next done start c (some l)) (code : List Nat → C) (U : List C) (hU : ∀ i, i ≤ l.length → code (l.take i) ∈ U)
  (hi : ∀ i j, i < j → j ≤ l.length → code (l.take i) = code (l.take j) → runB next start (l.take i) = runB next start (l.take j)) : l.length < U.length := by
 have hn : ((List.range (l.length + 1)).map fun i => code (l.take i)).Nodup := by
  rw [List.nodup_iff_pairwise_ne, List.pairwise_map]
  refine List.nodup_range.imp_of_mem fun {a b} ha hb hab e => ?_
  have ha := List.mem_range.1 ha
  have hb := List.mem_range.1 hb
  rcases Nat.lt_trichotomy a b with h1 | h1 | h1
  ·exact h.distinct h1 (by omega) (hi a b h1 (by omega) e)
  ·exact hab h1
  ·exact h.distinct h1 (by omega) (hi b a h1 (by omega) e.symm)
 have := nodup_length hn (U := U) fun x hx => by
  obtain ⟨i, hi, rfl⟩ := List.mem_map.1 hx
  exact hU i (by have := List.mem_range.1 hi; omega)
 rw [List.length_map, List.length_range] at this
 omega
section
variable {vs : List Vers} {K : Nat} {L : List Int} (hv : ∀ v ∈ vs, VersOk v K) (hv0 : ∀ v ∈ vs, 0 < v.length) (hs : ∀ v ∈ vs, v.length ≤ 4) (hn : vs.length ≤ 4) (hL : LeftOk vs L)
def tupN (vs : List Vers) (L : List Int) (l : List Nat) : Nat × Nat × Nat × Nat := ((erI vs L l 0).toNat, (erI vs L l 1).toNat, (erI vs L l 2).toNat, (erI vs L l 3).toNat)
def all4 : List (Nat × Nat × Nat × Nat) := prodL [0, 1, 2, 3] (prodL [0, 1, 2, 3] (prodL [0, 1, 2, 3] [0, 1, 2, 3]))
theorem all4_length : all4.length = 256 := by
 unfold all4
 simp only [prodL_length]
 rfl
include hv hv0 hs hL in
theorem tup_mem {l : List Nat} (hl : OkL K l) : tupN vs L l ∈ all4 := by
 have key : ∀ n : Nat, (erI vs L l n).toNat ∈ [0, 1, 2, 3] := fun n => by
  have : (erI vs L l n).toNat < 4 := by
   by_cases hm : (n : Int) ∈ L
   ·rw [er_aft hm, Int.toNat_natCast]
    exact aft_lt hv hv0 hs hL hm hl
   ·unfold erI
    rw [if_neg hm]
    decide
  simp
  omega
 exact prodL_mem (key 0) (prodL_mem (key 1) (prodL_mem (key 2) (key 3)))
theorem tup_er {l m : List Nat} (h : tupN vs L l = tupN vs L m) : erI vs L l 0 = erI vs L m 0 ∧ erI vs L l 1 = erI vs L m 1 ∧ erI vs L l 2 = erI vs L m 2 ∧ erI vs L l 3 = erI vs L m 3 := by
 have key : ∀ n : Nat, (erI vs L l n).toNat = (erI vs L m n).toNat → erI vs L l n = erI vs L m n := fun n h => by
  by_cases hm : (n : Int) ∈ L
  ·rw [er_aft hm, er_aft hm] at h ⊢
   omega
  ·unfold erI
   rw [if_neg hm, if_neg hm]
 unfold tupN at h
 simp only [Prod.mk.injEq] at h
 exact ⟨key 0 h.1, key 1 h.2.1, key 2 h.2.2.1, key 3 h.2.2.2⟩
def bitN (b : Bool) : Nat := if b then 1 else 0
def cntB (vs : List Vers) (L : List Int) (l : List Nat) : Nat := bitN (brB vs L l 1 0) + bitN (brB vs L l 2 0) + bitN (brB vs L l 2 1) + bitN (brB vs L l 3 0) + bitN (brB vs L l 3 1) + bitN (brB vs L l 3 2)
theorem br_mono {l t : List Nat} {a b : Nat} (h : brB vs L l a b = true) : brB vs L (l ++ t) a b = true := by
 unfold brB at h ⊢
 rw [decide_eq_true_iff] at h ⊢
 refine ⟨h.1, h.2.1, fun e => h.2.2 ?_⟩
 unfold plN at e ⊢
 have e2 : cuesI (l ++ t) = cuesI l ++ cuesI t := List.map_append
 rw [e2, plays_append, plays_append] at e
 exact (List.append_inj e (by rw [plays_length, plays_length])).1
theorem bit_same {x y : Bool} (h : x = true → y = true) (e : bitN y ≤ bitN x) : x = y := by
 cases x <;> cases y <;> simp [bitN] at *
theorem bit_le {x y : Bool} (h : x = true → y = true) : bitN x ≤ bitN y := by
 cases x <;> cases y <;> simp [bitN] at *
theorem cnt_same {l t : List Nat} (h : cntB vs L (l ++ t) = cntB vs L l) : brB vs L l 1 0 = brB vs L (l ++ t) 1 0 ∧ brB vs L l 2 0 = brB vs L (l ++ t) 2 0 ∧ brB vs L l 2 1 = brB vs L (l ++ t) 2 1 ∧ brB vs L l 3 0 = brB vs L (l ++ t) 3 0 ∧ brB vs L l 3 1 = brB vs L (l ++ t) 3 1 ∧ brB vs L l 3 2 = brB vs L (l ++ t) 3 2 := by
 have m : ∀ a b, brB vs L l a b = true → brB vs L (l ++ t) a b = true := fun a b => br_mono
 have h1 := bit_le (m 1 0)
 have h2 := bit_le (m 2 0)
 have h3 := bit_le (m 2 1)
 have h4 := bit_le (m 3 0)
 have h5 := bit_le (m 3 1)
 have h6 := bit_le (m 3 2)
 unfold cntB at h
 exact ⟨bit_same (m 1 0) (by omega), bit_same (m 2 0) (by omega), bit_same (m 2 1) (by omega), bit_same (m 3 0) (by omega), bit_same (m 3 1) (by omega), bit_same (m 3 2) (by omega)⟩
include hv hv0 hs hL in
theorem settle_short {done : Pos → Prop} {l : List Nat} (h : Found (nextP vs) done (posRun vs L []) K (some l)) : l.length < 1792 := by
 have hok : OkL K l := (h.yes l rfl).1
 have ok : ∀ i, OkL K (l.take i) := fun i x hx => hok x (List.mem_of_mem_take hx)
 have := h.bound (fun l => (tupN vs L l, cntB vs L l)) (prodL all4 [0, 1, 2, 3, 4, 5, 6]) (fun i _ => prodL_mem (tup_mem hv hv0 hs hL (ok i)) (by
  have b1 : ∀ x : Bool, bitN x ≤ 1 := fun x => by cases x <;> simp [bitN]
  have h1 := b1 (brB vs L (l.take i) 1 0)
  have h2 := b1 (brB vs L (l.take i) 2 0)
  have h3 := b1 (brB vs L (l.take i) 2 1)
  have h4 := b1 (brB vs L (l.take i) 3 0)
  have h5 := b1 (brB vs L (l.take i) 3 1)
  have h6 := b1 (brB vs L (l.take i) 3 2)
  unfold cntB
  simp
  omega)) fun i j hij hj e => by
   rw [run_pos hv hv0 hL.nat _ (ok i), run_pos hv hv0 hL.nat _ (ok j)]
   obtain ⟨e1, e2⟩ := Prod.mk.inj e
   have et : l.take j = l.take i ++ (l.take j).drop i := by
    have := List.take_append_drop i (l.take j)
    rw [List.take_take, Nat.min_eq_left (by omega)] at this
    exact this.symm
   rw [et] at e2
   obtain ⟨b0, b1, b2, b3, b4, b5⟩ := cnt_same e2.symm
   rw [← et] at b0 b1 b2 b3 b4 b5
   obtain ⟨k0, k1, k2, k3⟩ := tup_er e1
   unfold posRun
   rw [k0, k1, k2, k3, b0, b1, b2, b3, b4, b5]
 rw [prodL_length, all4_length] at this
 exact this
end
end Go.Vm

namespace Go.Vm
open Go.Proofs
theorem lAt_get {L : List Int} {i : Nat} (h : i < L.length) : L[i]? = some (lAt L i) := by simp [lAt, List.getD, h]
theorem vAt_at {vs : List Vers} {n : Nat} (h : n < vs.length) : vs[n]? = some (vAt vs n) := by simp [vAt, List.getD, h]
instance (vs : List Vers) (K : Nat) (L : List Int) (l : List Nat) : Decidable (specJ vs K L l) := by unfold specJ; infer_instance
instance (vs : List Vers) (K : Nat) (L : List Int) (l : List Nat) : Decidable (specS vs K L l) := by unfold specS; infer_instance
end Go.Vm

namespace Go.Vm
open Go.Proofs
end Go.Vm

namespace Go.Vm
open Go.Proofs
structure Lvl where
 ks : List Nat
 lev : List (List Nat)
 n : Nat
end Go.Vm
