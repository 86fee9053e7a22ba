/-
  Texts of the proof, part 14: the machine, contracts of functions, plain laws. (Own work.)
-/
import Derived.Test.YteefbiehcfmoeaaGreatDoorG13DalangParses
import Derived.Test.YteefbiehcfmoeaaGreatDoorProg
import Derived.Tactics
import Derived.Tactics2
import Derived.Defers
import Derived.Recover
import Derived.Laws.Pointers
import Derived.KernelRfl
import Derived.WalkKit
import Derived.WalkSpells
import Derived.Laws.EntriesVeiled
import Derived.Test.YteefbiehcfmoeaaGreatDoorG11DalangParses

namespace Go.Vm
open Go.Proofs
noncomputable def ofL {α : Type} (l : List (Nat × α)) : Trie α := List.rec .nil (fun p _ ih => set ih p.1 p.2) l
theorem get_ofL {α : Type} : ∀ {l : List (Nat × α)} {s : Nat} {v : α}, get (ofL l) s = some v → (s, v) ∈ l
 | [], s, v, h => by
  have h' : get (.nil : Trie α) s = some v := h
  rw [get_nil] at h'; cases h'
 | p :: l, s, v, h => by
  have h' : get (set (ofL l) p.1 p.2) s = some v := h
  by_cases e : p.1 = s
  ·subst e
   rw [get_set_same] at h'; cases h'; exact List.mem_cons_self
  ·rw [get_set_other _ _ _ _ e] at h'
   exact List.mem_cons_of_mem _ (get_ofL h')
def WeakH (H : List Blk) (v v' : AV) : Prop := ∀ (_ : Outer) ι w c, VRel ⟨H, ι, w⟩ v c → VRel ⟨H, ι, w⟩ v' c
def Weak (t : Trie Blk) (v v' : AV) : Prop := ∀ n H, HT t n H → WeakH H v v'
theorem Weak.refl (t : Trie Blk) (v : AV) : Weak t v v := fun _ _ _ _ _ _ _ h => h
theorem Weak.own {t : Trie Blk} {r g : Nat} (sz : Nat) (hr : get t r = some (.row g)) : Weak t (.lit (.slice none 0 0)) (.sl 0 [] (.own r g sz)) := fun _ _ hH _ _ _ _ h => by
 simp only [VRel] at h ⊢
 refine ⟨none, 0, h, Nat.le_refl _, .inl trivial, ?_⟩
 exact ⟨by simp, g, hH.blk _ _ hr, Nat.le_refl _, fun _ => .inl rfl⟩
theorem Run.back {P : Program} {ro : Option Nat} {c : Code} {k : Nat} {V0 V1 V2 : Trie AV} {H H1 : List Blk} {d d1 : List Nat} (h : Run P ro c ⟨k, V0, H, d⟩ .normal ⟨k, V1, H1, d1⟩) (hd : (d1.filter fun i => Nat.blt i H.length) = d)
  (hv : ∀ s v, get V2 s = some v → ∃ v1, get V1 s = some v1 ∧ WeakH H1 v1 v ∧ v.under H.length) (hchg : ∀ id, id < H.length → H1[id]? = H[id]? ∨ ∃ B, H1[id]? = some B ∧ B.under H.length) : Run P ro c ⟨k, V0, H, d⟩ .normal ⟨k, V2, H1.take H.length, d⟩ := by
 intro O ι a w cro hro hs
 refine wpIn_mono (h O ι a w cro hro hs) ?_
 rintro e1 a1 w1 ⟨ι1, hx, hs1, hev, hnon⟩
 cases e1 with
 | normal =>
  refine ⟨cutι ι1 H.length, trivial, ⟨Rel.back hs.rel hs1.rel hev hnon hchg, hs1.size, fun s v hg => ?_, by have := DefRel.cut (n := H.length) hs1.rel hs1.defs; rw [hd] at this; exact this⟩, hev.cut, hnon.cut⟩
  obtain ⟨v1, hg1, hw, hu⟩ := hv s v hg
  obtain ⟨c, hc, hr⟩ := hs1.vars s v1 hg1
  exact ⟨c, hc, VRel.cut (S := ⟨H1, ι1, w1⟩) v c hu (hw O ι1 w1 c hr)⟩
 | _ => exact hx.elim
theorem InL.fewer {P : Program} {ro : Option Nat} {c : Code} {k : Nat} {V V0 : Trie AV} {H : List Blk} {d : List Nat} {x : AExit} {σ' : St} (h : InL P ro c ⟨k, V0, H, d⟩ x σ') (hv : ∀ s v, get V0 s = some v → ∃ v1, get V s = some v1 ∧ WeakH H v1 v) : InL P ro c ⟨k, V, H, d⟩ x σ' := by
 intro O ι a w cro hro hs
 refine h O ι a w cro hro ⟨hs.rel, hs.size, fun s v hg => ?_, hs.defs⟩
 obtain ⟨v1, hg1, hw⟩ := hv s v hg
 obtain ⟨c, hc, hr⟩ := hs.vars s v1 hg1
 exact ⟨c, hc, hw O ι w c hr⟩
def RoundQ {α : Type} (S : α → List (Nat × AV)) (T : α → List (Nat × Blk)) (μ : α → Nat) (L n : Nat) (d : List Nat) (Q : CodeQ) (a : α) : CodeQ := fun x e lo' => match x with
 | .normal => L ≤ lo' ∧ (e.defs.filter fun i => Nat.blt i n) = d ∧ ∃ a', μ a' < μ a ∧ (∀ p ∈ S a', ∃ v, get e.vars p.1 = some v ∧ Weak e.t v p.2 ∧ p.2.under n) ∧ (∀ p ∈ T a', get e.t p.1 = some p.2 ∧ p.1 < n) ∧ ∀ id, lo' ≤ id → id < n → ∃ B, get e.t id = some B ∧ B.under n
 | x => L ≤ lo' ∧ Q x e L
theorem loop_rule0 {P : Program} {m : Bool} {k : Nat} {ro : Option Nat} {c : Code} {α : Type} (hm : P.follows .mixedOrders = true) {vars : Trie AV} {t : Trie Blk} {n lo : Nat} {d : List Nat} {Q : CodeQ}
  (S : α → List (Nat × AV)) (T : α → List (Nat × Blk)) (μ : α → Nat) (L : Nat) (a0 : α) (hlo : L ≤ lo) (hv : ∀ p ∈ S a0, ∃ v, get vars p.1 = some v ∧ Weak t v p.2) (ht : ∀ p ∈ T a0, get t p.1 = some p.2)
  (R : α → CodeQ) (hR : ∀ a x e lo', R a x e lo' → RoundQ S T μ L n d Q a x e lo')
  (body : ∀ a, gCode P m k ro c (ofL (S a)) (ofL (T a)) n d noLo (R a)) : LoopG P ro c k vars t n d lo Q := by
 have key : ∀ j a, μ a = j → ∀ H H0, HT (ofL (T a)) n H → Keep H0 H L → ∃ x e lo' H', HT e.t e.n H' ∧ Keep H0 H' lo' ∧ InL P ro c ⟨k, ofL (S a), H, d⟩ x ⟨k, e.vars, H', e.defs⟩ ∧ Q x e lo' := by
  intro j
  induction j using Nat.strongRecOn with
  | _ j ih =>
  intro a hj H H0 hH hk
  obtain ⟨x, e, lo', H1, hH1, hk1, hrun, hq⟩ := gCode_spec hm c _ _ _ _ _ _ (body a) H H hH (Keep.refl _ _)
  have hq := hR _ _ _ _ hq
  cases x with
  | normal =>
   obtain ⟨hL, hd, a', hμ, hS, hT, hB⟩ := hq
   have hlen := hH.len
   have hchg : ∀ id, id < H.length → H1[id]? = H[id]? ∨ ∃ B, H1[id]? = some B ∧ B.under H.length := by
    intro id hlt
    rcases Nat.lt_or_ge id lo' with h | h
    ·exact .inl (hk1.low id h hlt)
    ·obtain ⟨B, hB1, hB2⟩ := hB id h (by omega)
     exact .inr ⟨B, hH1.blk _ _ hB1, by rw [hlen]; exact hB2⟩
   have hback := hrun.back (V2 := ofL (S a')) (by rw [hlen]; exact hd) (fun s v hg => by
    obtain ⟨v1, h1, h2, h3⟩ := hS _ (get_ofL hg)
    exact ⟨v1, h1, h2 _ _ hH1, by rw [hlen]; exact h3⟩) hchg
   have hle := hk1.le
   have hH2 : HT (ofL (T a')) n (H1.take H.length) := by
    refine ⟨by rw [List.length_take]; omega, fun id B hg => ?_⟩
    obtain ⟨h1, h2⟩ := hT _ (get_ofL hg)
    rw [List.getElem?_take_of_lt (by omega)]
    exact hH1.blk _ _ h1
   have hk2 : Keep H (H1.take H.length) L := by
    refine ⟨by rw [List.length_take]; omega, fun id h1 h2 => ?_, fun id hid => ?_⟩
    ·rw [List.getElem?_take_of_lt h2]; exact hk1.low id (by omega) h2
    ·have hlt := (List.getElem?_eq_some_iff.1 hid).1
     rw [List.getElem?_take_of_lt hlt]; exact hk1.marks id hid
   obtain ⟨x, e2, lo2, H2, hH3, hk3, hin, hq2⟩ := ih (μ a') (by omega) a' rfl (H1.take H.length) H0 hH2 (hk.trans hk2 (Nat.le_refl _) (Nat.le_refl _))
   exact ⟨x, e2, lo2, H2, hH3, hk3, .go hback hin, hq2⟩
  | exit i => exact ⟨_, e, L, H1, hH1, hk.trans hk1 (Nat.le_refl _) hq.1, .out hrun rfl, hq.2⟩
  | ret => exact ⟨_, e, L, H1, hH1, hk.trans hk1 (Nat.le_refl _) hq.1, .out hrun rfl, hq.2⟩
  | pan v => exact ⟨_, e, L, H1, hH1, hk.trans hk1 (Nat.le_refl _) hq.1, .out hrun rfl, hq.2⟩
 refine ⟨fun H H0 hH hk => ?_⟩
 obtain ⟨x, e, lo', H', h1, h2, h3, h4⟩ := key _ a0 rfl H H0 ⟨hH.len, fun id B hg => hH.blk _ _ (ht _ (get_ofL hg))⟩ (hk.mono hlo)
 exact ⟨x, e, lo', H', h1, h2, (h3.fewer fun s v hg => by
  obtain ⟨v1, g1, g2⟩ := hv _ (get_ofL hg)
  exact ⟨v1, g1, g2 _ _ hH⟩), h4⟩
def Slots (g : Nat → Option AV) (t : Trie Blk) (n : Nat) : List (Nat × AV) → Prop
 | [] => True
 | p :: l => (∃ v, g p.1 = some v ∧ Weak t v p.2 ∧ p.2.under n) ∧ Slots g t n l
def Blks (g : Nat → Option Blk) (n : Nat) : List (Nat × Blk) → Prop
 | [] => True
 | p :: l => (g p.1 = some p.2 ∧ p.1 < n) ∧ Blks g n l
def Dirty (g : Nat → Option Blk) (n : Nat) : List Nat → Prop
 | [] => True
 | i :: l => (∃ B, g i = some B ∧ B.under n) ∧ Dirty g n l
theorem wp {o : Option AV} {t : Trie Blk} {v : AV} {n : Nat} (h : o = some v) (hu : v.under n) : ∃ w, o = some w ∧ Weak t w v ∧ v.under n := ⟨v, h, Weak.refl _ _, hu⟩
theorem bk {o : Option Blk} {B : Blk} {i n : Nat} (h : o = some B) (h' : Nat.blt i n = true) : o = some B ∧ i < n := ⟨h, Nat.le_of_ble_eq_true h'⟩
theorem ifY {X Y : Prop} (h : X) : IfB true X Y := ⟨fun _ => h, fun e => (by cases e)⟩
theorem ifN {X Y : Prop} (h : Y) : IfB false X Y := ⟨fun e => (by cases e), fun _ => h⟩
theorem Slots.mem {g : Nat → Option AV} {t : Trie Blk} {n : Nat} : ∀ {l : List (Nat × AV)}, Slots g t n l → ∀ p ∈ l, ∃ v, g p.1 = some v ∧ Weak t v p.2 ∧ p.2.under n
 | [], _, _, h => by cases h
 | q :: l, hs, p, h => by
  rcases List.mem_cons.1 h with rfl | h
  ·exact hs.1
  ·exact Slots.mem hs.2 p h
theorem Blks.mem {g : Nat → Option Blk} {n : Nat} : ∀ {l : List (Nat × Blk)}, Blks g n l → ∀ p ∈ l, g p.1 = some p.2 ∧ p.1 < n
 | [], _, _, h => by cases h
 | q :: l, hs, p, h => by
  rcases List.mem_cons.1 h with rfl | h
  ·exact hs.1
  ·exact Blks.mem hs.2 p h
theorem Dirty.mem {g : Nat → Option Blk} {n : Nat} : ∀ {l : List Nat}, Dirty g n l → ∀ i ∈ l, ∃ B, g i = some B ∧ B.under n
 | [], _, _, h => by cases h
 | q :: l, hs, p, h => by
  rcases List.mem_cons.1 h with rfl | h
  ·exact hs.1
  ·exact Dirty.mem hs.2 p h
def RoundR {α : Type} (S : α → List (Nat × AV)) (T : α → List (Nat × Blk)) (μ : α → Nat) (L n : Nat) (d : List Nat) (Q : CodeQ) (a : α) : CodeQ := fun x e lo' => match x with
 | .normal => L ≤ lo' ∧ (e.defs.filter fun i => Nat.blt i n) = d ∧ ∃ a', μ a' < μ a ∧ Slots (get e.vars) e.t n (S a') ∧ Blks (get e.t) n (T a') ∧ Dirty (get e.t) n (List.range' lo' (n - lo'))
 | x => L ≤ lo' ∧ Q x e L
theorem loop_r {P : Program} {m : Bool} {k : Nat} {ro : Option Nat} {c : Code} {α : Type} (hm : P.follows .mixedOrders = true) {vars : Trie AV} {t : Trie Blk} {n lo : Nat} {d : List Nat} {Q : CodeQ}
  (S : α → List (Nat × AV)) (T : α → List (Nat × Blk)) (μ : α → Nat) (L : Nat) (a0 : α) (hlo : L ≤ lo) (hv : Slots (get vars) t noLo (S a0)) (ht : Blks (get t) noLo (T a0))
  (body : ∀ a, gCode P m k ro c (ofL (S a)) (ofL (T a)) n d noLo (RoundR S T μ L n d Q a)) : LoopG P ro c k vars t n d lo Q := by
 refine loop_rule0 hm S T μ L a0 hlo (fun p hp => ?_) (fun p hp => (ht.mem p hp).1) _ (fun a x e lo' h => ?_) body
 ·obtain ⟨v, h1, h2, _⟩ := hv.mem p hp
  exact ⟨v, h1, h2⟩
 ·cases x with
  | normal =>
   obtain ⟨h1, h2, a', h3, h4, h5, h6⟩ := h
   refine ⟨h1, h2, a', h3, h4.mem, h5.mem, fun id g1 g2 => h6.mem id ?_⟩
   rw [List.mem_range'_1]; omega
  | _ => exact h
def RoundU (S : Nat → List (Nat × AV)) (T : Nat → List (Nat × Blk)) (I : Nat → Prop) (N L n : Nat) (d : List Nat) (Q : CodeQ) (r : Nat) : CodeQ := fun x e lo' => match x with
 | .normal => L ≤ lo' ∧ (e.defs.filter fun i => Nat.blt i n) = d ∧ r < N ∧ I (r + 1) ∧ Slots (get e.vars) e.t n (S (r + 1)) ∧ Blks (get e.t) n (T (r + 1)) ∧ Dirty (get e.t) n (List.range' lo' (n - lo'))
 | x => L ≤ lo' ∧ Q x e L
theorem loop_up {P : Program} {m : Bool} {k : Nat} {ro : Option Nat} {c : Code} (hm : P.follows .mixedOrders = true) {vars : Trie AV} {t : Trie Blk} {n lo : Nat} {d : List Nat} {Q : CodeQ}
  (S : Nat → List (Nat × AV)) (T : Nat → List (Nat × Blk)) (I : Nat → Prop) (N : Nat) (L : Nat) (hlo : L ≤ lo) (h0 : I 0) (hv : Slots (get vars) t noLo (S 0)) (ht : Blks (get t) noLo (T 0))
  (body : ∀ r, r ≤ N → I r → gCode P m k ro c (ofL (S r)) (ofL (T r)) n d noLo (RoundU S T I N L n d Q r)) : LoopG P ro c k vars t n d lo Q := by
 refine loop_rule0 (α := { r : Nat // r ≤ N ∧ I r }) hm (fun a => S a.1) (fun a => T a.1) (fun a => N - a.1) L ⟨0, Nat.zero_le _, h0⟩ hlo (fun p hp => ?_) (fun p hp => (ht.mem p hp).1) (fun a => RoundU S T I N L n d Q a.1) (fun a x e lo' h => ?_) (fun a => body a.1 a.2.1 a.2.2)
 ·obtain ⟨v, h1, h2, _⟩ := hv.mem p hp
  exact ⟨v, h1, h2⟩
 ·cases x with
  | normal =>
   obtain ⟨h1, h2, h3, h4, h5, h6, h7⟩ := h
   refine ⟨h1, h2, ⟨a.1 + 1, h3, h4⟩, ?_, h5.mem, h6.mem, fun id g1 g2 => h7.mem id ?_⟩
   ·show N - (a.1 + 1) < N - a.1; omega
   ·rw [List.mem_range'_1]; omega
  | _ => exact h
theorem LoopG.at {P : Program} {ro : Option Nat} {c : Code} {k : Nat} {vars : Trie AV} {t : Trie Blk} {n n0 : Nat} {d : List Nat} {lo : Nat} {Q : CodeQ} (h : n = n0) (x : LoopG P ro c k vars t n0 d lo Q) : LoopG P ro c k vars t n d lo Q := by
 rw [h]; exact x
theorem InL.ghost {P : Program} {ro : Option Nat} {c : Code} {k : Nat} {V : Trie AV} {H : List Blk} {d : List Nat} {x : AExit} {σ' : St} (h : InL P ro c ⟨k, V, H ++ [.row 0], d⟩ x σ') : InL P ro c ⟨k, V, H, d⟩ x σ' := by
 intro O ι a w cro hro hs b kk cs hbro hb hr
 have hev : Ev ⟨H, ι, w⟩ ⟨H ++ [.row 0], ι, w⟩ := Ev.fresh hs.rel (w' := w) (H2 := [.row 0]) (fun _ _ => rfl) ⟨rfl, rfl⟩
 have hR : Rel ⟨H ++ [.row 0], ι, w⟩ := Rel.fresh hs.rel (w' := w) (H2 := [.row 0]) (fun _ _ => rfl) ⟨rfl, rfl⟩
 have hnon : Non ⟨H, ι, w⟩ ⟨H ++ [.row 0], ι, w⟩ := fun _ _ h => h
 obtain ⟨e', a', w', hp, harr⟩ := h O ι a w cro (hro.ev hev) ⟨hR, hs.size, hs.vars.ev hev, hs.defs.ev hev (keepsD_append _ _)⟩ b kk cs hbro hb hr
 exact ⟨e', a', w', Post.trans hev hnon _ _ _ hp, harr⟩
theorem LoopG.ghost {P : Program} {ro : Option Nat} {c : Code} {k : Nat} {vars : Trie AV} {t : Trie Blk} {n : Nat} {d : List Nat} {lo : Nat} {Q : CodeQ} (h : LoopG P ro c k vars (set t n (.row 0)) (n + 1) d lo Q) : LoopG P ro c k vars t n d lo Q := by
 obtain ⟨h⟩ := h
 refine ⟨fun H H0 hH hk => ?_⟩
 obtain ⟨x, e, lo', H', h1, h2, h3, h4⟩ := h (H ++ [.row 0]) H0 (hH.push _) (hk.trans (Keep.append H _ lo) (Nat.le_refl _) (Nat.le_refl _))
 exact ⟨x, e, lo', H', h1, h2, h3.ghost, h4⟩
end Go.Vm

namespace Go.Vm
open Go.Proofs
theorem CallG.pure {P : Program} {f : FuncId} {args : List AV} {t : Trie Blk} {n : Nat} {K Kp : AV → Trie Blk → Nat → Nat → Prop} (v : AV) (h : ∀ H, ACall P f args H (.ret v) H) (k : K v t n noLo) : CallG P f args t n K Kp :=
 .ret fun H hH => ⟨v, t, n, noLo, H, hH, h H, Keep.refl _ _, k⟩
inductive Weaks : List AV → List AV → Prop
 | nil : Weaks [] []
 | cons {a b : AV} {l l' : List AV} (h : ∀ H, WeakH H a b) (t : Weaks l l') : Weaks (a :: l) (b :: l')
theorem Weaks.rel [O : Outer] {H : List Blk} {ι : Nat → Option (Nat × Nat)} {w : World} {l l' : List AV} (h : Weaks l l') : ∀ {cs : List Value}, VRels ⟨H, ι, w⟩ l cs → VRels ⟨H, ι, w⟩ l' cs := by
 induction h with
 | nil => intro cs x; exact x
 | cons h _ ih =>
  intro cs x
  cases cs with
  | nil => simp [VRels] at x
  | cons c cs =>
   simp only [VRels] at x ⊢
   exact ⟨h H O ι w c x.1, ih x.2⟩
theorem CallG.weak {P : Program} {f : FuncId} {args args' : List AV} {t : Trie Blk} {n : Nat} {K Kp : AV → Trie Blk → Nat → Nat → Prop} (v : AV) (hw : Weaks args args') (h : ∀ H, ACall P f args' H (.ret v) H) (k : K v t n noLo) : CallG P f args t n K Kp :=
 .pure v (fun H O ι w cs hR hargs => h H O ι w cs hR (hw.rel hargs)) k
theorem WeakH.refl (v : AV) (H : List Blk) : WeakH H v v := fun _ _ _ _ h => h
theorem WeakH.tail (len : Nat) (cells : List AV) (tl : Tail) (H : List Blk) : WeakH H (.sl len cells tl) (.sl len cells .unk) := fun _ _ _ _ h => by
 simp only [VRel] at h ⊢
 obtain ⟨base, cap, hc, hle, hcells, _⟩ := h
 exact ⟨base, cap, hc, hle, hcells, trivial⟩
theorem WeakH.nil (H : List Blk) : WeakH H (.lit (.slice none 0 0)) (.sl 0 [] .unk) := fun _ _ _ _ h => by
 simp only [VRel] at h ⊢
 exact ⟨none, 0, h, Nat.le_refl _, .inl trivial, trivial⟩
end Go.Vm

namespace Go.Vm
open Go.Proofs
theorem ev_box [Outer] {H : List Blk} {ι : Nat → Option (Nat × Nat)} {w : World} {id : Nat} {cells cells' : List AV} {ty : TypeId} (hid : H[id]? = some (.box cells ty)) : Ev ⟨H, ι, w⟩ ⟨H.set id (.box cells' ty), ι, w⟩ := by
 have hlt : id < H.length := (List.getElem?_eq_some_iff.1 hid).1
 have other : ∀ {i : Nat} {B : Blk}, H[i]? = some B → (∀ c t, B ≠ .box c t) → (H.set id (.box cells' ty))[i]? = some B := by
  intro i B hB hne
  rw [List.getElem?_set_ne]
  ·exact hB
  ·rintro rfl
   rw [hid] at hB; cases hB; exact hne _ _ rfl
 refine ⟨fun i hn => ⟨?_, fun b wm h => ⟨wm, h⟩⟩, fun b lim hf => ⟨?_, fun _ _ => rfl⟩, fun i g0 h => ⟨g0, other h (fun _ _ => by simp), Nat.le_refl _, fun _ => ⟨rfl, fun _ _ C t _ h => ⟨C, t, h, rfl⟩⟩⟩,
  fun i g0 c0 h => ⟨_, g0, other h (fun _ _ => by simp), rfl, Nat.le_refl _, fun _ => ⟨⟨c0, rfl⟩, rfl, fun _ _ C t _ h => ⟨C, t, h, rfl⟩⟩⟩, fun _ _ _ => rfl, Rest.refl _, fun _ x => x⟩
 ·obtain ⟨B, hB, hr⟩ := hn
  by_cases hi : id = i
  ·subst hi
   exact ⟨.box cells' ty, by show (H.set id _)[id]? = _; rw [List.getElem?_set_self hlt], rfl⟩
  ·exact ⟨B, by show (H.set id _)[i]? = _; rw [List.getElem?_set_ne hi]; exact hB, hr⟩
 ·obtain ⟨C, t, f, h1, h2, h3, h4⟩ := hf
  refine ⟨C, t, f, h1, h2, fun i wm h => ?_, h4⟩
  obtain ⟨⟨g, hg⟩, hle⟩ := h3 i wm h
  exact ⟨⟨g, other hg (fun _ _ => by simp)⟩, hle⟩
theorem rel_box [Outer] {H : List Blk} {ι : Nat → Option (Nat × Nat)} {w : World} {id : Nat} {cells cells' : List AV} {ty : TypeId} (hR : Rel ⟨H, ι, w⟩) (hid : H[id]? = some (.box cells ty)) (hw : ∀ cs, VRels ⟨H, ι, w⟩ cells cs → VRels ⟨H, ι, w⟩ cells' cs) :
  Rel ⟨H.set id (.box cells' ty), ι, w⟩ := by
 have hev := ev_box (ι := ι) (w := w) (cells' := cells') hid
 have hlt : id < H.length := (List.getElem?_eq_some_iff.1 hid).1
 refine ⟨fun i b wm h => ?_, hR.inj, hR.out, hR.tab⟩
 obtain ⟨B, hB, hrel⟩ := hR.blk i b wm h
 by_cases hi : id = i
 ·subst hi
  have hB' : H[id]? = some B := hB
  rw [hid] at hB'; cases hB'
  obtain ⟨C, h1, h2⟩ := hrel
  exact ⟨.box cells' ty, by show (H.set id _)[id]? = _; rw [List.getElem?_set_self hlt], C, h1, (hw _ h2).ev hev⟩
 ·exact ⟨B, by show (H.set id _)[i]? = _; rw [List.getElem?_set_ne hi]; exact hB, hrel.ev hev rfl⟩
theorem InL.weak_end {P : Program} {ro : Option Nat} {c : Code} {k : Nat} {V1 V2 : Trie AV} {σ : St} {H : List Blk} {d : List Nat} {x : AExit} (h : InL P ro c σ x ⟨k, V1, H, d⟩) (hv : ∀ s v, get V2 s = some v → ∃ v1, get V1 s = some v1 ∧ WeakH H v1 v) : InL P ro c σ x ⟨k, V2, H, d⟩ := by
 intro O ι a w cro hro hs b kk cs hbro hb hr
 obtain ⟨e', a', w', ⟨ι', hx, hs', hev, hnon⟩, harr⟩ := h O ι a w cro hro hs b kk cs hbro hb hr
 refine ⟨e', a', w', ⟨ι', ?_, ⟨hs'.rel, hs'.size, fun s v hg => ?_, hs'.defs⟩, hev, hnon⟩, harr⟩
 ·exact hx
 ·obtain ⟨v1, hg1, hw⟩ := hv s v hg
  obtain ⟨c, hc, hr⟩ := hs'.vars s v1 hg1
  exact ⟨c, hc, hw O ι' w' c hr⟩
def SlotsW (g : Nat → Option AV) (t : Trie Blk) : List (Nat × AV) → Prop
 | [] => True
 | p :: l => (∃ v, g p.1 = some v ∧ Weak t v p.2) ∧ SlotsW g t l
theorem SlotsW.mem {g : Nat → Option AV} {t : Trie Blk} : ∀ {l : List (Nat × AV)}, SlotsW g t l → ∀ p ∈ l, ∃ v, g p.1 = some v ∧ Weak t v p.2
 | [], _, _, h => by cases h
 | q :: l, hs, p, h => by
  rcases List.mem_cons.1 h with rfl | h
  ·exact hs.1
  ·exact SlotsW.mem hs.2 p h
theorem LoopG.after {P : Program} {ro : Option Nat} {c : Code} {k : Nat} {vars : Trie AV} {t : Trie Blk} {n : Nat} {d : List Nat} {lo : Nat} {Q : CodeQ}
  (h : LoopG P ro c k vars t n d lo fun x e lo' => Q x e lo' ∨ ∃ S', SlotsW (get e.vars) e.t S' ∧ Q x ⟨ofL S', e.t, e.n, e.defs⟩ lo') : LoopG P ro c k vars t n d lo Q := by
 obtain ⟨h⟩ := h
 refine ⟨fun H H0 hH hk => ?_⟩
 obtain ⟨x, e, lo', H', h1, h2, h3, h4⟩ := h H H0 hH hk
 rcases h4 with h4 | ⟨S', h5, h6⟩
 ·exact ⟨x, e, lo', H', h1, h2, h3, h4⟩
 ·refine ⟨x, ⟨ofL S', e.t, e.n, e.defs⟩, lo', H', h1, h2, h3.weak_end (fun s v hg => ?_), h6⟩
  obtain ⟨v1, g1, g2⟩ := h5.mem _ (get_ofL hg)
  exact ⟨v1, g1, g2 _ _ h1⟩
end Go.Vm

namespace Go.Vm
open Go.Proofs
mutual
def AV.flat : AV → Bool
 | .lit _ => true
 | .agg cells => AV.flats cells
 | .tup vs => AV.flats vs
 | .iface _ v => AV.flat v
 | _ => false
def AV.flats : List AV → Bool
 | [] => true
 | a :: xs => AV.flat a && AV.flats xs
end
mutual
theorem VRel.flat [Outer] {S S' : Sit} : ∀ (a : AV) (c : Value), a.flat = true → VRel S a c → VRel S' a c
 | .lit v, c, _, x => by simpa [VRel] using x
 | .agg cells, c, h, x => by
  simp only [VRel] at x ⊢
  obtain ⟨C, hc, hr⟩ := x
  exact ⟨C, hc, VRels.flat cells _ h hr⟩
 | .tup vs, c, h, x => by
  simp only [VRel] at x ⊢
  obtain ⟨C, hc, hr⟩ := x
  exact ⟨C, hc, VRels.flat vs _ h hr⟩
 | .iface t v, c, h, x => by
  simp only [VRel] at x ⊢
  obtain ⟨y, hc, hr⟩ := x
  exact ⟨y, hc, VRel.flat v y h hr⟩
 | .ptr .., _, h, _ => by cases h
 | .eptr _, _, h, _ => by cases h
 | .sl .., _, h, _ => by cases h
 | .hsl .., _, h, _ => by cases h
 | .mp _, _, h, _ => by cases h
 | .fn .., _, h, _ => by cases h
 | .yld _, _, h, _ => by cases h
 | .msl .., _, h, _ => by cases h
 | .mptr .., _, h, _ => by cases h
 | .mpx, _, h, _ => by cases h
theorem VRels.flat [Outer] {S S' : Sit} : ∀ (xs : List AV) (cs : List Value), AV.flats xs = true → VRels S xs cs → VRels S' xs cs
 | [], [], _, x => by simp [VRels]
 | [], _ :: _, _, x => by simp [VRels] at x
 | _ :: _, [], _, x => by simp [VRels] at x
 | a :: xs, c :: cs, h, x => by
  simp only [VRels] at x ⊢
  have h' : (AV.flat a && AV.flats xs) = true := h
  rw [Bool.and_eq_true] at h'
  exact ⟨VRel.flat a c h'.1 x.1, VRels.flat xs cs h'.2 x.2⟩
end
mutual
theorem AV.flat_under (n : Nat) : ∀ a : AV, a.flat = true → a.under n
 | .lit v, _ => by simp only [AV.under]
 | .agg cells, h => by simp only [AV.under]; exact AV.flats_under n cells h
 | .tup vs, h => by simp only [AV.under]; exact AV.flats_under n vs h
 | .iface t v, h => by simp only [AV.under]; exact AV.flat_under n v h
 | .ptr .., h => by cases h
 | .eptr _, h => by cases h
 | .sl .., h => by cases h
 | .hsl .., h => by cases h
 | .mp _, h => by cases h
 | .fn .., h => by cases h
 | .yld _, h => by cases h
 | .msl .., h => by cases h
 | .mptr .., h => by cases h
 | .mpx, h => by cases h
theorem AV.flats_under (n : Nat) : ∀ xs : List AV, AV.flats xs = true → AV.unders n xs
 | [], _ => by simp only [AV.unders]
 | a :: xs, h => by
  have h' : (AV.flat a && AV.flats xs) = true := h
  rw [Bool.and_eq_true] at h'
  simp only [AV.unders]
  exact ⟨AV.flat_under n a h'.1, AV.flats_under n xs h'.2⟩
end
inductive FinF (P : Program) (rs : List ResultVar) (e : ES) (v : AV) : Prop
 | mk (vs : List AV) (h : resT P (get e.t) e.vars rs = some vs) (hd : e.defs = []) (hv : resV vs = v)
mutual
theorem AV.under_mono {n n' : Nat} (hn : n ≤ n') : ∀ a : AV, a.under n → a.under n'
 | .lit v, _ => by simp only [AV.under]
 | .agg cells, h => by simp only [AV.under] at h ⊢; exact AV.unders_mono hn cells h
 | .tup vs, h => by simp only [AV.under] at h ⊢; exact AV.unders_mono hn vs h
 | .iface t v, h => by simp only [AV.under] at h ⊢; exact AV.under_mono hn v h
 | .ptr .., h => by simp only [AV.under] at h ⊢; omega
 | .eptr cells, h => by simp only [AV.under] at h ⊢; exact AV.unders_mono hn cells h
 | .sl _ cells tl, h => by
  simp only [AV.under] at h ⊢
  refine ⟨AV.unders_mono hn cells h.1, ?_⟩
  cases tl with
  | own id _ _ => exact Nat.lt_of_lt_of_le h.2 hn
  | _ => trivial
 | .hsl .., h => by simp only [AV.under] at h ⊢; omega
 | .mp _, h => by simp only [AV.under] at h ⊢; omega
 | .fn _ a b, h => by simp only [AV.under] at h ⊢; exact ⟨AV.unders_mono hn a h.1, AV.unders_mono hn b h.2⟩
 | .yld _, h => by simp only [AV.under] at h ⊢; omega
 | .msl .., h => by simp only [AV.under] at h ⊢; omega
 | .mptr .., h => by simp only [AV.under] at h ⊢; omega
 | .mpx, _ => by simp only [AV.under]
theorem AV.unders_mono {n n' : Nat} (hn : n ≤ n') : ∀ xs : List AV, AV.unders n xs → AV.unders n' xs
 | [], _ => by simp only [AV.unders]
 | a :: xs, h => by
  simp only [AV.unders] at h ⊢
  exact ⟨AV.under_mono hn a h.1, AV.unders_mono hn xs h.2⟩
end
end Go.Vm

namespace Go.Vm
open Go.Proofs
noncomputable def setL (t : Trie Blk) (l : List (Nat × Blk)) : Trie Blk := List.rec t (fun p _ ih => set ih p.1 p.2) l
theorem get_setL {t : Trie Blk} : ∀ {l : List (Nat × Blk)} {s : Nat} {v : Blk}, get (setL t l) s = some v → (s, v) ∈ l ∨ get t s = some v
 | [], _, _, h => .inr h
 | p :: l, s, v, h => by
  have h' : get (set (setL t l) p.1 p.2) s = some v := h
  by_cases e : p.1 = s
  ·subst e
   rw [get_set_same] at h'; cases h'; exact .inl List.mem_cons_self
  ·rw [get_set_other _ _ _ _ e] at h'
   rcases get_setL h' with h | h
   ·exact .inl (List.mem_cons_of_mem _ h)
   ·exact .inr h
theorem fn_new {P : Program} {m : Bool} {f : FuncId} {fn : Func} {c : Code} {args : List AV} {v : AV} {n0 n1 : Nat} {L1 : List (Nat × Blk)} (hm : P.follows .mixedOrders = true) (hf : P.funcs[f]? = some fn) (hb : fn.body = some c) (hn : args.length ≤ fn.ntmps)
  (h : gCode P m fn.ntmps none c (initVars 0 args) .nil n0 [] noLo fun x e lo => (x = .ret ∨ x = .normal) ∧ n0 ≤ lo ∧ e.n = n1 ∧ Blks (get e.t) n1 L1 ∧ FinF P fn.results.toList e v) {t : Trie Blk} (H : List Blk) (hH : HT t n0 H) :
  ∃ H', HT (setL t L1) n1 H' ∧ ACall P f args H (.ret v) H' ∧ Keep H H' noLo := by
 have hH0 : HT .nil n0 H := ⟨hH.len, fun id B hg => by rw [get_nil] at hg; cases hg⟩
 obtain ⟨x, e, lo, H', hH', hk', hrun, hx, hlo, hn1, hB, vs, hres, hd, hfr⟩ := gCode_spec hm c _ _ _ _ _ _ h H H hH0 (Keep.refl _ _)
 have hcr : ACall P f args H (.ret (resV vs)) H' := by
  rw [hd] at hrun
  exact ACall.intro_marks hf hb hn hrun hx List.nodup_nil (resT_sound hH' hres)
 subst hfr
 refine ⟨H', ⟨by rw [hH'.len]; exact hn1, fun j B' hg => ?_⟩, hcr, ⟨hk'.le, fun j _ hlt => hk'.low j (by have := hH.len; omega) hlt, hk'.marks⟩⟩
 rcases get_setL hg with h1 | h1
 ·exact hH'.blk _ _ (hB.mem _ h1).1
 ·have h2 := hH.blk _ _ h1
  have hlt := (List.getElem?_eq_some_iff.1 h2).1
  rw [hk'.low j (by have := hH.len; omega) hlt]
  exact h2
theorem CallG.new {P : Program} {f : FuncId} {args : List AV} {t : Trie Blk} {n n1 : Nat} {L1 : List (Nat × Blk)} {K Kp : AV → Trie Blk → Nat → Nat → Prop} (v : AV) (h : ∀ H, HT t n H → ∃ H', HT (setL t L1) n1 H' ∧ ACall P f args H (.ret v) H' ∧ Keep H H' noLo)
  (k : K v (setL t L1) n1 noLo) : CallG P f args t n K Kp :=
 .ret fun H hH => by
  obtain ⟨H', h1, h2, h3⟩ := h H hH
  exact ⟨v, setL t L1, n1, noLo, H', h1, h2, h3, k⟩
theorem CallG.inline {P : Program} {m : Bool} {f : FuncId} {fn : Func} {c : Code} {args : List AV} {t : Trie Blk} {n : Nat} {K Kp : AV → Trie Blk → Nat → Nat → Prop} (hm : P.follows .mixedOrders = true) (hf : P.funcs[f]? = some fn) (hb : fn.body = some c) (hn : args.length ≤ fn.ntmps)
  (h : gCode P m fn.ntmps none c (initVars 0 args) t n [] noLo fun x e lo => (x = .ret ∨ x = .normal) ∧ ∃ vs, resT P (get e.t) e.vars fn.results.toList = some vs ∧ e.defs = [] ∧ K (resV vs) e.t e.n lo) : CallG P f args t n K Kp := by
 refine .ret fun H hH => ?_
 obtain ⟨x, e, lo, H', hH', hk', hrun, hx, vs, hres, hd, hK⟩ := gCode_spec hm c _ _ _ _ _ _ h H H hH (Keep.refl _ _)
 rw [hd] at hrun
 exact ⟨resV vs, e.t, e.n, lo, H', hH', ACall.intro_marks hf hb hn hrun hx List.nodup_nil (resT_sound hH' hres), hk', hK⟩
end Go.Vm

namespace Go.Vm
def n' (i : Int) : AV := .lit (.int .i64 i)
def lu (l : List Int) : AV := .sl l.length (l.map n') .unk
def nilS : AV := .lit (.slice none 0 0)
end Go.Vm

namespace Go.Vm
open Go.Proofs Go.RowKit
theorem CallG.inlineP {P : Program} {m : Bool} {f : FuncId} {fn : Func} {c : Code} {args : List AV} {t : Trie Blk} {n : Nat} {K Kp : AV → Trie Blk → Nat → Nat → Prop} (hm : P.follows .mixedOrders = true) (hf : P.funcs[f]? = some fn) (hb : fn.body = some c) (hn : args.length ≤ fn.ntmps)
  (h : gCode P m fn.ntmps none c (initVars 0 args) t n [] noLo fun x e lo => ((x = .ret ∨ x = .normal) ∧ ∃ vs, resT P (get e.t) e.vars fn.results.toList = some vs ∧ e.defs = [] ∧ K (resV vs) e.t e.n lo) ∨ ∃ v, x = .pan v ∧ e.defs = [] ∧ Kp v e.t e.n lo) : CallG P f args t n K Kp := by
 refine ⟨fun H hH => ?_⟩
 obtain ⟨x, e, lo, H', hH', hk', hrun, hx⟩ := gCode_spec hm c _ _ _ _ _ _ h H H hH (Keep.refl _ _)
 rcases hx with ⟨hx, vs, hres, hd, hK⟩ | ⟨v, rfl, hd, hK⟩
 ·rw [hd] at hrun
  exact .inl ⟨resV vs, e.t, e.n, lo, H', hH', ACall.intro_marks hf hb hn hrun hx List.nodup_nil (resT_sound hH' hres), hk', hK⟩
 ·exact .inr ⟨v, e.t, e.n, lo, H', hH', ACall.intro_pan hf hb hn hrun hd, hk', hK⟩
end Go.Vm

namespace Go.Vm
open Go.Proofs Go.RowKit
theorem RangeG.outer {P : Program} {g : Operand} {ps : Array Tmp} {assign body : Code} {k : Nat} {vars : Trie AV} {t : Trie Blk} {n : Nat} {d : List Nat} {lo : Nat} {Q : CodeQ} {fv : AV} {f : FuncId} {first captured : List AV}
    (hg : evalT vars g = some fv) (hf : fnOf fv = some (f, first, captured)) (hc : callable P f = true)
    (h : CallG P f (first ++ [.yld (n + 1)] ++ captured) (set (set t n .defd) (n + 1) (.loop (loop0 ⟨k, vars, [], []⟩ ps assign body n))) (n + 2)
      (fun _ t' n' l => ∃ l' e, get t' (n + 1) = some (.loop l') ∧ l'.state ≠ .busy ∧ jumpTo l'.pending = some e ∧ Q e ⟨vars, set t' (n + 1) (.loop { l' with state := .exhausted }), n', n :: d⟩ (min lo l)) (fun _ _ _ _ => False)) :
    RangeG P none (.rangeFunc g ps assign body) k vars t n d lo Q := by
  refine ⟨fun H H0 hH hk => ?_⟩
  obtain ⟨h⟩ := h
  have hlen := hH.len
  have e0 : H ++ [Blk.defd, .loop (loop0 ⟨k, vars, [], []⟩ ps assign body n)] = (H ++ [.defd]) ++ [.loop (loop0 ⟨k, vars, [], []⟩ ps assign body n)] := by simp
  have hH2 : HT (set (set t n .defd) (n + 1) (.loop (loop0 ⟨k, vars, [], []⟩ ps assign body n))) (n + 2) (H ++ [Blk.defd, .loop (loop0 ⟨k, vars, [], []⟩ ps assign body n)]) := by
    rw [e0]; exact (hH.push _).push _
  obtain ⟨v, t', n', l, H', hH', hca, hkc, l', e, hl', hb, hj, hQ⟩ := (h _ hH2).resolve_right (fun ⟨_, _, _, _, _, _, _, _, x⟩ => x)
  have hbl := hH'.blk _ _ hl'
  have hrun := Run.rangeFunc_outer (P := P) (σ := ⟨k, vars, H, d⟩) (ps := ps) (assign := assign) (body := body) (g := g) (v := v) (H2 := H') (l' := l') (e := e) (by rw [← evalT_eq k vars H d]; exact hg) hf hc
    (by show ACall P f (first ++ [.yld (H.length + 1)] ++ captured) (H ++ [.defd, .loop (loop0 ⟨k, vars, H, d⟩ ps assign body H.length)]) (.ret v) H'
        rw [hlen]; exact hca) (by show H'[H.length + 1]? = _; rw [hlen]; exact hbl) hb (fun id hid => hkc.marks id (by rw [e0]; exact keepsD_append _ _ id hid)) hj
  have hrun' : Run P none (.rangeFunc g ps assign body) ⟨k, vars, H, d⟩ e ⟨k, vars, H'.set (n + 1) (.loop { l' with state := .exhausted }), n :: d⟩ := by
    have := hrun
    simp only [hlen] at this
    exact this
  refine ⟨e, _, _, _, hH'.set (hH'.lt hl') _, ?_, hrun', hQ⟩
  have hk2 : Keep H H' l := (Keep.append H _ l).trans hkc (Nat.le_refl _) (Nat.le_refl _)
  have hk3 : Keep H (H'.set (n + 1) (.loop { l' with state := .exhausted })) l := by
    refine ⟨by have := hk2.le; simp; omega, fun id h1 h2 => ?_, fun id hid => ?_⟩
    · rw [List.getElem?_set_ne (by omega)]; exact hk2.low id h1 h2
    · have hlt := (List.getElem?_eq_some_iff.1 hid).1
      rw [List.getElem?_set_ne (by omega)]
      exact hk2.marks id hid
  exact hk.trans hk3 (Nat.min_le_left _ _) (Nat.min_le_right _ _)
end Go.Vm

namespace Go.Vm
open Go.Proofs Go.RowKit
theorem Run.fewer {P : Program} {ro : Option Nat} {c : Code} {k : Nat} {V V0 : Trie AV} {H : List Blk} {d : List Nat} {x : AExit} {σ' : St} (h : Run P ro c ⟨k, V0, H, d⟩ x σ') (hv : ∀ s v, get V0 s = some v → ∃ v1, get V s = some v1 ∧ WeakH H v1 v) : Run P ro c ⟨k, V, H, d⟩ x σ' := by
 intro O ι a w cro hro hs
 refine h O ι a w cro hro ⟨hs.rel, hs.size, fun s v hg => ?_, hs.defs⟩
 obtain ⟨v1, hg1, hw⟩ := hv s v hg
 obtain ⟨c, hc, hr⟩ := hs.vars s v1 hg1
 exact ⟨c, hc, hw O ι w c hr⟩
theorem HT.subN {t : Trie Blk} {n m : Nat} {H : List Blk} {L0 : List (Nat × Blk)} (hH : HT t n H) (h : Blks (get t) m L0) : HT (ofL L0) n H :=
 ⟨hH.len, fun _ _ hg => hH.blk _ _ (h.mem _ (get_ofL hg)).1⟩
theorem RangeG.fresh {P : Program} {ro : Option Nat} {c : Code} {k : Nat} {vars : Trie AV} {t : Trie Blk} {n n0 : Nat} {d : List Nat} {lo : Nat} {Q : CodeQ} (S : List (Nat × AV)) (T : List (Nat × Blk)) (hn : n = n0) (hS : SlotsW (get vars) t S) (hT : Blks (get t) noLo T)
  (h : RangeG P ro c k (ofL S) (ofL T) n0 d lo Q) : RangeG P ro c k vars t n d lo Q := by
 subst hn
 obtain ⟨h⟩ := h
 refine ⟨fun H H0 hH hk => ?_⟩
 obtain ⟨x, e, lo', H', h1, h2, h3, h4⟩ := h H H0 (hH.subN hT) hk
 exact ⟨x, e, lo', H', h1, h2, h3.fewer fun s v hg => by
  obtain ⟨v1, g1, g2⟩ := hS.mem _ (get_ofL hg)
  exact ⟨v1, g1, g2 _ _ hH⟩, h4⟩
theorem RangeG.after {P : Program} {ro : Option Nat} {c : Code} {k : Nat} {vars : Trie AV} {t : Trie Blk} {n : Nat} {d : List Nat} {lo : Nat} {Q : CodeQ}
  (h : RangeG P ro c k vars t n d lo fun x e lo' => x = .normal ∧ ∃ S T n0, e.n = n0 ∧ SlotsW (get e.vars) e.t S ∧ Blks (get e.t) noLo T ∧ Q .normal ⟨ofL S, ofL T, n0, e.defs⟩ lo') : RangeG P ro c k vars t n d lo Q := by
 obtain ⟨h⟩ := h
 refine ⟨fun H H0 hH hk => ?_⟩
 obtain ⟨x, e, lo', H', h1, h2, h3, rfl, S, T, n0, h4, h5, h6, h7⟩ := h H H0 hH hk
 subst h4
 refine ⟨.normal, ⟨ofL S, ofL T, e.n, e.defs⟩, lo', H', h1.subN h6, h2, ?_, h7⟩
 intro O ι a w cro hro hs
 refine wpIn_mono (h3 O ι a w cro hro hs) ?_
 rintro e1 a1 w1 ⟨ι1, hx, hs1, hev, hnon⟩
 refine ⟨ι1, hx, ⟨hs1.rel, hs1.size, fun s v hg => ?_, hs1.defs⟩, hev, hnon⟩
 obtain ⟨v1, hg1, hw⟩ := h5.mem _ (get_ofL hg)
 obtain ⟨c, hc, hr⟩ := hs1.vars s v1 hg1
 exact ⟨c, hc, hw _ _ h1 O ι1 w1 c hr⟩
inductive FinM (P : Program) (rs : List ResultVar) (e : ES) (v : AV) : Prop
 | mk (vs : List AV) (h : resT P (get (spendT e.defs e.t)) e.vars rs = some vs) (hd : (e.defs.all (fun d => Nat.blt d e.n) && nodupB e.defs) = true) (hv : (resV vs).freeze (get (spendT e.defs e.t)) = v)
theorem fn_ruleM {P : Program} {m : Bool} {f : FuncId} {fn : Func} {c : Code} {args : List AV} {v : AV} (hm : P.follows .mixedOrders = true) (hf : P.funcs[f]? = some fn) (hb : fn.body = some c) (hn : args.length ≤ fn.ntmps)
  (ha : AV.unders 0 args) (hv : v.under 0)
  (h : gCode P m fn.ntmps none c (initVars 0 args) .nil 0 [] noLo fun x e _ => (x = .ret ∨ x = .normal) ∧ FinM P fn.results.toList e v) (H : List Blk) : ACall P f args H (.ret v) H := by
 obtain ⟨x, e, lo, H', hH', hk', hrun, hx, vs, hres, hd, hfr⟩ := gCode_spec hm c _ _ _ _ _ _ h [] [] HT.nil (Keep.refl _ _)
 rw [Bool.and_eq_true, List.all_eq_true] at hd
 have hs := spendT_sound e.defs hH' fun d hdm => Nat.le_of_ble_eq_true (hd.1 d hdm)
 have hcr : ACall P f args [] (.ret (resV vs)) (spend e.defs H') := ACall.intro_marks hf hb hn hrun hx (nodupB_sound hd.2) (resT_sound hs hres)
 subst hfr
 exact hcr.freeze0 hs.blk ha hv H
theorem CallG.fresh {P : Program} {f : FuncId} {args : List AV} {t : Trie Blk} {n n0 : Nat} {K Kp : AV → Trie Blk → Nat → Nat → Prop} (args' : List AV) (T : List (Nat × Blk)) (hn : n = n0) (ha : Weaks args args') (hT : Blks (get t) noLo T)
  (h : CallG P f args' (ofL T) n0 K Kp) : CallG P f args t n K Kp := by
 subst hn
 obtain ⟨h⟩ := h
 refine ⟨fun H hH => ?_⟩
 rcases h H (hH.subN hT) with ⟨v, t', n', l, H', h1, h2, h3, h4⟩ | ⟨v, t', n', l, H', h1, h2, h3, h4⟩
 ·exact .inl ⟨v, t', n', l, H', h1, fun O ι w cs hR hargs => h2 O ι w cs hR (ha.rel hargs), h3, h4⟩
 ·exact .inr ⟨v, t', n', l, H', h1, fun O ι w cs hR hargs => h2 O ι w cs hR (ha.rel hargs), h3, h4⟩
def Numd : Nat → List (Nat × Blk) → Prop
 | _, [] => True
 | i, p :: l => p.1 = i ∧ Numd (i + 1) l
theorem Numd.mem : ∀ {l : List (Nat × Blk)} {i : Nat}, Numd i l → ∀ p ∈ l, i ≤ p.1 ∧ (l.map (·.2))[p.1 - i]? = some p.2
 | [], _, _, _, hp => by cases hp
 | q :: l, i, h, p, hp => by
  rcases List.mem_cons.1 hp with rfl | hp
  ·refine ⟨by have := h.1; omega, ?_⟩
   rw [h.1, Nat.sub_self]; rfl
  ·obtain ⟨h1, h2⟩ := Numd.mem h.2 p hp
   refine ⟨by omega, ?_⟩
   rw [show p.1 - i = (p.1 - (i + 1)) + 1 by omega, List.map_cons, List.getElem?_cons_succ]
   exact h2
theorem Numd.at : ∀ {l : List (Nat × Blk)} {i : Nat}, Numd i l → ∀ j, j < l.length → ∃ p ∈ l, p.1 = i + j ∧ (l.map (·.2))[j]? = some p.2
 | [], _, _, _, hj => by simp at hj
 | q :: l, i, h, 0, _ => ⟨q, List.mem_cons_self, by have := h.1; omega, rfl⟩
 | q :: l, i, h, j + 1, hj => by
  obtain ⟨p, h1, h2, h3⟩ := Numd.at h.2 j (by simpa using hj)
  exact ⟨p, List.mem_cons_of_mem _ h1, by omega, by rw [List.map_cons, List.getElem?_cons_succ]; exact h3⟩
abbrev hp (l : List (Nat × Blk)) : List Blk := l.map (·.2)
theorem HT.full {l : List (Nat × Blk)} (h : Numd 0 l) {p : Nat} (hl : l.length = p) : HT (ofL l) p (hp l) :=
 ⟨by simpa using hl, fun id B hg => by
  obtain ⟨_, h2⟩ := h.mem _ (get_ofL hg)
  simpa using h2⟩
theorem take_full {l : List (Nat × Blk)} {H : List Blk} (h : Numd 0 l) (hB : ∀ q ∈ l, H[q.1]? = some q.2) : H.take l.length = hp l := by
 refine List.ext_getElem? fun i => ?_
 rcases Nat.lt_or_ge i l.length with hi | hi
 ·obtain ⟨q, h1, h2, h3⟩ := h.at i hi
  rw [List.getElem?_take_of_lt hi, h3, ← hB q h1, h2, Nat.zero_add]
 ·rw [List.getElem?_eq_none (by rw [List.length_take]; omega), List.getElem?_eq_none (by simpa using hi)]
def MarksL : List (Nat × Blk) → List (Nat × Blk) → Prop
 | [], [] => True
 | p :: l, p' :: l' => (p.2 = .defd → p'.2 = .defd) ∧ MarksL l l'
 | _, _ => False
theorem MarksL.get : ∀ {l l' : List (Nat × Blk)}, MarksL l l' → ∀ i : Nat, (hp l)[i]? = some Blk.defd → (hp l')[i]? = some Blk.defd
 | [], [], _, i, h => by simp at h
 | p :: l, p' :: l', h, 0, e => by
  simp at e ⊢
  exact h.1 e
 | p :: l, p' :: l', h, i + 1, e => by
  simp only [hp, List.map_cons, List.getElem?_cons_succ] at e ⊢
  exact MarksL.get h.2 i e
 | [], _ :: _, h, _, _ => h.elim
 | _ :: _, [], h, _, _ => h.elim
theorem get_setL_mem {t : Trie Blk} : ∀ {l : List (Nat × Blk)} {i : Nat}, Numd i l → ∀ q ∈ l, get (setL t l) q.1 = some q.2
 | [], _, _, _, h => by cases h
 | p :: l, i, h, q, hq => by
  show get (set (setL t l) p.1 p.2) q.1 = some q.2
  rcases List.mem_cons.1 hq with rfl | hq
  ·rw [get_set_same]
  ·have h1 := (h.2.mem q hq).1
   have h2 := h.1
   rw [get_set_other _ _ _ _ (by omega)]
   exact get_setL_mem h.2 q hq
theorem CallG.pre {P : Program} {f : FuncId} {args : List AV} {t : Trie Blk} {n : Nat} {K Kp : AV → Trie Blk → Nat → Nat → Prop} (args' : List AV) (L L' : List (Nat × Blk)) (v : AV) (lo : Nat) (hw : Weaks args args') (hL : Numd 0 L) (hL' : Numd 0 L') (hl : L'.length = L.length) (hm : MarksL L L')
  (hb : Blks (get t) noLo L) (hlo : L'.take lo = L.take lo) (hua : AV.unders L.length args') (hv : v.flat = true) (hu : ∀ q ∈ L, q.2.under L.length) (hu' : ∀ q ∈ L', q.2.under L.length)
  (h : ACall P f args' (hp L) (.ret v) (hp L')) (k : K v (setL t L') n lo) : CallG P f args t n K Kp := .ret fun H hH => by
 have hlL : (hp L).length = L.length := by simp
 have hlL' : (hp L').length = L.length := by simp [hl]
 have e0 : H.take L.length = hp L := take_full hL fun q hq => hH.blk _ _ (hb.mem q hq).1
 have hle : L.length ≤ H.length := by
  have := congrArg List.length e0
  rw [List.length_take, hlL] at this
  omega
 have e : H = hp L ++ H.drop L.length := by rw [← e0, List.take_append_drop]
 have under : ∀ (M : List (Nat × Blk)), (∀ q ∈ M, q.2.under L.length) → ∀ B ∈ hp M, B.under (hp L).length := fun M hM B hB => by
  obtain ⟨q, hq, rfl⟩ := List.mem_map.1 hB
  rw [hlL]; exact hM q hq
 have hfr := h.frame (by rw [hlL, hlL']) (by rw [hlL]; exact hua) (AV.flat_under _ _ hv) (under L hu) (under L' hu') (H.drop L.length)
 rw [← e] at hfr
 have at_lt : ∀ i, i < L.length → (hp L' ++ H.drop L.length)[i]? = (hp L')[i]? := fun i hi => List.getElem?_append_left (by omega)
 have at_ge : ∀ i, L.length ≤ i → (hp L' ++ H.drop L.length)[i]? = H[i]? := fun i hi => by
  rw [List.getElem?_append_right (by omega), hlL', List.getElem?_drop]
  congr 1; omega
 refine ⟨v, setL t L', n, lo, hp L' ++ H.drop L.length, ⟨?_, fun id B hg => ?_⟩, fun O ι w cs hR hargs => hfr O ι w cs hR (hw.rel hargs), ⟨?_, fun id h1 h2 => ?_, fun id hid => ?_⟩, k⟩
 ·have := hH.len
  rw [List.length_append, hlL', List.length_drop]; omega
 ·by_cases hid : id < L.length
  ·rw [at_lt id hid]
   obtain ⟨q, q1, q2, q3⟩ := hL'.at id (by omega)
   rcases get_setL hg with h1 | h1
   ·obtain ⟨_, h2⟩ := hL'.mem _ h1
    simpa using h2
   ·rw [q3]
    have : get (setL t L') q.1 = some q.2 := get_setL_mem hL' q q1
    rw [q2, Nat.zero_add, hg] at this
    exact this.symm
  ·rw [at_ge id (by omega)]
   rcases get_setL hg with h1 | h1
   ·obtain ⟨_, h2⟩ := hL'.mem _ h1
    have := (List.getElem?_eq_some_iff.1 h2).1
    simp at this
    omega
   ·exact hH.blk _ _ h1
 ·rw [List.length_append, hlL', List.length_drop]; omega
 ·by_cases hid : id < L.length
  ·rw [at_lt id hid]
   have g1 : (hp L')[id]? = (hp L)[id]? := by
    have := congrArg (fun l => (hp l)[id]?) hlo
    simp only [hp, List.map_take] at this
    rw [List.getElem?_take_of_lt h1, List.getElem?_take_of_lt h1] at this
    exact this
   rw [g1, e, List.getElem?_append_left (by omega)]
  ·rw [at_ge id (by omega)]
 ·by_cases hlt : id < L.length
  ·rw [at_lt id hlt]
   refine hm.get id ?_
   rw [e, List.getElem?_append_left (by omega)] at hid
   exact hid
  ·rw [at_ge id (by omega)]; exact hid
noncomputable def rgn (c : Code) : Option (Array Tmp × Code × Code) :=
 Code.rec (motive := fun _ => Option (Array Tmp × Code × Code)) none (fun _ _ _ => none) (fun _ _ iha ihb => Option.rec ihb some iha) (fun _ _ _ iha ihb => Option.rec ihb some iha) (fun _ _ ih => ih) (fun _ ih => ih) (fun _ ps assign body _ _ => some (ps, assign, body)) (fun _ => none) (fun _ ih => ih) (fun _ => none)
  (fun _ => none) none (fun _ => none) c
noncomputable def lpB (fn : Func) (st : LoopState) (S : List (Nat × AV)) (d : Nat) : Blk := .loop ⟨st, none, fn.ntmps, ofL S, ((rgn (fn.body.getD .skip)).getD (#[], .skip, .skip)).1, ((rgn (fn.body.getD .skip)).getD (#[], .skip, .skip)).2.1, ((rgn (fn.body.getD .skip)).getD (#[], .skip, .skip)).2.2, d⟩
def UnderS (n : Nat) : List (Nat × AV) → Prop
 | [] => True
 | p :: l => p.2.under n ∧ UnderS n l
theorem UnderS.mem {n : Nat} : ∀ {l : List (Nat × AV)}, UnderS n l → ∀ p ∈ l, p.2.under n
 | [], _, _, h => by cases h
 | q :: l, hs, p, h => by
  rcases List.mem_cons.1 h with rfl | h
  ·exact hs.1
  ·exact UnderS.mem hs.2 p h
theorem under_lpB {fn : Func} {st : LoopState} {n d : Nat} {S : List (Nat × AV)} (h : UnderS n S) (hd : d < n) : (lpB fn st S d).under n := ⟨fun _ _ hg => h.mem _ (get_ofL hg), hd⟩
end Go.Vm

namespace Go.Vm
open Go.Proofs Go.RowKit
inductive Lent (id gen : Nat) (cells : List AV) : List AV → List AV → Prop
 | nil : Lent id gen cells [] []
 | same {a : AV} {l l' : List AV} (t : Lent id gen cells l l') : Lent id gen cells (a :: l) (a :: l')
 | this {len : Nat} {l l' : List AV} (h : len = cells.length) (t : Lent id gen cells l l') : Lent id gen cells (.msl id gen len 1 :: l) (.sl len cells .unk :: l')
end Go.Vm

namespace Go.Vm
open Go.Proofs Go.RowKit
theorem ACall.backP {P : Program} {f : FuncId} {args : List AV} {H' : List Blk} {v : AV} (h : ACall P f args [] (.pan v) H') (ha : AV.unders 0 args) (hv : v.flat = true) (H : List Blk) : ACall P f args H (.pan v) H := by
 have h1 : ACall P f args [] (.pan v) [] := by
  intro O ι w cs hR hargs
  refine (h O ι w cs hR hargs).mono ?_
  rintro e w' ⟨ι', hend, hR', hev, hnon⟩
  cases e with
  | returned c => exact hend.elim
  | outgrown => exact hend.elim
  | panicked chain =>
   obtain ⟨c, hc, hr⟩ := hend
   have hev2 := hev.cut
   have hnon2 := hnon.cut
   exact ⟨cutι ι' 0, ⟨c, hc, VRel.flat v c hv hr⟩, ⟨fun id b wm e => by simp [cutι] at e, fun i j b wm wm' ei _ => by simp [cutι] at ei, fun b x e => ⟨(hR'.out b x e).1, fun i wm h => by simp [cutι] at h⟩, hR'.tab⟩, hev2, hnon2⟩
 exact ACall.frame_nil (r := .pan v) h1 ha (AV.flat_under 0 v hv) H
theorem fn_ruleP {P : Program} {m : Bool} {f : FuncId} {fn : Func} {c : Code} {args : List AV} {R R' : AV → Prop} (hm : P.follows .mixedOrders = true) (hf : P.funcs[f]? = some fn) (hb : fn.body = some c) (hn : args.length ≤ fn.ntmps)
  (ha : AV.unders 0 args) (hR : ∀ v, R v → v.under 0) (hR' : ∀ v, R' v → v.flat = true)
  (h : gCode P m fn.ntmps none c (initVars 0 args) .nil 0 [] noLo fun x e _ => ((x = .ret ∨ x = .normal) ∧ ∃ v, R v ∧ FinG P fn.results.toList e v) ∨ ∃ v, x = .pan v ∧ e.defs = [] ∧ R' v) :
  (∃ v, R v ∧ ∀ H, ACall P f args H (.ret v) H) ∨ ∃ v, R' v ∧ ∀ H, ACall P f args H (.pan v) H := by
 obtain ⟨x, e, lo, H', hH', hk', hrun, hx⟩ := gCode_spec hm c _ _ _ _ _ _ h [] [] HT.nil (Keep.refl _ _)
 rcases hx with ⟨hx, v, hv, vs, hres, hd, hfr⟩ | ⟨v, rfl, hd, hv⟩
 ·refine .inl ⟨v, hv, fun H => ?_⟩
  have hcr : ACall P f args [] (.ret (resV vs)) H' := by
   rw [hd] at hrun
   exact ACall.intro_marks hf hb hn hrun hx List.nodup_nil (resT_sound hH' hres)
  have hu := hR v hv
  subst hfr
  exact hcr.freeze0 hH'.blk ha hu H
 ·exact .inr ⟨v, hv, fun H => (ACall.intro_pan hf hb hn hrun hd).backP ha (hR' v hv) H⟩
theorem CallG.pan {P : Program} {f : FuncId} {args : List AV} {t : Trie Blk} {n : Nat} {K Kp : AV → Trie Blk → Nat → Nat → Prop} (v : AV) (h : ∀ H, ACall P f args H (.pan v) H) (k : Kp v t n noLo) : CallG P f args t n K Kp :=
 ⟨fun H hH => .inr ⟨v, t, n, noLo, H, hH, h H, Keep.refl _ _, k⟩⟩
end Go.Vm

namespace Go.Vm
open Go.Proofs
def decS (n : Nat) : ByteArray := if n < 10 then ⟨#[UInt8.ofNat (48 + n)]⟩ else ⟨#[UInt8.ofNat (48 + n / 10), UInt8.ofNat (48 + n % 10)]⟩
def sA (s : ByteArray) : AV := .lit (.string s)
end Go.Vm

namespace Go.Vm
open Go.Proofs
theorem indexOp_sl {P : Program} {t elem n len : Nat} {cells : List AV} {tl : Tail} {k : IntKind} {i : Int} (hu : P.underlying t = some (.slice elem)) (hs : tsz P elem = some n) (h : 0 ≤ i ∧ i < len ∧ i.toNat * n + n ≤ cells.length ∧ 0 < n) :
  indexOp P t (.sl len cells tl) (.lit (.int k i)) = some (.eptr ((cells.drop (i.toNat * n)).take n)) := by
 simp only [indexOp, hu, hs]
 rw [if_pos h]
abbrev Move := Int × Int
abbrev Vers := List (List Move)
theorem map_at {α : Type} {f : α → AV} {l : List α} {j : Nat} {x : α} (h : l[j]? = some x) : ((l.map f).drop (j * 1)).take 1 = [f x] := by
 have hlt := (List.getElem?_eq_some_iff.1 h).1
 rw [Nat.mul_one, List.drop_eq_getElem_cons (by simpa using hlt)]
 simp [(List.getElem?_eq_some_iff.1 h).2]
theorem unders_map {α : Type} {f : α → AV} {n : Nat} (h : ∀ x, (f x).under n) (l : List α) : AV.unders n (l.map f) := by
 rw [AV.unders_mem]
 intro a ha
 obtain ⟨x, _, rfl⟩ := List.mem_map.1 ha
 exact h x
end Go.Vm

namespace Go.Vm
open Go.Proofs
theorem freezes_map {α : Type} {g : Nat → Option Blk} {f : α → AV} (h : ∀ x, AV.freeze g (f x) = f x) : ∀ l : List α, AV.freezes g (l.map f) = l.map f
 | [] => rfl
 | x :: l => by
  show AV.freeze g (f x) :: AV.freezes g (l.map f) = _
  rw [h x, freezes_map h l]; rfl
end Go.Vm

namespace Go.Vm
open Go.Proofs
def mv (v : Vers) (s c : Nat) : Move := (v.getD s []).getD c (0, 0)
def after (v : Vers) (s : Nat) : List Int → Nat
 | [] => s
 | c :: l => after v (mv v s c.toNat).1.toNat l
def plays (v : Vers) (s : Nat) : List Int → List Int
 | [] => []
 | c :: l => (mv v s c.toNat).2 :: plays v (mv v s c.toNat).1.toNat l
def eInts (l : List Int) : AV := .sl l.length (l.map n') .unk
structure Book where
 cues : Int
 tunes : Int
 vs : List Vers
abbrev Evening := List Int × List Int
theorem under_ints (n : Nat) (l : List Int) : AV.unders n (l.map n') := unders_map (fun _ => by simp only [n', AV.under]) l
theorem under_eInts (n : Nat) (l : List Int) : (eInts l).under n := by
 unfold eInts
 simp only [AV.under]
 exact ⟨under_ints n l, trivial⟩
theorem freeze_eInts (g : Nat → Option Blk) (l : List Int) : AV.freeze g (eInts l) = eInts l := by
 show AV.sl l.length (AV.freezes g (l.map n')) .unk = _
 rw [freezes_map (fun _ => rfl)]; rfl
end Go.Vm

namespace Go.Vm
def Lx : List Nat → List Nat → Prop
 | a :: l, b :: m => a < b ∨ a = b ∧ Lx l m
 | _, _ => False
def LL (a b : List Nat) : Prop := a.length < b.length ∨ a.length = b.length ∧ Lx a b
def LE (a b : List Nat) : Prop := LL a b ∨ a = b
section
variable {K : Type} (next : K → Nat → K) (done : K → Prop) (start : K) (c : Nat)
def runB (l : List Nat) : K := l.foldl next start
theorem runB_snoc (l : List Nat) (d : Nat) : runB next start (l ++ [d]) = next (runB next start l) d := by
 unfold runB
 rw [List.foldl_append]; rfl
def OkL (l : List Nat) : Prop := ∀ x ∈ l, x < c
def Least (x : K) (l : List Nat) : Prop := runB next start l = x ∧ OkL c l ∧ ∀ u, OkL c u → runB next start u = x → LE l u
structure InvO (q : List (K × List Nat)) (met : List K) (proc : K → Prop) : Prop where
 s : start ∈ met
 split : ∀ y ∈ met, proc y ∨ ∃ m, (y, m) ∈ q
 nd : ∀ y, proc y → ¬ done y
 cl : ∀ y, proc y → ∀ d, d < c → next y d ∈ met
 least : ∀ p ∈ q, Least next start c p.1 p.2
 sorted : q.Pairwise fun a b => LL a.2 b.2
 par : ∀ p ∈ q, p.2 = [] ∨ ∃ m0 c0, p.2 = m0 ++ [c0] ∧ ∀ h ∈ q.head?, LL m0 h.2
structure InvI (x : K) (l : List Nat) (r : Nat) (q : List (K × List Nat)) (met : List K) (proc : K → Prop) : Prop where
 s : start ∈ met
 split : ∀ y ∈ met, (proc y ∨ y = x) ∨ ∃ m, (y, m) ∈ q
 nd : ∀ y, proc y → ¬ done y
 ndx : ¬ done x
 cl : ∀ y, proc y → ∀ d, d < c → next y d ∈ met
 clx : ∀ d, d < r → next x d ∈ met
 leastx : Least next start c x l
 least : ∀ p ∈ q, Least next start c p.1 p.2
 sorted : q.Pairwise fun a b => LL a.2 b.2
 above : ∀ p ∈ q, LL l p.2
 par : ∀ p ∈ q, p.2 = [] ∨ ∃ m0 c0, p.2 = m0 ++ [c0] ∧ (LL m0 l ∨ m0 = l ∧ c0 < r)
variable {next done start c}
theorem leaves {met : List K} : ∀ (t u : List Nat), runB next start u ∈ met → runB next start (u ++ t) ∉ met → ∃ w d t', u ++ t = w ++ d :: t' ∧ runB next start w ∈ met ∧ next (runB next start w) d ∉ met
 | [], u, h, h' => absurd h (by rwa [List.append_nil] at h')
 | d :: t, u, h, h' => by
  by_cases hm : next (runB next start u) d ∈ met
  ·have e : u ++ d :: t = (u ++ [d]) ++ t := by simp
   rw [e] at h' ⊢
   exact leaves t (u ++ [d]) (by rw [runB_snoc]; exact hm) h'
  ·exact ⟨u, d, t, rfl, h, hm⟩
structure Found (next : K → Nat → K) (done : K → Prop) (start : K) (c : Nat) (o : Option (List Nat)) : Prop where
 yes : ∀ l, o = some l → OkL c l ∧ done (runB next start l) ∧ ∀ u, OkL c u → done (runB next start u) → LE l u
 no : o = none → ∀ u, OkL c u → ¬ done (runB next start u)
end
end Go.Vm

namespace Go.Vm
open Go.Proofs
theorem RoundG.fresh {P : Program} {id : Nat} {args : List AV} {t : Trie Blk} {n n0 : Nat} {K : AV → Trie Blk → Nat → Nat → Prop} (T : List (Nat × Blk)) (hn : n = n0) (hT : Blks (get t) noLo T)
  (h : RoundG P id args (ofL T) n0 K) : RoundG P id args t n K := by
 subst hn
 obtain ⟨h⟩ := h
 exact ⟨fun H hH => h H (hH.subN hT)⟩
end Go.Vm

namespace Go.Vm
open Go.Proofs
def nb (b : Bool) : AV := .lit (.bool b)
end Go.Vm

namespace Go.Vm
open Go.Proofs
section
variable (al : Nat → Nat → Bool)
def plcB : List Nat → Nat → Option Nat
 | [], _ => none
 | x :: l, n => if al x n = true then some 0 else (plcB l n).map (· + 1)
def insB (S : List Nat) (n : Nat) : List Nat := if (plcB al S n).isSome then S else S ++ [n]
variable (v : Vers) (K : Nat)
def nxS (a c : Nat) : Nat := (mv v a c).1.toNat
def rowF (S : List Nat) (i : Nat) : Nat → List Nat
 | 0 => S
 | c + 1 => insB al (rowF S i c) (nxS v (S.getD i 0) c)
def stF : Nat → List Nat
 | 0 => [0]
 | i + 1 => rowF al v (stF i) i K
structure Exit (N : Nat) : Prop where
 on : ∀ i, i < N → i < (stF al v K i).length
 off : (stF al v K N).length ≤ N
end
section
variable {al : Nat → Nat → Bool}
variable {v : Vers} {K : Nat}
variable (hnx : ∀ x, x < v.length → ∀ c, c < K → nxS v x c < v.length)
include hnx
omit hnx
end
end Go.Vm

namespace Go.Vm
open Go.Proofs
noncomputable def seqL (c : Code) : Code := match c with | .seq a _ => a | c => c
noncomputable def seqR (c : Code) : Code := match c with | .seq _ b => b | c => c
noncomputable def bodyOf (fn : Func) : Code := (fn.body).getD .skip
noncomputable def defd (fn gn : Func) (f g : FuncId) (d1 : Tmp) (caps : List Operand) (r : Tmp) (ex : Option (Tmp × TypeId × String × Array Edge)) : Defd :=
 ⟨fn, gn, f, g, seqL (bodyOf fn), seqR (seqR (bodyOf fn)), seqR (bodyOf gn), d1, caps, r, ex⟩
noncomputable def exOf (fn : Func) : Option (Tmp × TypeId × String × Array Edge) := match seqL (bodyOf fn) with
 | .region _ ops _ => match ops[1]? with
  | some o => match o.dst with
   | some x => some (x, o.type, o.pos, o.after)
   | none => none
  | none => none
 | _ => none
noncomputable def dGoes : Defd := defd Tryz.f25 Tryz.f68 25 68 3 [.tmp 2] 4 (exOf Tryz.f68)
noncomputable def dChest : Defd := defd Tryz.f135 Tryz.f212 135 212 4 [.tmp 2, .tmp 3] 6 none
noncomputable def dCue : Defd := defd Tryz.f180 Tryz.f243 180 243 3 [.tmp 2] 5 none
noncomputable def dStem : Defd := defd Tryz.f195 Tryz.f246 195 246 4 [.tmp 2, .tmp 3] 6 none
noncomputable def dNight : Defd := defd Tryz.f216 Tryz.f259 216 259 4 [.tmp 2, .tmp 3] 6 none
theorem dGoes_ok : dGoes.Ok Tryz.prog := ⟨by kernel_rfl, by kernel_rfl, by kernel_rfl, ⟨_, _, _, _, _, _, _, rfl⟩, ⟨_, _, _, _, _, rfl⟩, by kernel_rfl, of_decide_eq_true (by kernel_rfl), (fun x h => by cases h; exact of_decide_eq_true (by kernel_rfl)), of_decide_eq_true (by kernel_rfl)⟩
theorem dChest_ok : dChest.Ok Tryz.prog := ⟨by kernel_rfl, by kernel_rfl, by kernel_rfl, ⟨_, _, _, _, _, _, _, rfl⟩, ⟨_, _, _, _, _, rfl⟩, by kernel_rfl, of_decide_eq_true (by kernel_rfl), (fun x h => nomatch h), of_decide_eq_true (by kernel_rfl)⟩
theorem dCue_ok : dCue.Ok Tryz.prog := ⟨by kernel_rfl, by kernel_rfl, by kernel_rfl, ⟨_, _, _, _, _, _, _, rfl⟩, ⟨_, _, _, _, _, rfl⟩, by kernel_rfl, of_decide_eq_true (by kernel_rfl), (fun x h => nomatch h), of_decide_eq_true (by kernel_rfl)⟩
theorem dStem_ok : dStem.Ok Tryz.prog := ⟨by kernel_rfl, by kernel_rfl, by kernel_rfl, ⟨_, _, _, _, _, _, _, rfl⟩, ⟨_, _, _, _, _, rfl⟩, by kernel_rfl, of_decide_eq_true (by kernel_rfl), (fun x h => nomatch h), of_decide_eq_true (by kernel_rfl)⟩
theorem dNight_ok : dNight.Ok Tryz.prog := ⟨by kernel_rfl, by kernel_rfl, by kernel_rfl, ⟨_, _, _, _, _, _, _, rfl⟩, ⟨_, _, _, _, _, rfl⟩, by kernel_rfl, of_decide_eq_true (by kernel_rfl), (fun x h => nomatch h), of_decide_eq_true (by kernel_rfl)⟩
end Go.Vm

namespace Go.Vm
variable {P : Program}
noncomputable section
def gS (P : Program) (k : Nat) (c : Code) : Trie AV → Trie Blk → Nat → Nat → CodeQ → Prop :=
 Code.rec (motive := fun _ => Trie AV → Trie Blk → Nat → Nat → CodeQ → Prop)
  (fun vars t n lo Q => Q .normal ⟨vars, t, n, []⟩ lo)
  (fun _ ops draw vars t n lo Q => match draw with
   | true => False
   | false => gOps P false k ops (fun v vars' t' n' lo' => Q (.pan v) ⟨vars', t', n', []⟩ lo') ops.toList vars t n lo fun vars' t' n' lo' => Q .normal ⟨vars', t', n', []⟩ lo')
  (fun _ _ iha ihb vars t n lo Q => iha vars t n lo fun x e lo' => ES.rec (motive := fun _ => Prop) (fun vars1 t1 n1 d1 => match x with
   | .normal => ihb vars1 t1 n1 lo' Q
   | x => Q x ⟨vars1, t1, n1, d1⟩ lo') e)
  (fun c _ _ iha ihb vars t n lo Q => match evalT vars c with
   | some (.lit (.bool b)) => IfB b (iha vars t n lo Q) (ihb vars t n lo Q)
   | _ => False)
  (fun i _ ih vars t n lo Q => ih vars t n lo fun x e lo' => match x with
   | .exit j => bif Nat.beq i j then Q .normal e lo' else Q (.exit j) e lo'
   | x => Q x e lo')
  (fun _ _ _ _ _ _ _ => False)
  (fun _ _ _ _ _ _ _ _ _ _ _ => False)
  (fun i vars t n lo Q => Q (.exit i) ⟨vars, t, n, []⟩ lo)
  (fun _ _ _ _ _ _ _ => False)
  (fun _ _ _ _ _ _ => False)
  (fun _ _ _ _ _ _ => False)
  (fun vars t n lo Q => Q .ret ⟨vars, t, n, []⟩ lo)
  (fun _ _ _ _ _ _ => False)
  c
def WS (P : Program) (c : Code) (k : Nat) (vars : Trie AV) (t : Trie Blk) (n lo : Nat) (Q : CodeQ) : Prop :=
 ∀ H H0, HT t n H → Keep H0 H lo → ∃ x e lo' H', HT e.t e.n H' ∧ Keep H0 H' lo' ∧ e.defs = [] ∧ Run0 P c ⟨k, vars, H, []⟩ x ⟨k, e.vars, H', []⟩ ∧ Q x e lo'
theorem gS_spec {k : Nat} : ∀ (c : Code) vars t n lo (Q : CodeQ), gS P k c vars t n lo Q → WS P c k vars t n lo Q := by
 intro c
 induction c with
 | skip => intro vars t n lo Q h H H0 hH hk; exact ⟨.normal, ⟨vars, t, n, []⟩, lo, H, hH, hk, rfl, .skip, h⟩
 | region id ops draw =>
  intro vars t n lo Q h H H0 hH hk
  cases draw with
  | true => exact h.elim
  | false =>
   rcases gOps_spec (d := []) (ops := ops) ops.toList 0 (fun j => by simp) vars t n lo H hH hk h with ⟨vars', t', n', lo', H', a, b, c, q⟩ | ⟨v, vars', t', n', lo', H', a, b, c, q⟩
   ·exact ⟨.normal, ⟨vars', t', n', []⟩, lo', H', a, b, rfl, Run0.region (by simpa [List.range_eq_range'] using c), q⟩
   ·exact ⟨.pan v, ⟨vars', t', n', []⟩, lo', H', a, b, rfl, Run0.region_pan (by simpa [List.range_eq_range'] using c), q⟩
 | seq a b iha ihb =>
  intro vars t n lo Q h H H0 hH hk
  obtain ⟨x, ⟨vars1, t1, n1, d1⟩, lo1, H1, hH1, hk1, hd1, r1, q⟩ := iha vars t n lo _ h H H0 hH hk
  cases x with
  | normal =>
   obtain ⟨x, e2, lo2, H2, hH2, hk2, hd2, r2, q2⟩ := ihb vars1 t1 n1 lo1 Q q H1 H0 hH1 hk1
   exact ⟨x, e2, lo2, H2, hH2, hk2, hd2, .seq r1 r2, q2⟩
  | _ => exact ⟨_, ⟨vars1, t1, n1, d1⟩, lo1, H1, hH1, hk1, hd1, .seq_out r1 rfl, q⟩
 | cond c a b iha ihb =>
  intro vars t n lo Q h H H0 hH hk
  have h' : (match evalT vars c with | some (.lit (.bool b')) => IfB b' (gS P k a vars t n lo Q) (gS P k b vars t n lo Q) | _ => False) := h
  clear h
  split at h'
  ·rename_i b' he
   rw [evalT_eq k vars H []] at he
   obtain ⟨h1, h2⟩ := h'
   cases b' with
   | true =>
    obtain ⟨x, e, lo1, H1, hH1, hk1, hd1, r1, q⟩ := iha vars t n lo Q (h1 rfl) H H0 hH hk
    exact ⟨x, e, lo1, H1, hH1, hk1, hd1, .cond he r1, q⟩
   | false =>
    obtain ⟨x, e, lo1, H1, hH1, hk1, hd1, r1, q⟩ := ihb vars t n lo Q (h2 rfl) H H0 hH hk
    exact ⟨x, e, lo1, H1, hH1, hk1, hd1, .cond he r1, q⟩
  ·exact h'.elim
 | block i c ih =>
  intro vars t n lo Q h H H0 hH hk
  obtain ⟨x, e, lo1, H1, hH1, hk1, hd1, r1, q⟩ := ih vars t n lo _ h H H0 hH hk
  cases x with
  | normal => exact ⟨.normal, e, lo1, H1, hH1, hk1, hd1, .block r1 (.inl rfl), q⟩
  | exit j =>
   simp only at q
   cases hb : Nat.beq i j with
   | true =>
    rw [hb, cond_true] at q
    have := Nat.eq_of_beq_eq_true hb
    subst this
    exact ⟨.normal, e, lo1, H1, hH1, hk1, hd1, .block r1 (.inr rfl), q⟩
   | false =>
    rw [hb, cond_false] at q
    refine ⟨.exit j, e, lo1, H1, hH1, hk1, hd1, .block_out r1 ?_, q⟩
    have : j ≠ i := by rintro rfl; rw [Nat.beq_refl] at hb; cases hb
    simp [AExit.passes, this]
  | ret => exact ⟨.ret, e, lo1, H1, hH1, hk1, hd1, .block_out r1 rfl, q⟩
  | pan v => exact ⟨.pan v, e, lo1, H1, hH1, hk1, hd1, .block_out r1 rfl, q⟩
 | loop c ih => intro vars t n lo Q h; exact h.elim
 | rangeFunc g ps assign body _ _ => intro vars t n lo Q h; exact h.elim
 | exit i => intro vars t n lo Q h H H0 hH hk; exact ⟨.exit i, ⟨vars, t, n, []⟩, lo, H, hH, hk, rfl, .exit, h⟩
 | scope c ih => intro vars t n lo Q h; exact h.elim
 | label l => intro vars t n lo Q h; exact h.elim
 | goto l => intro vars t n lo Q h; exact h.elim
 | ret => intro vars t n lo Q h H H0 hH hk; exact ⟨.ret, ⟨vars, t, n, []⟩, lo, H, hH, hk, rfl, .ret, h⟩
 | refuse w => intro vars t n lo Q h; exact h.elim
end
def FindG (x : AExit) (Q : AV → Prop) : Prop := match x with
 | .ret => Q (.lit .nilIface)
 | .normal => Q (.lit .nilIface)
 | .pan v => Q v
 | _ => False
def EndG (y : AExit) (Q : Prop) : Prop := match y with
 | .ret => Q
 | .normal => Q
 | _ => False
theorem CallG.deferred {X : Defd} (hX : X.Ok P) {f : FuncId} (hXf : X.f = f) {args : List AV} {t : Trie Blk} {n : Nat} {K Kp : AV → Trie Blk → Nat → Nat → Prop} (hn : args.length ≤ X.fn.ntmps)
    (h : gS P X.fn.ntmps X.A (initVars 0 args) t n noLo fun x e lo => x = .normal ∧ ∃ capA, aevs (evalT e.vars) X.caps = some capA ∧ capA.length ≤ X.gn.ntmps ∧
      gS P X.fn.ntmps X.C (set e.vars X.d1 (.fn (.func X.g) [] capA)) e.t e.n lo fun x e2 lo2 => FindG x fun av =>
        gS P X.gn.ntmps X.D (recVars capA X.r av X.ex) e2.t e2.n lo2 fun y e3 lo3 => EndG y (∃ vs, resT P (get e3.t) e2.vars X.fn.results.toList = some vs ∧ K (resV vs) e3.t e3.n lo3)) : CallG P f args t n K Kp := by
  subst hXf
  refine .ret fun H hH => ?_
  obtain ⟨x, e, lo, H1, hH1, hk1, hd1, rA, rfl, capA, hcaps, hcn, hC⟩ := gS_spec _ _ _ _ _ _ h H H hH (Keep.refl _ _)
  obtain ⟨x, e2, lo2, H2, hH2, hk2, hd2, rC, hF⟩ := gS_spec _ _ _ _ _ _ hC H1 H hH1 hk1
  have key : ∀ av, (((x = .ret ∨ x = .normal) ∧ av = .lit .nilIface) ∨ x = .pan av) → (gS P X.gn.ntmps X.D (recVars capA X.r av X.ex) e2.t e2.n lo2 fun y e3 lo3 => EndG y (∃ vs, resT P (get e3.t) e2.vars X.fn.results.toList = some vs ∧ K (resV vs) e3.t e3.n lo3)) →
      ∃ v t' n' l H', HT t' n' H' ∧ ACall P X.f args H (.ret v) H' ∧ Keep H H' l ∧ K v t' n' l := by
    intro av hx hD
    obtain ⟨y, e3, lo3, H3, hH3, hk3, hd3, rD, hE⟩ := gS_spec _ _ _ _ _ _ hD H2 H hH2 hk2
    obtain ⟨i1, ty1, p1, f1, ty2, p2, f2, hb⟩ := hX.hb
    obtain ⟨i0, ty, pos, ats, aft, hgb⟩ := hX.hgb
    have fin : ∀ vs, (y = .ret ∨ y = .normal) → resT P (get e3.t) e2.vars X.fn.results.toList = some vs → K (resV vs) e3.t e3.n lo3 → ∃ v t' n' l H', HT t' n' H' ∧ ACall P X.f args H (.ret v) H' ∧ Keep H H' l ∧ K v t' n' l := by
      intro vs hy hres hK
      refine ⟨resV vs, e3.t, e3.n, lo3, H3, hH3, ?_, hk3, hK⟩
      exact ACall.deferred hX.hf hn hX.hg hX.hcal hb hgb hX.hgr hX.hr hX.hxx hcn hX.hd1 rA rfl (by rw [← evalT_eq]; simpa using hcaps) rC hx rD hy (resT_sound hH3 hres)
    cases y with
    | normal => obtain ⟨vs, hres, hK⟩ := hE; exact fin vs (.inr rfl) hres hK
    | ret => obtain ⟨vs, hres, hK⟩ := hE; exact fin vs (.inl rfl) hres hK
    | _ => exact hE.elim
  cases x with
  | normal => exact key _ (.inl ⟨.inr rfl, rfl⟩) hF
  | ret => exact key _ (.inl ⟨.inl rfl, rfl⟩) hF
  | pan v => exact key _ (.inr rfl) hF
  | _ => exact hF.elim
end Go.Vm

namespace Go.Vm
open Go.Proofs
inductive Dir where | l | r | d
def codeAt : List Dir → Code → Option Code
 | [], c => some c
 | .l :: p, .seq a _ => codeAt p a
 | .r :: p, .seq _ b => codeAt p b
 | .l :: p, .cond _ a _ => codeAt p a
 | .r :: p, .cond _ _ b => codeAt p b
 | .d :: p, .loop c => codeAt p c
 | .d :: p, .block _ c => codeAt p c
 | _, _ => none
abbrev CodeT := Trie AV → Trie Blk → Nat → List Nat → Nat → ER
noncomputable section
variable (P : Program) (m : Bool) (call : CallT) (round : RoundT) (k : Nat) (T : CodeT)
def evAt (ro : Option Nat) : List Dir → Code → CodeT
 | [], _ => T
 | .l :: p, .seq a b => fun vars t n d lo => match evAt ro p a vars t n d lo with
  | .ok .normal e lo' => evCode P m call round k ro b e.vars e.t e.n e.defs lo'
  | r => r
 | .r :: p, .seq a b => fun vars t n d lo => match evCode P m call round k ro a vars t n d lo with
  | .ok .normal e lo' => evAt ro p b e.vars e.t e.n e.defs lo'
  | r => r
 | .l :: p, .cond c a b => fun vars t n d lo => match evalT vars c with
  | some (.lit (.bool true)) => evAt ro p a vars t n d lo
  | some (.lit (.bool false)) => evCode P m call round k ro b vars t n d lo
  | _ => .fail "code"
 | .r :: p, .cond c a b => fun vars t n d lo => match evalT vars c with
  | some (.lit (.bool true)) => evCode P m call round k ro a vars t n d lo
  | some (.lit (.bool false)) => evAt ro p b vars t n d lo
  | _ => .fail "code"
 | .d :: p, .block i c => fun vars t n d lo => match evAt ro p c vars t n d lo with
  | .ok (.exit j) e lo' => bif Nat.beq i j then .ok .normal e lo' else .ok (.exit j) e lo'
  | r => r
 | .d :: p, .loop c => fun vars t n d lo => evLoop (evAt ro p c) 100000 vars t n d lo
 | _, _ => fun _ _ _ _ _ => .fail "code"
def evBodyAt (p : List Dir) (muts : FuncId → Bool) (f : FuncId) (args : List AV) (t : Trie Blk) (n : Nat) : CR :=
  match P.funcs[f]? with
  | none => .fail "code"
  | some fn => match fn.body with
    | none => .fail "code"
    | some c => bif Nat.beq fn.ntmps k && Nat.ble args.length fn.ntmps then
        match evAt P (muts f) call round fn.ntmps T none p c (initVars 0 args) t n [] noLo with
        | .fail w => .fail w
        | .ok (.pan v) e lo => match e.defs with
          | [] => .pan v e.t e.n lo
          | _ => .fail "code"
        | .ok (.exit _) _ _ => .fail "code"
        | .ok .normal e lo => evFin P fn.results.toList t n e lo
        | .ok .ret e lo => evFin P fn.results.toList t n e lo
      else .fail "code"
end
section
variable {P : Program} {m : Bool} {call : CallT} {round : RoundT} {k : Nat} {T : CodeT}
variable (hm : P.follows .mixedOrders = true) (hc : SoundC P call) (hr : SoundR P round)
include hm hc hr in
theorem evAt_sound {ro : Option Nat} {c0 : Code} (hT : ∀ vars t n d lo H H0, HT t n H → Keep H0 H lo → ER.holds k H0 (fun x σ' => Run P ro c0 ⟨k, vars, H, d⟩ x σ') (T vars t n d lo)) :
  ∀ (p : List Dir) (c : Code), codeAt p c = some c0 → ∀ vars t n d lo H H0, HT t n H → Keep H0 H lo →
  ER.holds k H0 (fun x σ' => Run P ro c ⟨k, vars, H, d⟩ x σ') (evAt P m call round k T ro p c vars t n d lo)
 | [], c, hp, vars, t, n, d, lo, H, H0, hH, hk => by
  simp only [codeAt, Option.some.injEq] at hp
  subst hp
  exact hT vars t n d lo H H0 hH hk
 | .l :: p, .seq a b, hp, vars, t, n, d, lo, H, H0, hH, hk => by
  have h1 := evAt_sound hT p a hp vars t n d lo H H0 hH hk
  show ER.holds k H0 _ (match evAt P m call round k T ro p a vars t n d lo with | .ok .normal e lo' => evCode P m call round k ro b e.vars e.t e.n e.defs lo' | r => r)
  generalize evAt P m call round k T ro p a vars t n d lo = r at h1 ⊢
  cases r with
  | fail w => trivial
  | ok x e lo' =>
   obtain ⟨H1, hH1, hk1, q⟩ := h1
   cases x with
   | normal => exact ER.holds_mono (evCode_sound hm hc hr b e.vars e.t e.n e.defs lo' H1 H0 hH1 hk1) fun x σ h => .seq q h
   | _ => exact ⟨H1, hH1, hk1, .seq_out q rfl⟩
 | .r :: p, .seq a b, hp, vars, t, n, d, lo, H, H0, hH, hk => by
  have h1 := evCode_sound (ro := ro) (m := m) (k := k) hm hc hr a vars t n d lo H H0 hH hk
  show ER.holds k H0 _ (match evCode P m call round k ro a vars t n d lo with | .ok .normal e lo' => evAt P m call round k T ro p b e.vars e.t e.n e.defs lo' | r => r)
  generalize evCode P m call round k ro a vars t n d lo = r at h1 ⊢
  cases r with
  | fail w => trivial
  | ok x e lo' =>
   obtain ⟨H1, hH1, hk1, q⟩ := h1
   cases x with
   | normal => exact ER.holds_mono (evAt_sound hT p b hp e.vars e.t e.n e.defs lo' H1 H0 hH1 hk1) fun x σ h => .seq q h
   | _ => exact ⟨H1, hH1, hk1, .seq_out q rfl⟩
 | .l :: p, .cond c a b, hp, vars, t, n, d, lo, H, H0, hH, hk => by
  show ER.holds k H0 _ (match evalT vars c with | some (.lit (.bool true)) => evAt P m call round k T ro p a vars t n d lo | some (.lit (.bool false)) => evCode P m call round k ro b vars t n d lo | _ => .fail "code")
  split
  ·rename_i he
   rw [evalT_eq k vars H d] at he
   exact ER.holds_mono (evAt_sound hT p a hp vars t n d lo H H0 hH hk) fun x σ h => .cond he h
  ·rename_i he
   rw [evalT_eq k vars H d] at he
   exact ER.holds_mono (evCode_sound hm hc hr b vars t n d lo H H0 hH hk) fun x σ h => .cond he h
  ·trivial
 | .r :: p, .cond c a b, hp, vars, t, n, d, lo, H, H0, hH, hk => by
  show ER.holds k H0 _ (match evalT vars c with | some (.lit (.bool true)) => evCode P m call round k ro a vars t n d lo | some (.lit (.bool false)) => evAt P m call round k T ro p b vars t n d lo | _ => .fail "code")
  split
  ·rename_i he
   rw [evalT_eq k vars H d] at he
   exact ER.holds_mono (evCode_sound hm hc hr a vars t n d lo H H0 hH hk) fun x σ h => .cond he h
  ·rename_i he
   rw [evalT_eq k vars H d] at he
   exact ER.holds_mono (evAt_sound hT p b hp vars t n d lo H H0 hH hk) fun x σ h => .cond he h
  ·trivial
 | .d :: p, .block i c, hp, vars, t, n, d, lo, H, H0, hH, hk => by
  have h1 := evAt_sound hT p c hp vars t n d lo H H0 hH hk
  show ER.holds k H0 _ (match evAt P m call round k T ro p c vars t n d lo with | .ok (.exit j) e lo' => bif Nat.beq i j then .ok .normal e lo' else .ok (.exit j) e lo' | r => r)
  generalize evAt P m call round k T ro p c vars t n d lo = r at h1 ⊢
  cases r with
  | fail w => trivial
  | ok x e lo' =>
   obtain ⟨H1, hH1, hk1, q⟩ := h1
   cases x with
   | normal => exact ⟨H1, hH1, hk1, .block q (.inl rfl)⟩
   | exit j =>
    simp only
    cases hb : Nat.beq i j with
    | true =>
     have := Nat.eq_of_beq_eq_true hb
     subst this
     exact ⟨H1, hH1, hk1, .block q (.inr rfl)⟩
    | false =>
     refine ⟨H1, hH1, hk1, .block_out q ?_⟩
     have : j ≠ i := by rintro rfl; rw [Nat.beq_refl] at hb; cases hb
     simp [AExit.passes, this]
   | ret => exact ⟨H1, hH1, hk1, .block_out q rfl⟩
   | pan v => exact ⟨H1, hH1, hk1, .block_out q rfl⟩
 | .d :: p, .loop c, hp, vars, t, n, d, lo, H, H0, hH, hk => by
  exact ER.holds_mono (evLoop_sound (evAt_sound hT p c hp) 100000 vars t n d lo H H0 hH hk) fun x σ h => .loop h
include hm hc hr in
theorem evBodyAt_sound {f : FuncId} {fn : Func} {c c0 : Code} {p : List Dir} (muts : FuncId → Bool) (hf : P.funcs[f]? = some fn) (hb : fn.body = some c) (hp : codeAt p c = some c0)
  (hT : ∀ vars t n d lo H H0, HT t n H → Keep H0 H lo → ER.holds k H0 (fun x σ' => Run P none c0 ⟨k, vars, H, d⟩ x σ') (T vars t n d lo)) (args : List AV) (t : Trie Blk) (n : Nat) :
  CRok P f args t n (evBodyAt P call round k T p muts f args t n) := by
 unfold evBodyAt
 simp only [hf, hb]
 cases hlen : Nat.beq fn.ntmps k && Nat.ble args.length fn.ntmps with
 | false => trivial
 | true =>
 simp only [cond_true]
 rw [Bool.and_eq_true] at hlen
 have hn := Nat.le_of_ble_eq_true hlen.2
 have hk := Nat.eq_of_beq_eq_true hlen.1
 subst hk
 have key : ∀ H, HT t n H → ER.holds fn.ntmps H (fun x σ' => Run P none c ⟨fn.ntmps, initVars 0 args, H, []⟩ x σ') (evAt P (muts f) call round fn.ntmps T none p c (initVars 0 args) t n [] noLo) :=
  fun H hH => evAt_sound hm hc hr hT p c hp (initVars 0 args) t n [] noLo H H hH (Keep.refl _ _)
 generalize evAt P (muts f) call round fn.ntmps T none p c (initVars 0 args) t n [] noLo = r at key ⊢
 cases r with
 | fail w => trivial
 | ok x e lo =>
 cases x with
 | pan v =>
  simp only
  cases hd : e.defs with
  | cons a l => trivial
  | nil =>
   intro H hH
   obtain ⟨H', hH', hk, hrun⟩ := key H hH
   rw [hd] at hrun
   exact ⟨H', hH', ACall.intro_pan hf hb hn hrun rfl, hk⟩
 | exit i => trivial
 | normal => exact evFin_sound hf hb hn (.inr rfl) key
 | ret => exact evFin_sound hf hb hn (.inl rfl) key
end
noncomputable def copyT : CodeT := fun vars t n d lo => match get vars 8, get vars 2 with
 | some (.mp id1), some (.ptr gb 0) => match get t gb with
  | some (.box gcells _) => match (gcells.drop 4).head? with
   | some (.mp id2) => match get t id1, get t id2 with
    | some (.map (.arr 5) es), some (.map (.arr 5) m2) => bif Nat.beq id1 id2 then .fail "copy" else lowT lo id2 fun lo' => .ok .normal ⟨dropAll vars copySlots, set t id2 (.map (.arr 5) (copyTo m2 es)), n, d⟩ lo'
    | _, _ => .fail "copy"
   | _ => .fail "copy"
  | _ => .fail "copy"
 | _, _ => .fail "copy"
theorem copyT_sound {o22 o23 o24 o25 : Array Oper} (hO : CopyOps o22 o23 o24 o25) (vars : Trie AV) (t : Trie Blk) (n : Nat) (d : List Nat) (lo : Nat) (H H0 : List Blk) (hH : HT t n H) (hk : Keep H0 H lo) :
  ER.holds 72 H0 (fun x σ' => Run Tryz.prog none (copyCode o22 o23 o24 o25) ⟨72, vars, H, d⟩ x σ') (copyT vars t n d lo) := by
 unfold copyT
 split
 case h_2 => trivial
 rename_i id1 gb h8 h2
 split
 case h_2 => trivial
 rename_i gcells gt hg
 split
 case h_2 => trivial
 rename_i id2 hgc
 split
 case h_2 => trivial
 rename_i es m2 h1 h2'
 cases hne : Nat.beq id1 id2 with
 | true => trivial
 | false =>
 have hne' : id1 ≠ id2 := by rintro rfl; rw [Nat.beq_refl] at hne; cases hne
 simp only [cond_false]
 refine lowT_spec (Q := ER.holds 72 H0 (fun x σ' => Run Tryz.prog none (copyCode o22 o23 o24 o25) ⟨72, vars, H, d⟩ x σ')) fun l hl1 hl2 => ?_
 have hm2 := hH.blk _ _ h2'
 exact ⟨H.set id2 (.map (.arr 5) (copyTo m2 es)), hH.set (hH.lt h2') _, hk.trans (Keep.set hm2 (by simp)) hl1 hl2,
  copy_run hO h8 h2 (hH.blk _ _ hg) hgc (hH.blk _ _ h1) hm2 hne'⟩
def opsAt : List Dir → Code → Array Oper
 | p, c => match codeAt p c with
  | some (.region _ ops _) => ops
  | _ => #[]
def solvePath : List Dir := [.r, .r, .r, .r, .d, .d, .r, .d, .r, .r, .r]
noncomputable def solveBody : Code := (Tryz.f154.body).getD .skip
noncomputable def oA : Array Oper := opsAt (solvePath ++ [.l]) solveBody
noncomputable def oB : Array Oper := opsAt (solvePath ++ [.r, .d, .d, .l]) solveBody
noncomputable def oC : Array Oper := opsAt (solvePath ++ [.r, .d, .d, .r, .r, .d, .l]) solveBody
noncomputable def oD : Array Oper := opsAt (solvePath ++ [.r, .d, .d, .r, .r, .d, .r]) solveBody
theorem solve_func : Tryz.prog.funcs[154]? = some Tryz.f154 := by kernel_rfl
theorem solve_body : Tryz.f154.body = some solveBody := by kernel_rfl
theorem solve_code : codeAt solvePath solveBody = some (copyCode oA oB oC oD) := by kernel_rfl
theorem copyOps : CopyOps oA oB oC oD := {
 s22 := by kernel_rfl
 s23 := by kernel_rfl
 s24 := by kernel_rfl
 s25 := by kernel_rfl
 a0 := opIs_of (by kernel_rfl)
 a1 := opIs_of (by kernel_rfl)
 b0 := opIs_of (by kernel_rfl)
 b1 := opIs_of (by kernel_rfl)
 c0 := opIs_of (by kernel_rfl)
 c1 := opIs_of (by kernel_rfl)
 c2 := opIs_of (by kernel_rfl)
 c3 := opIs_of (by kernel_rfl)
 c4 := opIs_of (by kernel_rfl)
 c5 := opIs_of (by kernel_rfl)
 d0 := opIs_of (by kernel_rfl)
 d1 := opIs_of (by kernel_rfl)
 d2 := opIs_of (by kernel_rfl)
 d3 := opIs_of (by kernel_rfl)
 d4 := opIs_of (by kernel_rfl) }
def noRound : RoundT := fun _ _ _ _ => .fail "round"
theorem noRound_sound {P : Program} : SoundR P noRound := fun _ _ _ _ => trivial
noncomputable def toldSolve : CallT → CallT := fun call f args t n => bif Nat.beq f 154 then evBodyAt Tryz.prog call noRound 72 copyT solvePath (fun _ => false) f args t n else .fail "solve"
theorem copyT_right : ∀ vars t n d lo H H0, HT t n H → Keep H0 H lo → ER.holds 72 H0 (fun x σ' => Run Tryz.prog none (copyCode oA oB oC oD) ⟨72, vars, H, d⟩ x σ') (copyT vars t n d lo) :=
 fun vars t n d lo H H0 hH hk => copyT_sound copyOps vars t n d lo H H0 hH hk
theorem solve_right (hm : Tryz.prog.follows .mixedOrders = true) {f : FuncId} {fn : Func} {c c0 : Code} {p : List Dir} (hf : Tryz.prog.funcs[f]? = some fn) (hb : fn.body = some c) (hp : codeAt p c = some c0)
  (h2 : ∀ vars t n d lo H H0, HT t n H → Keep H0 H lo → ER.holds 72 H0 (fun x σ' => Run Tryz.prog none c0 ⟨72, vars, H, d⟩ x σ') (copyT vars t n d lo)) {call : CallT} (hc : SoundC Tryz.prog call)
  {E : List AV → Trie Blk → Nat → CR} (hE : evBodyAt Tryz.prog call noRound 72 copyT p (fun _ => false) f = E) (args : List AV) (t : Trie Blk) (n : Nat) : CRok Tryz.prog f args t n (E args t n) := by
 have h := @evBodyAt_sound Tryz.prog call noRound 72 copyT hm hc noRound_sound f fn c c0 p (fun _ => false) hf hb hp
 rw [hE] at h
 exact h h2 args t n
theorem solve_at {f : FuncId} (h : f = 154) : Tryz.prog.funcs[f]? = some Tryz.f154 := by
 rw [h]; exact solve_func
theorem toldSolve_right (hm : Tryz.prog.follows .mixedOrders = true) (f : FuncId) {call : CallT} (hc : SoundC Tryz.prog call) (args : List AV) (t : Trie Blk) (n : Nat) : CRok Tryz.prog f args t n (toldSolve call f args t n) := by
 unfold toldSolve
 cases hf : Nat.beq f 154 with
 | false => trivial
 | true =>
 rw [cond_true]
 generalize hE : evBodyAt Tryz.prog call noRound 72 copyT solvePath (fun _ => false) f = E
 have h1 := solve_at (Nat.eq_of_beq_eq_true hf)
 exact @solve_right hm f Tryz.f154 solveBody (copyCode oA oB oC oD) solvePath h1 solve_body solve_code copyT_right call hc E hE args t n
end Go.Vm

namespace Go.Vm
open Go.Proofs
def LSm (t0 t' : Trie Blk) : List Nat → Prop
 | [] => True
 | id :: L => (∃ B, get t0 id = some B ∧ get t' id = some B ∧ B.loose = false) ∧ LSm t0 t' L
inductive LateG (L : List Nat) (t0 t' : Trie Blk) (K : Prop) : Prop
 | mk (h : LSm t0 t' L) (k : K)
theorem memN_mem : ∀ {L : List Nat} {id : Nat}, memN L id = true → id ∈ L
 | [], _, h => by cases h
 | a :: L, id, h => by
  have h' : (bif Nat.beq a id then true else memN L id) = true := h
  cases hb : Nat.beq a id with
  | true => rw [Nat.eq_of_beq_eq_true hb]; exact List.mem_cons_self
  | false => rw [hb, cond_false] at h'; exact List.mem_cons_of_mem _ (memN_mem h')
theorem LSm.mem {t0 t' : Trie Blk} : ∀ {L : List Nat}, LSm t0 t' L → ∀ id ∈ L, ∃ B, get t0 id = some B ∧ get t' id = some B ∧ B.loose = false
 | [], _, _, h => by cases h
 | a :: L, hl, id, h => by
  rcases List.mem_cons.1 h with rfl | h
  ·exact hl.1
  ·exact LSm.mem hl.2 id h
theorem LJ.of_LSm {L : List Nat} {t0 t : Trie Blk} (h : LSm t0 t L) {H : List Blk} (hag : Ag [] t H) : LJ L t0 H := fun id B hB => by
 unfold lateT at hB
 cases hm : memN L id with
 | false => rw [hm] at hB; cases hB
 | true =>
  rw [hm, cond_true] at hB
  obtain ⟨B0, e1, e2, e3⟩ := h.mem id (memN_mem hm)
  rw [e1] at hB
  have e4 : B0 = B := by
   cases B0 <;> first | (cases hB; rfl) | cases e3
  subst e4
  refine hag id _ ?_
  unfold hideT
  show (match get t id with | some (.row _) => none | x => x) = _
  rw [e2]
  cases B0 <;> first | rfl | cases e3
noncomputable section
def gPlainL (P : Program) (m : Bool) (k : Nat) (ops : Array Oper) (L : List Nat) (t0 : Trie Blk) (o : Oper) (tb : Trie Blk) (nb : Nat) (vars : Trie AV) (go : Trie AV → Prop) : Prop := match wantF ops vars o with
 | some true => gAop P m (hideT (some []) tb) nb (evalT vars) o fun r => match r with
  | .val v .same => gAop P m (lateT L t0) nb (evalT vars) o fun r2 => match r2 with
   | .val v2 .same => v2 = v ∧ putT k False o.dst v vars go
   | _ => False
  | _ => False
 | _ => False
def gSegL (P : Program) (m : Bool) (k : Nat) (ops : Array Oper) (mask lm : Nat) (L : List Nat) (t0 : Trie Blk) (l : List Oper) : SegK :=
  List.rec (fun _ _ _ vars t n lo K => K vars t n lo)
    (fun o rest ih i tb nb vars t n lo K =>
      bif Nat.testBit mask i then
        gOp P m k ops o vars t n noLo (fun _ _ _ _ _ => False) fun vars' t' n' l1 => bif noLay P rest then (bif needL lm ops i then LateG L t0 t' (lowT lo l1 fun lo' => ih (Nat.add i 1) t' n' vars' t' n' lo' K) else lowT lo l1 fun lo' => ih (Nat.add i 1) t' n' vars' t' n' lo' K) else False
      else match okind o with
      | .plain => bif Nat.testBit lm i then gPlainL P m k ops L t0 o tb nb vars fun vars' => ih (Nat.add i 1) tb nb vars' t n lo K
          else gPlain P m k ops [] o tb nb vars fun vars' => ih (Nat.add i 1) tb nb vars' t n lo K
      | _ => False) l
section
variable {P : Program} {m : Bool} {k : Nat} {d : List Nat} {ops : Array Oper} {mask lm n0 : Nat} {L : List Nat} {t0 : Trie Blk} {H0 : List Blk}
def SegOkL (P : Program) (k : Nat) (d : List Nat) (ops : Array Oper) (mask lm n0 : Nat) (L : List Nat) (t0 : Trie Blk) (H0 : List Blk) (is : List Nat) (tb : Trie Blk) (vars : Trie AV) (H : List Blk) (K : Trie AV → Trie Blk → Nat → Nat → Prop) : Prop :=
 ∃ vars' t' n' lo' H', HT t' n' H' ∧ Keep H0 H' lo' ∧ K vars' t' n' lo' ∧
  ∃ Hs' : List (List Blk), (∀ H1 ∈ Hs', Ag [] tb H1) ∧ ∀ Hs, (∀ H1 ∈ Hs', H1 ∈ Hs) → (∀ H1 ∈ Hs, Ag [] tb H1) → DPath P ops (alAt P n0 ops) mask ⟨lm, LJ L t0, needL lm ops⟩ Hs is ⟨k, vars, H, d⟩ ⟨k, vars', H', d⟩
theorem gSegL_spec {K : Trie AV → Trie Blk → Nat → Nat → Prop} : ∀ (l : List Oper) (i : Nat), (∀ j, l[j]? = ops[i + j]?) → ∀ tb nb vars t n lo H, Ag [] tb H → HT t n H → Keep H0 H lo → gSegL P m k ops mask lm L t0 l i tb nb vars t n lo K →
    SegOkL P k d ops mask lm n0 L t0 H0 (List.range' i l.length) tb vars H K
  | [], i, _, tb, nb, vars, t, n, lo, H, _, hH, hk, h => ⟨vars, t, n, lo, H, hH, hk, h, [], (fun _ h => by cases h), fun _ _ _ => .nil⟩
  | o :: l, i, hl, tb, nb, vars, t, n, lo, H, hag, hH, hk, h => by
    have ho : ops[i]? = some o := by have := hl 0; simpa using this.symm
    have hl' : ∀ j, l[j]? = ops[i + 1 + j]? := fun j => by have := hl (j + 1); simpa [Nat.add_assoc, Nat.add_comm 1 j] using this
    have h' : (bif Nat.testBit mask i then
        gOp P m k ops o vars t n noLo (fun _ _ _ _ _ => False) fun vars' t' n' l1 => bif noLay P l then (bif needL lm ops i then LateG L t0 t' (lowT lo l1 fun lo' => gSegL P m k ops mask lm L t0 l (i + 1) t' n' vars' t' n' lo' K) else lowT lo l1 fun lo' => gSegL P m k ops mask lm L t0 l (i + 1) t' n' vars' t' n' lo' K) else False
      else match okind o with
      | .plain => bif Nat.testBit lm i then gPlainL P m k ops L t0 o tb nb vars fun vars' => gSegL P m k ops mask lm L t0 l (i + 1) tb nb vars' t n lo K
          else gPlain P m k ops [] o tb nb vars fun vars' => gSegL P m k ops mask lm L t0 l (i + 1) tb nb vars' t n lo K
      | _ => False) := h
    clear h
    have more : ∀ {vars' : Trie AV} (_ : mask.testBit i = false), (∀ Hs, (∀ H2 ∈ Hs, Ag [] tb H2) → DStep P ops (alAt P n0 ops) Hs i ⟨k, vars, H, d⟩ ⟨k, vars', H, d⟩) → (lm.testBit i = true → LateStep P ops (LJ L t0) i ⟨k, vars, H, d⟩ ⟨k, vars', H, d⟩) →
        gSegL P m k ops mask lm L t0 l (i + 1) tb nb vars' t n lo K → SegOkL P k d ops mask lm n0 L t0 H0 (List.range' i (o :: l).length) tb vars H K := fun hm hs hlate hK => by
      obtain ⟨vars2, t2, n2, lo2, H2, a, b, c, Hs', q1, q2⟩ := gSegL_spec l (i + 1) hl' tb nb _ t n lo H hag hH hk hK
      exact ⟨vars2, t2, n2, lo2, H2, a, b, c, Hs', q1, fun Hs h1 h2 => .cons hm (hs Hs h2) hlate (q2 Hs h1 h2)⟩
    cases hm : Nat.testBit mask i with
    | true =>
      rw [hm, cond_true] at h'
      obtain ⟨vars', t', n', l1, H', hH', hk', _, h1, hK⟩ := (gOp_spec (d := d) hH h').resolve_right (fun ⟨_, _, _, _, _, _, _, _, _, e⟩ => e)
      cases hnl : noLay P l with
      | false => rw [hnl] at hK; exact hK.elim
      | true =>
      rw [hnl, cond_true] at hK
      have key : (needL lm ops i = true → LSm t0 t' L) ∧ lowT lo l1 fun lo' => gSegL P m k ops mask lm L t0 l (i + 1) t' n' vars' t' n' lo' K := by
        cases hn : needL lm ops i with
        | true =>
          rw [hn, cond_true] at hK
          obtain ⟨g1, g2⟩ := hK
          exact ⟨fun _ => g1, g2⟩
        | false =>
          rw [hn, cond_false] at hK
          exact ⟨(fun e => by cases e), hK⟩
      obtain ⟨hsm, hK⟩ := key
      obtain ⟨lo', h2, h3, hK⟩ := low_ex hK
      obtain ⟨vars2, t2, n2, lo2, H2, a, b, c, Hs', q1, q2⟩ := gSegL_spec l (i + 1) hl' t' n' vars' t' n' lo' H' (Ag.of hH') hH' (hk.trans hk' h2 h3) hK
      have hall : ∀ H1 ∈ H' :: Hs', Ag [] t' H1 := fun H1 h => by
        rcases List.mem_cons.1 h with rfl | h
        · exact Ag.of hH'
        · exact q1 H1 h
      refine ⟨vars2, t2, n2, lo2, H2, a, b, c, [], (fun _ h => by cases h), fun Hs _ _ => .barrier (Hs' := H' :: Hs') hm (h1.step ho) (fun j hj id hal => ?_) ⟨H', by simp, HLe.refl _⟩
        (fun hn => ⟨LJ.of_LSm (hsm hn) (Ag.of hH'), fun H1 h => LJ.of_LSm (hsm hn) (hall H1 h)⟩) (q2 (H' :: Hs') (fun H1 h => by simp [h]) hall)⟩
      exfalso
      unfold noLay at hnl
      rw [List.all_eq_true] at hnl
      rw [List.mem_range'_1] at hj
      have hj2 : l[j - (i + 1)]? = ops[j]? := by rw [hl']; congr 1; omega
      unfold alAt at hal
      split at hal
      · rename_i oj hoj
        rw [hoj] at hj2
        have := hnl oj (List.mem_of_getElem? hj2)
        split at hal
        · rename_i B hB; rw [hB] at this; simp at this
        · cases hal
      · cases hal
    | false =>
      rw [hm, cond_false] at h'
      cases hok : okind o with
      | plain =>
        rw [hok] at h'
        cases hlm : Nat.testBit lm i with
        | false =>
          rw [hlm] at h'
          obtain ⟨vars', hK, hs⟩ := gPlain_ex (d := d) (n0 := n0) ho hok hag h'
          exact more hm hs (fun e => by rw [hlm] at e; cases e) hK
        | true =>
          rw [hlm] at h'
          have h' : gPlainL P m k ops L t0 o tb nb vars fun vars' => gSegL P m k ops mask lm L t0 l (i + 1) tb nb vars' t n lo K := h'
          unfold gPlainL at h'
          rw [wantF_fun] at h'
          split at h'
          case h_2 => exact h'.elim
          rename_i hw
          obtain ⟨r, ha, h'⟩ := gAop_ex h'
          cases r with
          | val v dl =>
            cases dl with
            | same =>
              obtain ⟨r2, ha2, h'⟩ := gAop_ex h'
              cases r2 with
              | val v2 dl2 =>
                cases dl2 with
                | same =>
                  obtain ⟨ev, h'⟩ := h'
                  subst ev
                  obtain ⟨vars', hp, hK⟩ := put_ex h'
                  have key : ∀ H1, Ag [] tb H1 → aop P m H1 (St.eval ⟨k, vars, H, d⟩) o = some (.val v2 H1) := fun H1 h1 => by
                    have := (aopT_sound (H := H1) h1 rfl (aopT_same H1.length hok ha)).1
                    rw [evalT_eq k vars H d] at this
                    exact this
                  have key2 : ∀ H1, LJ L t0 H1 → aop P m H1 (St.eval ⟨k, vars, H, d⟩) o = some (.val v2 H1) := fun H1 h1 => by
                    have := (aopT_sound (H := H1) h1 rfl (aopT_same H1.length hok ha2)).1
                    rw [evalT_eq k vars H d] at this
                    exact this
                  exact more hm (fun Hs hall => ⟨o, v2, H, ho, .plain hok hw (key H hag) (fun H1 h1 => key H1 (hall H1 h1)), hp H H d⟩) (fun _ => ⟨o, v2, m, ho, hok, hw, hp H H d, key2⟩) hK
                | _ => exact h'.elim
              | _ => exact h'.elim
            | _ => exact h'.elim
          | _ => exact h'.elim
      | lay => rw [hok] at h'; exact h'.elim
      | eff => rw [hok] at h'; exact h'.elim
      | store => rw [hok] at h'; exact h'.elim
end
theorem WR.late {P : Program} {m : Bool} {ro : Option Nat} {k : Nat} {vars : Trie AV} {t : Trie Blk} {n lo id : Nat} {d : List Nat} {Q : CodeQ} {ops : Array Oper} (hm : P.follows .mixedOrders = true) (ml lm : Nat) (L : List Nat) (hd : (drawOkL ml lm ops && lateOk lm ops) = true)
  (h : gSegL P m k ops ml lm L (hoistG P ops.toList n t) ops.toList 0 (hoistG P ops.toList n t) (n + ops.size) vars (hoistG P ops.toList n t) (n + ops.size) lo fun vars' t' n' lo' => Q .normal ⟨vars', t', n', d⟩ lo') :
  WR P ro (.region id ops true) k vars t n d lo Q := fun H H0 hH hk => by
 rw [Bool.and_eq_true] at hd
 have hH1 : HT (hoistG P ops.toList n t) (n + ops.size) (H ++ hoisted P ops) := by
  have := hoistG_sound (P := P) ops.toList n t H hH
  simpa [hoisted] using this
 obtain ⟨vars', t', n', lo', H', a, b, c, Hs', q1, q2⟩ := gSegL_spec (d := d) (H0 := H0) (n0 := n) ops.toList 0 (fun j => by simp) (hoistG P ops.toList n t) (n + ops.size) vars (hoistG P ops.toList n t) (n + ops.size) lo
  (H ++ hoisted P ops) (Ag.of hH1) hH1 (hk.trans (Keep.append H _ lo) (Nat.le_refl _) (Nat.le_refl _)) h
 refine ⟨.normal, ⟨vars', t', n', d⟩, lo', H', a, b, ?_, c⟩
 refine Run.region_drawL (X := ⟨lm, LJ L (hoistG P ops.toList n t), needL lm ops⟩) (mask := ml) (Hs := (H ++ hoisted P ops) :: Hs') hm rfl hd.1 (fun j o hj ho => ?_) (by simp) ?_
 ·have h2 := hd.2
  unfold lateOk at h2
  rw [List.all_eq_true] at h2
  have h3 := h2 j (List.mem_range.2 (Array.getElem?_eq_some_iff.1 ho).1)
  rw [show lm.testBit j = true from hj, ho] at h3
  have h3 : lateOp o = true := h3
  unfold lateOp at h3
  unfold layB
  split at h3 <;> first | (rename_i e; rw [e]) | cases h3
 ·have := q2 ((H ++ hoisted P ops) :: Hs') (fun H1 h => by simp [h]) (fun H1 h => by
   rcases List.mem_cons.1 h with rfl | h
   ·exact Ag.of hH1
   ·exact q1 H1 h)
  simp only [hH.len]
  simpa [List.range_eq_range'] using this
theorem RoundG.introW {P : Program} {m : Bool} {id : Nat} {args : List AV} {t : Trie Blk} {n : Nat} {K : AV → Trie Blk → Nat → Nat → Prop} {l : ALoop} (hm : P.follows .mixedOrders = true) (hl : get t id = some (.loop l)) (hlen : args.length = l.params.size) (hp : ∀ s ∈ l.params, s < l.n)
  (h : gCode P m l.n (some id) l.assign (putParams l.vars l.params.toList args) t n [] noLo fun x e lo => x = .normal ∧ ∃ l1, get e.t id = some (.loop l1) ∧ l1.state = .ready ∧ ∃ S T n1, e.n = n1 ∧ SlotsW (get e.vars) (set e.t id (.loop { l1 with state := .busy })) S ∧ Blks (get (set e.t id (.loop { l1 with state := .busy }))) noLo T ∧
   WR P (some id) l.body l.n (ofL S) (ofL T) n1 e.defs (min lo id) fun x2 e2 lo2 => ∃ j l2, jumpOf x2 = some j ∧ get e2.t id = some (.loop l2) ∧
    K (.lit (.bool j.isNone)) (set e2.t id (.loop { l2 with state := if j.isNone then .ready else .done, pending := j })) e2.n (min lo2 id)) : RoundG P id args t n K := by
 refine ⟨fun H hH => ?_⟩
 obtain ⟨x, ⟨vars1, t1, n1, d1⟩, lo, H1, hH1, hk1, r1, rfl, l1, hl1, hst, S, T, n2, hn, hS, hT, h⟩ := gCode_spec hm _ _ _ _ _ _ _ h H H hH (Keep.refl _ _)
 have hn : n1 = n2 := hn
 subst hn
 have hb1 := hH1.blk _ _ hl1
 have hlt1 : id < n1 := hH1.lt hl1
 have hkset : ∀ {H2 : List Blk} {lo2 : Nat} {l3 : ALoop} {B : Blk}, Keep H H2 lo2 → H2[id]? = some (.loop l3) → Keep H (H2.set id B) (min lo2 id) := fun hk hb =>
  hk.trans (Keep.set hb (by intro e; cases e)) (Nat.min_le_left _ _) (Nat.min_le_right _ _)
 have hH1b : HT (set t1 id (.loop { l1 with state := .busy })) n1 (H1.set id (.loop { l1 with state := .busy })) := hH1.set hlt1 _
 obtain ⟨x2, ⟨vars2, t2, n2, d2⟩, lo2, H2, hH2, hk2, r2, j, l2, hj, hl2, hK⟩ := h (H1.set id (.loop { l1 with state := .busy })) H (hH1b.subN hT) (hkset hk1 hb1)
 have hb2 := hH2.blk _ _ hl2
 have r2' := r2.fewer (V := vars1) fun s v hg => by
  obtain ⟨v1, g1, g2⟩ := hS.mem _ (get_ofL hg)
  exact ⟨v1, g1, g2 _ _ hH1b⟩
 exact ⟨_, _, _, _, _, hH2.set (hH2.lt hl2) _, ARound.intro (hH.blk _ _ hl) hlen hp r1 hb1 hst r2' hb2 hj, hkset hk2 hb2, hK⟩
end
end Go.Vm

namespace Go.Vm
open Go.Proofs
theorem ACall.boxL {P : Program} {f : FuncId} {args : List AV} {H H' : List Blk} {v : AV} {id : Nat} {cells cells' : List AV} {ty : TypeId} (h : ACall P f args H (.ret v) H') (hid : H'[id]? = some (.box cells ty))
  (hw : ∀ (_ : Outer) ι w cs, VRels ⟨H', ι, w⟩ cells cs → VRels ⟨H', ι, w⟩ cells' cs) : ACall P f args H (.ret v) (H'.set id (.box cells' ty)) := by
 intro O ι w cs hR hargs
 refine (h O ι w cs hR hargs).mono ?_
 rintro e w' ⟨ι', hend, hR', hev, hnon⟩
 have hev2 : Ev ⟨H', ι', w'⟩ ⟨H'.set id (.box cells' ty), ι', w'⟩ := ev_box hid
 cases e with
 | panicked chain => exact hend.elim
 | outgrown => exact hend.elim
 | returned c => exact ⟨ι', VRel.ev hev2 v c hend, rel_box hR' hid (hw O ι' w'), hev.trans hev2, hnon.trans hev fun _ _ h => h⟩
end Go.Vm

namespace Go.Vm
open Go.Proofs
variable {P : Program} {ro : Option Nat} {k : Nat} {vars : Trie AV} {t : Trie Blk} {n lo : Nat} {d : List Nat} {Q : CodeQ}
theorem WR.block {i : Nat} {c : Code} (h : WR P ro c k vars t n d lo fun x e lo' => match x with
  | .exit j => bif Nat.beq i j then Q .normal e lo' else Q (.exit j) e lo'
  | x => Q x e lo') : WR P ro (.block i c) k vars t n d lo Q := fun H H0 hH hk => by
 obtain ⟨x, e, lo1, H1, hH1, hk1, r1, q⟩ := h H H0 hH hk
 cases x with
 | normal => exact ⟨.normal, e, lo1, H1, hH1, hk1, .block r1 (.inl rfl), q⟩
 | exit j =>
  simp only at q
  cases hb : Nat.beq i j with
  | true =>
   rw [hb, cond_true] at q
   have := Nat.eq_of_beq_eq_true hb
   subst this
   exact ⟨.normal, e, lo1, H1, hH1, hk1, .block r1 (.inr rfl), q⟩
  | false =>
   rw [hb, cond_false] at q
   refine ⟨.exit j, e, lo1, H1, hH1, hk1, .block_out r1 ?_, q⟩
   have : j ≠ i := by rintro rfl; rw [Nat.beq_refl] at hb; cases hb
   simp [AExit.passes, this]
 | ret => exact ⟨.ret, e, lo1, H1, hH1, hk1, .block_out r1 rfl, q⟩
 | pan v => exact ⟨.pan v, e, lo1, H1, hH1, hk1, .block_out r1 rfl, q⟩
end Go.Vm

namespace Go.Vm
open Go.Proofs Go.RowKit
inductive Lend (id N : Nat) (cells : List AV) : List AV → List AV → Prop
 | nil : Lend id N cells [] []
 | same {a : AV} {l l' : List AV} (h : a.under 0) (t : Lend id N cells l l') : Lend id N cells (a :: l) (a :: l')
 | this {l l' : List AV} (t : Lend id N cells l l') : Lend id N cells (.hsl id 0 N N :: l) (.sl N cells .unk :: l')
end Go.Vm

namespace Go.Vm
open Go.Proofs Go.RowKit
inductive Dry : AV → Prop
 | lit (v : Value) : Dry (.lit v)
 | tup {l : List AV} (h : ∀ a ∈ l, ∃ v, a = .lit v) : Dry (.tup l)
inductive LendM (id gen N : Nat) (cells : List AV) : List AV → List AV → Prop
 | nil : LendM id gen N cells [] []
 | same {a : AV} {l l' : List AV} (h : a.under 0) (t : LendM id gen N cells l l') : LendM id gen N cells (a :: l) (a :: l')
 | this {l l' : List AV} (t : LendM id gen N cells l l') : LendM id gen N cells (.msl id gen N 1 :: l) (.sl N cells .unk :: l')
end Go.Vm
