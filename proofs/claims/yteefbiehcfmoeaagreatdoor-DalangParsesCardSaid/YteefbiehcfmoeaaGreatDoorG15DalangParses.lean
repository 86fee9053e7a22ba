/-
  Texts of the proof, part 15: the machine, contracts of functions, plain laws. (Own work.)
-/
import Derived.Test.YteefbiehcfmoeaaGreatDoorG14DalangParses
import Derived.Laws.Runes
import Derived.KernelRfl

namespace Go.Vm
open Go.Proofs
theorem ltb {a b : Nat} (h : Nat.blt a b = true) : a < b := Nat.le_of_ble_eq_true h
theorem leb {a b : Nat} (h : Nat.ble a b = true) : a ≤ b := Nat.le_of_ble_eq_true h
theorem fits64 {n : Int} (h : -9223372036854775808 ≤ n ∧ n < 9223372036854775808) : fitsK .i64 n := by
 unfold fitsK
 simp only [IntKind.wrap, IntKind.bits, IntKind.signed]
 simp
 omega
theorem appT_own {P : Program} {g : Nat → Option Blk} {n sT xT e size bytes len k id gen : Nat} {z : Value} {cells new : List AV} {x : AV} (h1 : tslice P sT = some e) (h2 : tsz P e = some size) (h3 : tz P e = some z) (h4 : tbytes P e = some bytes)
  (h5 : (tsrc P xT && (decide (bytes ≤ 2097152) && decide (z.cells.size = size))) = true) (h6 : srcT g size x = some (k, new)) (h7 : 0 < k) (h8 : cells.length = len * size) (h9 : len + k ≤ 2097152) (h10 : g id = some (.row gen)) (h11 : new.all AV.one = true) :
  appT P false g n sT xT (.sl len cells (.own id gen size)) x = some (.sl (len + k) (cells ++ new) (.own id (gen + 1) size), .set id (.row (gen + 1))) := by
 unfold appT
 simp only [h1, h2, h3, h4, h5, h6, h10, h11, if_true]
 rw [if_neg (by omega), if_pos ⟨h8, h9⟩, if_pos ⟨trivial, trivial, trivial⟩]
theorem ex_app {x : Option (AV × Dl)} {K : DR → Prop} (v : AV) (d : Dl) (h : x = some (v, d)) (k : K (.val v d)) : Ex (x.map fun p => DR.val p.1 p.2) K :=
 ⟨_, by rw [h]; rfl, k⟩
theorem CallG.bool {P : Program} {f : FuncId} {args : List AV} {t : Trie Blk} {n : Nat} {K Kp : AV → Trie Blk → Nat → Nat → Prop} {p : Prop} [Decidable p] (h : ∀ H, ACall P f args H (.ret (.lit (.bool (decide p)))) H)
  (k1 : p → K (.lit (.bool true)) t n noLo) (k2 : ¬ p → K (.lit (.bool false)) t n noLo) : CallG P f args t n K Kp := by
 by_cases hp : p
 ·rw [decide_eq_true hp] at h; exact .pure _ h (k1 hp)
 ·rw [decide_eq_false hp] at h; exact .pure _ h (k2 hp)
theorem FinG.bool {P : Program} {rs : List ResultVar} {e : ES} {p : Prop} [Decidable p] {b : Bool} (h : resT P (get e.t) e.vars rs = some [.lit (.bool b)]) (hd : e.defs = []) (hb : p ↔ b = true) : FinG P rs e (.lit (.bool (decide p))) := by
 refine ⟨_, h, hd, ?_⟩
 show AV.lit (.bool b) = _
 cases b with
 | true => rw [decide_eq_true (hb.2 rfl)]
 | false => rw [decide_eq_false (fun x => by cases hb.1 x)]
theorem FinG.yes {P : Program} {rs : List ResultVar} {e : ES} {p : Prop} [Decidable p] (h : resT P (get e.t) e.vars rs = some [.lit (.bool true)]) (hd : e.defs = []) (hb : p) : FinG P rs e (.lit (.bool (decide p))) := .bool h hd ⟨fun _ => rfl, fun _ => hb⟩
theorem FinG.no {P : Program} {rs : List ResultVar} {e : ES} {p : Prop} [Decidable p] (h : resT P (get e.t) e.vars rs = some [.lit (.bool false)]) (hd : e.defs = []) (hb : ¬ p) : FinG P rs e (.lit (.bool (decide p))) := .bool h hd ⟨fun x => absurd x hb, fun x => by cases x⟩
theorem Weak.of_eq {t : Trie Blk} {v v' : AV} (h : v = v') : Weak t v v' := h ▸ Weak.refl t v
theorem at_ints {P : Program} {t : TypeId} (hu : P.underlying t = some (.slice 3)) (hs : tsz P 3 = some 1) {l : List Int} {tl : Tail} {i : Int} {r : Nat} (hi : i = r) (h : r < l.length) : indexOp P t (.sl l.length (l.map n') tl) (.lit (.int .i64 i)) = some (.eptr [n' l[r]]) := by
 subst hi
 refine (indexOp_sl hu hs ⟨by omega, by omega, by rw [List.length_map]; omega, by omega⟩).trans ?_
 rw [Int.toNat_natCast]
 exact congrArg (fun x => some (AV.eptr x)) (map_at (List.getElem?_eq_getElem _))
end Go.Vm

namespace Go.Vm
open Go.Proofs
theorem ix_ints {l : List Int} {tl : Tail} {i : Int} {r : Nat} (hi : i = r) (h : r < l.length) : indexOp Tryz.prog 23 (.sl l.length (l.map n') tl) (.lit (.int .i64 i)) = some (.eptr [n' l[r]]) :=
 at_ints (by kernel_rfl) (by kernel_rfl) hi h
theorem ix_one {α : Type} {P : Program} {t e : TypeId} {f : α → AV} (hu : P.underlying t = some (.slice e)) (hs : tsz P e = some 1) {l : List α} {tl : Tail} {i : Int} {r : Nat} (hi : i = r) (h : r < l.length) : indexOp P t (.sl l.length (l.map f) tl) (.lit (.int .i64 i)) = some (.eptr [f l[r]]) := by
 subst hi
 refine (indexOp_sl hu hs ⟨by omega, by omega, by rw [List.length_map]; omega, by omega⟩).trans ?_
 rw [Int.toNat_natCast]
 exact congrArg (fun x => some (AV.eptr x)) (map_at (List.getElem?_eq_getElem _))
theorem take_snoc {α : Type} {l : List α} {r : Nat} (h : r < l.length) : l.take (r + 1) = l.take r ++ [l[r]] := by
 rw [List.take_add_one, List.getElem?_eq_getElem h]; rfl
theorem all_snoc {α : Type} {l : List α} {p : α → Prop} {r : Nat} (h : r < l.length) (hI : ∀ x ∈ l.take r, p x) (hp : p l[r]) : ∀ x ∈ l.take (r + 1), p x := by
 intro x hx
 rw [take_snoc h] at hx
 rcases List.mem_append.1 hx with hx | hx
 ·exact hI x hx
 ·rw [List.mem_singleton] at hx; subst hx; exact hp
def inI (a b c : Int) : Prop := b ≤ a ∧ a ≤ c
instance (a b c : Int) : Decidable (inI a b c) := by unfold inI; infer_instance
def StOk (b : Book) (v : Vers) (s : List Move) : Prop := (s.length : Int) = b.cues ∧ ∀ m ∈ s, inI m.1 0 (v.length - 1) ∧ inI m.2 0 (b.tunes - 1)
def VOk (b : Book) (v : Vers) : Prop := (∀ s ∈ v, StOk b v s) ∧ inI v.length 1 4
def BOk (b : Book) : Prop := (inI b.cues 1 4 ∧ inI b.tunes 1 6 ∧ inI b.vs.length 1 4) ∧ ∀ v ∈ b.vs, VOk b v
def LCues (b : Book) (l : List Int) : Prop := ∀ c ∈ l, inI c 0 (b.cues - 1)
def LList (b : Book) (l : List Int) : Prop := (l.length : Int) ≤ 8 ∧ LCues b l
def LTunes (b : Book) (l : List Int) : Prop := (∀ c ∈ l, c ≠ -1 → inI c 0 (b.tunes - 1)) ∧ (l.length : Int) ≤ 8
def EvOk (b : Book) (e : Evening) : Prop := (LList b e.1 ∧ LTunes b e.2) ∧ (e.1.length : Int) = e.2.length
def EvsOk (b : Book) (l : List Evening) : Prop := (∀ e ∈ l, EvOk b e) ∧ (l.length : Int) ≤ 4
instance (b : Book) (v : Vers) (s : List Move) : Decidable (StOk b v s) := by unfold StOk; infer_instance
instance (b : Book) (v : Vers) : Decidable (VOk b v) := by unfold VOk; infer_instance
instance (b : Book) : Decidable (BOk b) := by unfold BOk; infer_instance
instance (b : Book) (l : List Int) : Decidable (LCues b l) := by unfold LCues; infer_instance
instance (b : Book) (l : List Int) : Decidable (LList b l) := by unfold LList; infer_instance
instance (b : Book) (l : List Int) : Decidable (LTunes b l) := by unfold LTunes; infer_instance
instance (b : Book) (e : Evening) : Decidable (EvOk b e) := by unfold EvOk; infer_instance
instance (b : Book) (l : List Evening) : Decidable (EvsOk b l) := by unfold EvsOk; infer_instance
def sameS (a b : List Int) (r : Nat) : List (Nat × AV) := [(0, eInts a), (1, eInts b), (5, n' r)]
set_option maxRecDepth 100000 in
theorem c_same (a b : List Int) (ha : a.length < 9223372036854775808) (H : List Blk) : ACall Tryz.prog 79 [eInts a, eInts b] H (.ret (.lit (.bool (decide (a = b))))) H := by
 refine fn_rule (m := false) (fn := Tryz.f79) (c := (Tryz.f79.body).getD .skip) mixed (by kernel_rfl) (by kernel_rfl) (of_decide_eq_true (by kernel_rfl)) ?_ ?_ ?_ H
 ·exact ⟨under_eInts 0 _, under_eInts 0 _, trivial⟩
 ·trivial
 ·refine If.mk (fun h => ?_) (fun h => ?_)
  ·refine ifN ?_
   have hl : a.length = b.length := by omega
   refine LoopG.at (n0 := 0) rfl (loop_up mixed (m := false) (sameS a b) (fun _ => []) (fun r => a.take r = b.take r) a.length 0 (Nat.zero_le _) rfl ?_ trivial ?_)
   ·exact ⟨⟨_, rfl, Weak.refl _ _, under_eInts _ _⟩, ⟨_, rfl, Weak.refl _ _, under_eInts _ _⟩, wp rfl trivial, trivial⟩
   ·intro r hr hI
    refine If.mk (fun h1 => ?_) (fun h1 => ?_)
    ·refine ifY ?_
     refine Ex.mk _ (ix_ints (r := r) rfl (by omega)) ?_
     refine Ex.mk _ rfl ?_
     refine Ex.mk _ (ix_ints (r := r) rfl (by omega)) ?_
     refine Ex.mk _ rfl ?_
     refine If.mk (fun h2 => ?_) (fun h2 => ?_)
     ·refine ifN ?_
      refine Side.mk (fits64 (by omega)) ?_
      refine ⟨Nat.zero_le _, rfl, by omega, ?_, ⟨⟨_, rfl, Weak.refl _ _, under_eInts _ _⟩, ⟨_, rfl, Weak.refl _ _, under_eInts _ _⟩, wp rfl trivial, trivial⟩, trivial, trivial⟩
      show a.take (r + 1) = b.take (r + 1)
      rw [take_snoc (by omega), take_snoc (by omega), hI, h2]
     ·refine ifY ?_
      refine ⟨Nat.zero_le _, .inl rfl, FinG.no rfl rfl ?_⟩
      rintro rfl; exact h2 rfl
    ·refine ifN ?_
     have e : r = a.length := by omega
     subst e
     refine ⟨Nat.zero_le _, .inl rfl, FinG.yes rfl rfl ?_⟩
     rw [List.take_length, hl, List.take_length] at hI
     exact hI
  ·refine ifY ?_
   refine ⟨.inl rfl, FinG.no rfl rfl ?_⟩
   rintro rfl; exact h rfl
end Go.Vm

namespace Go.Vm
open Go.Proofs
def ShortV (v : Vers) : Prop := (∀ s ∈ v, (s.length : Int) ≤ 6) ∧ (v.length : Int) ≤ 6
def Short (b : Book) : Prop := (∀ v ∈ b.vs, ShortV v) ∧ (b.vs.length : Int) ≤ 6
instance (v : Vers) : Decidable (ShortV v) := by unfold ShortV; infer_instance
instance (b : Book) : Decidable (Short b) := by unfold Short; infer_instance
def Slim (e : Evening) : Prop := (e.1.length : Int) ≤ 10 ∧ (e.2.length : Int) ≤ 10
def Brief (l : List Evening) : Prop := (∀ e ∈ l, Slim e) ∧ (l.length : Int) ≤ 6
instance (e : Evening) : Decidable (Slim e) := by unfold Slim; infer_instance
instance (l : List Evening) : Decidable (Brief l) := by unfold Brief; infer_instance
def Right (b : Book) (l : List Evening) : Prop := ((Short b ∧ Brief l) ∧ BOk b) ∧ EvsOk b l
instance (b : Book) (l : List Evening) : Decidable (Right b l) := by unfold Right; infer_instance
end Go.Vm

namespace Go.Vm
open Go.Proofs
theorem jx_ints {l : List Int} {tl : Tail} {i : Int} {r : Nat} {x : Int} (hi : i = r) (h : l[r]? = some x) : indexOp Tryz.prog 23 (.sl l.length (l.map n') tl) (.lit (.int .i64 i)) = some (.eptr [n' x]) := by
 obtain ⟨h1, rfl⟩ := List.getElem?_eq_some_iff.1 h
 exact ix_ints hi h1
theorem freezes_ints (g : Nat → Option Blk) (l : List Int) : AV.freezes g (l.map n') = l.map n' := freezes_map (fun _ => rfl) l
theorem app_int {g : Nat → Option Blk} {n len id gen : Nat} {cells : List AV} {a : Int} (h1 : cells.length = len) (h2 : len < 2097152) (hg : g id = some (.row gen)) :
  appT Tryz.prog false g n 23 23 (.sl len cells (.own id gen 1)) (.sl 1 [n' a] .full) = some (.sl (len + 1) (cells ++ [n' a]) (.own id (gen + 1) 1), .set id (.row (gen + 1))) :=
 appT_own (e := 3) (bytes := 8) (z := .int .i64 0) (by kernel_rfl) (by kernel_rfl) (by kernel_rfl) (by kernel_rfl) (by kernel_rfl) rfl (by omega) (by omega) (by omega) hg rfl
theorem at_some {α : Type} {l : List α} {r : Nat} (h : r < l.length) : ∃ x, l[r]? = some x ∧ l.take (r + 1) = l.take r ++ [x] ∧ x ∈ l :=
 ⟨l[r], List.getElem?_eq_getElem h, take_snoc h, List.getElem_mem h⟩
end Go.Vm

namespace Go.Vm
open Go.Proofs
def idxOf {α : Type} (p : α → Prop) [DecidablePred p] : List α → Int
 | [] => -1
 | x :: l => if p x then 0 else if 0 ≤ idxOf p l then idxOf p l + 1 else -1
theorem idx_nonneg {α : Type} {p : α → Prop} [DecidablePred p] : ∀ {l : List α}, 0 ≤ idxOf p l ↔ ∃ x ∈ l, p x
 | [] => by simp [idxOf]
 | x :: l => by
  have ih := idx_nonneg (p := p) (l := l)
  unfold idxOf
  by_cases h : p x
  ·rw [if_pos h]
   exact ⟨fun _ => ⟨x, List.mem_cons_self, h⟩, fun _ => by omega⟩
  ·rw [if_neg h]
   by_cases h2 : 0 ≤ idxOf p l
   ·rw [if_pos h2]
    obtain ⟨y, hy, hp⟩ := ih.1 h2
    exact ⟨fun _ => ⟨y, List.mem_cons_of_mem _ hy, hp⟩, fun _ => by omega⟩
   ·rw [if_neg h2]
    refine ⟨fun x => by omega, fun ⟨y, hy, hp⟩ => ?_⟩
    rcases List.mem_cons.1 hy with rfl | hy
    ·exact absurd hp h
    ·exact absurd (ih.2 ⟨y, hy, hp⟩) h2
theorem idx_miss {α : Type} {p : α → Prop} [DecidablePred p] : ∀ {l : List α}, (∀ x ∈ l, ¬ p x) → idxOf p l = -1
 | [], _ => rfl
 | x :: l, h => by
  have ih := idx_miss (p := p) (l := l) (fun y hy => h y (List.mem_cons_of_mem _ hy))
  unfold idxOf
  rw [if_neg (h x List.mem_cons_self), if_neg (by omega)]
theorem idx_hit {α : Type} {p : α → Prop} [DecidablePred p] : ∀ {l : List α} {r : Nat} (hr : r < l.length), (∀ x ∈ l.take r, ¬ p x) → p l[r] → idxOf p l = r
 | [], r, hr, _, _ => by simp at hr
 | x :: l, 0, _, _, hp => by
  unfold idxOf
  have hp' : p x := hp
  rw [if_pos hp']; rfl
 | x :: l, r + 1, hr, h, hp => by
  have hr' : r < l.length := by simpa using hr
  have ih := idx_hit (p := p) (l := l) hr' (fun y hy => h y (by rw [List.take_succ_cons]; exact List.mem_cons_of_mem _ hy)) hp
  have hx : ¬ p x := h x (by rw [List.take_succ_cons]; exact List.mem_cons_self)
  unfold idxOf
  rw [if_neg hx, ih, if_pos (by omega)]
  omega
def clo (f : FuncId) (caps : List AV) : AV := .fn (.func f) [] caps
end Go.Vm

namespace Go.Vm
open Go.Proofs
def MvOk (b : Book) (v : Vers) (m : Move) : Prop := inI m.1 0 (v.length - 1) ∧ inI m.2 0 (b.tunes - 1)
instance (b : Book) (v : Vers) (m : Move) : Decidable (MvOk b v m) := by unfold MvOk; infer_instance
end Go.Vm

namespace Go.Vm
open Go.Proofs
theorem src_ints (g : Nat → Option Blk) (l : List Int) : srcT g 1 (eInts l) = some (l.length, l.map n') := by
 show (if (l.map n').length = l.length * 1 then some (l.length, l.map n') else none) = _
 rw [if_pos (by rw [List.length_map, Nat.mul_one])]
end Go.Vm

namespace Go.Vm
open Go.Proofs
def TuneP (b : Book) (c : Int) : Prop := c ≠ -1 → inI c 0 (b.tunes - 1)
instance (b : Book) (c : Int) : Decidable (TuneP b c) := by unfold TuneP; infer_instance
def Noted (t h : List Int) : Prop := ∀ i, i < h.length → 0 ≤ h.getD i 0 → t.getD i 0 = h.getD i 0
instance (t h : List Int) : Decidable (Noted t h) := by unfold Noted; infer_instance
def Agrees (v : Vers) (evs : List Evening) : Prop := ∀ e ∈ evs, Noted (plays v 0 e.1) e.2
instance (v : Vers) (evs : List Evening) : Decidable (Agrees v evs) := by unfold Agrees; infer_instance
def Listed (l : List Int) (n : Int) : Prop := n ∈ l
instance (l : List Int) (n : Int) : Decidable (Listed l n) := by unfold Listed; infer_instance
end Go.Vm

namespace Go.Vm
open Go.Proofs
def VersL (b : Book) (l : List Int) : Prop := ∀ r, r < l.length → inI (l.getD r 0) 0 (b.vs.length - 1) ∧ (0 < r → l.getD (r - 1) 0 < l.getD r 0)
instance (b : Book) (l : List Int) : Decidable (VersL b l) := by unfold VersL; infer_instance
theorem appT_full {P : Program} {g : Nat → Option Blk} {n sT xT e size bytes len k : Nat} {z : Value} {cells new : List AV} {x : AV} (h1 : tslice P sT = some e) (h2 : tsz P e = some size) (h3 : tz P e = some z) (h4 : tbytes P e = some bytes)
  (h5 : (tsrc P xT && (decide (bytes ≤ 2097152) && decide (z.cells.size = size))) = true) (h6 : srcT g size x = some (k, new)) (h7 : 0 < k) (h8 : cells.length = len * size) (h9 : len + k ≤ 2097152) :
  appT P false g n sT xT (.sl len cells .full) x = some (.sl (len + k) (cells ++ new) (.own n 0 size), .push (.row 0)) := by
 unfold appT
 simp only [h1, h2, h3, h4, h5, h6, if_true]
 rw [if_neg (by omega), if_pos ⟨h8, h9⟩]
 rfl
theorem ACall.more {P : Program} {f : FuncId} {args : List AV} {H H' : List Blk} {v v' : AV} (h : ACall P f args H (.ret v) H') (B : Blk) (hw : WeakH (H' ++ [.row 0]) v v') (hB : B = .row 0) : ACall P f args H (.ret v') (H' ++ [B]) := by
 subst hB
 intro O ι w cs hR hargs
 refine (h O ι w cs hR hargs).mono ?_
 rintro e w' ⟨ι', hend, hR', hev, hnon⟩
 cases e with
 | panicked chain => exact hend.elim
 | outgrown => exact hend.elim
 | returned c =>
  have hend' : VRel ⟨H', ι', w'⟩ v c := hend
  have hev2 : Ev ⟨H', ι', w'⟩ ⟨H' ++ [.row 0], ι', w'⟩ := Ev.fresh hR' (w' := w') (H2 := [.row 0]) (fun _ _ => rfl) ⟨rfl, rfl⟩
  have hR2 : Rel ⟨H' ++ [.row 0], ι', w'⟩ := Rel.fresh hR' (w' := w') (H2 := [.row 0]) (fun _ _ => rfl) ⟨rfl, rfl⟩
  exact ⟨ι', hw O ι' w' c (hend'.ev hev2), hR2, hev.trans hev2, fun id hn hx => hnon id hn hx⟩
theorem WeakH.own {H : List Blk} {r : Nat} (sz : Nat) (hr : H[r]? = some (.row 0)) : WeakH H (.lit (.slice none 0 0)) (.sl 0 [] (.own r 0 sz)) := fun _ _ _ _ h => by
 simp only [VRel] at h ⊢
 exact ⟨none, 0, h, Nat.le_refl _, .inl trivial, by simp, 0, hr, Nat.le_refl _, fun _ => .inl rfl⟩
end Go.Vm

namespace Go.Vm
open Go.Proofs
def r2 : List Bool := [false, true]
def cuesI (l : List Nat) : List Int := l.map fun c : Nat => (c : Int)
theorem ACall.weakRet' {P : Program} {f : FuncId} {args : List AV} {H H' : List Blk} {v v' : AV} (h : ACall P f args H (.ret v) H') (hw : ∀ H, WeakH H v v') : ACall P f args H (.ret v') H' := by
 intro O ι w cs hR hargs
 refine (h O ι w cs hR hargs).mono ?_
 rintro e w' ⟨ι', hend, hR', hev, hnon⟩
 refine ⟨ι', ?_, hR', hev, hnon⟩
 cases e with
 | returned c => exact hw H' O ι' w' c hend
 | panicked chain => exact hend.elim
 | outgrown => exact hend.elim
theorem app_cons {g : Nat → Option Blk} {n : Nat} {a : Int} {l : List Int} (h : l ≠ []) (hl : l.length ≤ 2000000) : appT Tryz.prog false g n 23 23 (.sl 1 [n' a] .full) (eInts l) = some (.sl (1 + l.length) ([n' a] ++ l.map n') (.own n 0 1), .push (.row 0)) :=
 appT_full (e := 3) (bytes := 8) (z := .int .i64 0) (by kernel_rfl) (by kernel_rfl) (by kernel_rfl) (by kernel_rfl) (by kernel_rfl) (src_ints g l) (List.length_pos_iff.2 h) rfl (by omega)
end Go.Vm

namespace Go.Vm
open Go.Proofs
theorem bin_add {P : Program} {a b : ByteArray} {t : TypeId} (h : a.size + b.size ≤ 1073741824) : binB P .add t (.lit (.string a)) (.lit (.string b)) = some (sA (a ++ b)) := by
 unfold binB binA
 simp only [binLit, binStr]
 rw [if_pos h]
 rfl
def lineS (w : ByteArray) (l : List Nat) : ByteArray := l.foldl (fun s n => s ++ ⟨#[32]⟩ ++ decS n) w
theorem take_snocB {α : Type} {U : List α} {r : Nat} {x : α} (h : U[r]? = some x) : U.take (r + 1) = U.take r ++ [x] := by
 rw [List.take_add_one, h]
 rfl
theorem now_of {α : Type} {x : Option α} {K : α → Prop} {r : α} (h : x = some r) (k : K r) : NowR x K := by
 subst h; exact k
end Go.Vm

namespace Go.Vm
open Go.Proofs
def eStrs (l : List ByteArray) : AV := .sl l.length (l.map sA) .unk
theorem under_strs (n : Nat) (l : List ByteArray) : AV.unders n (l.map sA) := by
 induction l with
 | nil => trivial
 | cons x l ih => exact ⟨trivial, ih⟩
theorem under_eStrs (n : Nat) (l : List ByteArray) : (eStrs l).under n := by
 unfold eStrs
 simp only [AV.under]
 exact ⟨under_strs n l, trivial⟩
theorem jx_strs {l : List ByteArray} {tl : Tail} {i : Int} {r : Nat} {x : ByteArray} (hi : i = r) (h : l[r]? = some x) : indexOp Tryz.prog 93 (.sl l.length (l.map sA) tl) (.lit (.int .i64 i)) = some (.eptr [sA x]) := by
 obtain ⟨h1, rfl⟩ := List.getElem?_eq_some_iff.1 h
 exact ix_one (e := 9) (by kernel_rfl) (by kernel_rfl) hi h1
theorem ex_val {x : Option AV} {K : DR → Prop} (v : AV) (h : x = some v) (k : K (.val v .same)) : Ex (Option.rec (motive := fun _ => Option DR) none (fun v => some (DR.val v .same)) x) K := ⟨_, by rw [h], k⟩
def byteI (s : ByteArray) (j : Nat) : Nat := (s.data.toList.getD j 0).toNat
theorem byte_at {s : ByteArray} {j : Nat} (h : j < s.size) : s[j]?.map (fun b : UInt8 => AV.lit (.int .u8 b.toNat)) = some (.lit (.int .u8 (byteI s j))) := by
 have e : s[j]? = some s[j] := getElem?_pos s j h
 rw [e]
 unfold byteI
 have h' : j < s.data.toList.length := by simpa using h
 rw [List.getD_eq_getElem?_getD, List.getElem?_eq_getElem h']
 rfl
theorem idx_str {s : ByteArray} {j : Nat} (h : j < s.size) : indexA Tryz.prog 9 (sA s) (n' j) = some (.lit (.int .u8 (byteI s j))) := by
 unfold indexA
 simp only [n', sA, show Tryz.prog.underlying 9 = some .string by kernel_rfl]
 rw [if_pos (by omega), Int.toNat_natCast]
 exact byte_at h
theorem wrap_i64 {a : Int} (h0 : 0 ≤ a) (h1 : a < 1000000) : IntKind.i64.wrap a = a := by
 have e : a % (2 ^ IntKind.i64.bits : Int) = a := Int.emod_eq_of_lt h0 (Int.lt_trans h1 (by decide))
 have h2 : decide (a ≥ (2 ^ (IntKind.i64.bits - 1) : Int)) = false := decide_eq_false fun h => by
  have h3 : (1000000 : Int) < 2 ^ (IntKind.i64.bits - 1) := by decide
  have h : (2 ^ (IntKind.i64.bits - 1) : Int) ≤ a := h
  exact absurd (Int.lt_of_lt_of_le h3 h) (by omega)
 unfold IntKind.wrap
 simp only [e]
 rw [h2, Bool.and_false]
 rfl
end Go.Vm

namespace Go.Vm
open Go.Proofs
def wBook : ByteArray := ⟨#[98, 111, 111, 107]⟩
def wVersion : ByteArray := ⟨#[118, 101, 114, 115, 105, 111, 110]⟩
def wState : ByteArray := ⟨#[115, 116, 97, 116, 101]⟩
def flatM (st : List Move) : List Nat := st.flatMap fun m => [m.1.toNat, m.2.toNat]
def lineS1 (st : List Move) : ByteArray := lineS wState (flatM st)
def rowsV (v : Vers) : List ByteArray := wVersion :: v.map lineS1
def rowsB (b : Book) : List ByteArray := lineS wBook [b.cues.toNat, b.tunes.toNat] :: b.vs.flatMap rowsV
def inL (n : Int) : Prop := 0 ≤ n ∧ n < 100
structure LowB (b : Book) : Prop where
 c : inL b.cues
 t : inL b.tunes
 m : ∀ v ∈ b.vs, ∀ st ∈ v, st.length ≤ 150 ∧ ∀ m ∈ st, inL m.1 ∧ inL m.2
 n : (rowsB b).length ≤ 1000
end Go.Vm

namespace Go.Vm
open Go.Proofs
structure TellR (v w : Vers) (k : Nat) (o : Option (List Nat)) : Prop where
 no : o = none → ∀ u, OkL k u → plays v 0 (cuesI u) = plays w 0 (cuesI u)
 yes : ∀ l, o = some l → OkL k l ∧ plays v 0 (cuesI l) ≠ plays w 0 (cuesI l) ∧ ∀ u, OkL k u → plays v 0 (cuesI u) ≠ plays w 0 (cuesI u) → LE l u
end Go.Vm

namespace Go.Vm
open Go.Proofs
def Tells (v w : Vers) (i j : Nat) (u : List Nat) : Prop := plays v i (cuesI u) ≠ plays w j (cuesI u)
structure DOk (v w : Vers) (K r i j : Nat) (l : List Nat) : Prop where
 yes : l ≠ [] → OkL K l ∧ Tells v w i j l ∧ l.length ≤ r ∧ ∀ u, OkL K u → Tells v w i j u → LE l u
 no : l = [] → ∀ u, OkL K u → u.length ≤ r → ¬ Tells v w i j u
end Go.Vm

namespace Go.Vm
open Go.Proofs
theorem index_hsl {P : Program} {t : TypeId} {elem n id off len cap : Nat} {k : IntKind} {i : Int} (hu : P.underlying t = some (.slice elem)) (hs : tsz P elem = some n) (h : 0 ≤ i ∧ i < len) : indexOp P t (.hsl id off len cap) (.lit (.int k i)) = some (.ptr id (off + i.toNat * n)) := by
 simp only [indexOp, hu, hs]
 rw [if_pos h]
theorem store_ptr {P : Program} {g : Nat → Option Blk} {t : TypeId} {id off : Nat} {cells cells' : List AV} {bt : TypeId} {v : AV} (hg : g id = some (.box cells bt)) (hs : tsz P t = some 1) (ho : off < cells.length) (h1 : v.cellsOf = [v]) (h2 : AV.one v = true) (h3 : cells.take off ++ [v] ++ cells.drop (off + 1) = cells') :
  storeT P g t (.ptr id off) v = some (.set id (.box cells' bt)) := by
 subst h3
 unfold storeT
 simp only [hg, hs, h1]
 rw [if_pos ⟨rfl, ho, by simp [h2]⟩]
 rfl
def cellsR (m : Nat) (f : Nat → AV) : List AV := (List.range m).map f
theorem cellsR_length (m : Nat) (f : Nat → AV) : (cellsR m f).length = m := by unfold cellsR; simp
theorem cellsR_set {m j : Nat} {f f' : Nat → AV} {x : AV} (hj : j < m) (h1 : f' j = x) (h2 : ∀ y, y ≠ j → f' y = f y) : (cellsR m f).take j ++ [x] ++ (cellsR m f).drop (j + 1) = cellsR m f' := by
 apply List.ext_getElem?
 intro y
 unfold cellsR
 rcases Nat.lt_trichotomy y j with h | h | h
 ·rw [List.append_assoc, List.getElem?_append_left (by simp; omega), List.getElem?_take_of_lt h]
  simp only [List.getElem?_map]
  rcases Nat.lt_or_ge y m with hm | hm
  ·rw [List.getElem?_range hm]
   simp [h2 y (by omega)]
  ·omega
 ·subst h
  rw [List.append_assoc, List.getElem?_append_right (by simp; omega)]
  have e : y - (((List.range m).map f).take y).length = 0 := by simp; omega
  rw [e, List.getElem?_map, List.getElem?_range hj]
  simp [h1]
 ·rw [List.getElem?_append_right (by simp; omega)]
  have e : (((List.range m).map f).take j ++ [x]).length = j + 1 := by simp; omega
  rw [e, List.getElem?_drop, show j + 1 + (y - (j + 1)) = y by omega]
  simp only [List.getElem?_map]
  rcases Nat.lt_or_ge y m with hm | hm
  ·rw [List.getElem?_range hm]
   simp [h2 y (by omega)]
  ·rw [List.getElem?_eq_none (by simpa using hm)]
   rfl
end Go.Vm

namespace Go.Vm
open Go.Proofs
def Frz (g : Nat → Option Blk) (a v : AV) : Prop := ∀ (_ : Outer) (S : Sit), Rel S → (∀ id B, g id = some B → S.H[id]? = some B) → ∀ c, VRel S a c → VRel ⟨S.H.take 0, cutι S.ι 0, S.w⟩ v c
def FrzL (g : Nat → Option Blk) (xs vs : List AV) : Prop := ∀ (_ : Outer) (S : Sit), Rel S → (∀ id B, g id = some B → S.H[id]? = some B) → ∀ cs, VRels S xs cs → VRels ⟨S.H.take 0, cutι S.ι 0, S.w⟩ vs cs
theorem Frz.keep {g : Nat → Option Blk} {a : AV} (h : a.under 0) : Frz g a a := fun _ _ _ _ c x => VRel.cut a c h x
theorem FrzL.nil (g : Nat → Option Blk) : FrzL g [] [] := fun _ _ _ _ cs x => by
 cases cs with
 | nil => simp [VRels]
 | cons _ _ => simp [VRels] at x
theorem FrzL.cons {g : Nat → Option Blk} {a v : AV} {xs vs : List AV} (h : Frz g a v) (hs : FrzL g xs vs) : FrzL g (a :: xs) (v :: vs) := fun O S hR hg cs x => by
 cases cs with
 | nil => simp [VRels] at x
 | cons c cs =>
  simp only [VRels] at x ⊢
  exact ⟨h O S hR hg c x.1, hs O S hR hg cs x.2⟩
theorem Frz.hsl {g : Nat → Option Blk} {id len : Nat} {cells cells' : List AV} {bt : TypeId} (hg : g id = some (.box cells bt)) (hl : cells.length = len) (hl' : cells'.length = len) (h : FrzL g cells cells') : Frz g (.hsl id 0 len len) (.sl len cells' .unk) := fun O S hR hS c x => by
 simp only [VRel] at x ⊢
 obtain ⟨b, wm, hi, _, hc⟩ := x
 refine ⟨_, len, hc, Nat.le_refl _, .inr ⟨b, 0, rfl, ?_, ?_⟩, trivial⟩
 ·obtain ⟨B, hB, hrel⟩ := hR.blk id b wm hi
  rw [hS _ _ hg] at hB; cases hB
  obtain ⟨C, hC, hcells⟩ := hrel
  have hlen := hcells.length
  refine ⟨C, bt, (0, 0), hC, by simp at hlen; omega, fun id wm e => by simp [cutι] at e, fun y hy => ?_⟩
  exact absurd hi ((hR.out b y hy).2 id wm)
 ·obtain ⟨B, hB, hrel⟩ := hR.blk id b wm hi
  rw [hS _ _ hg] at hB; cases hB
  obtain ⟨C, hC, hcells⟩ := hrel
  refine VRow.of_vals b (h O S hR hS _ hcells) fun i v hv => ?_
  rw [cell_eq]
  show (match S.w.heap[b]? with | some (.cells c _ _) => c[0 + i]? | _ => none) = _
  rw [hC]
  simpa using hv
theorem fn_ruleH {P : Program} {m : Bool} {f : FuncId} {fn : Func} {c : Code} {args : List AV} {v : AV} (hm : P.follows .mixedOrders = true) (hf : P.funcs[f]? = some fn) (hb : fn.body = some c) (hn : args.length ≤ fn.ntmps)
  (ha : AV.unders 0 args) (hv : v.under 0)
  (h : gCode P m fn.ntmps none c (initVars 0 args) .nil 0 [] noLo fun x e _ => (x = .ret ∨ x = .normal) ∧ e.defs = [] ∧ ∃ vs, resT P (get e.t) e.vars fn.results.toList = some vs ∧ Frz (get e.t) (resV vs) v) (H : List Blk) : ACall P f args H (.ret v) H := by
 obtain ⟨x, e, lo, H', hH', hk', hrun, hx, hd, vs, hres, hfr⟩ := gCode_spec hm c _ _ _ _ _ _ h [] [] HT.nil (Keep.refl _ _)
 have hcr : ACall P f args [] (.ret (resV vs)) H' := by
  rw [hd] at hrun
  exact ACall.intro_marks hf hb hn hrun hx List.nodup_nil (resT_sound hH' hres)
 have h1 : ACall P f args [] (.ret v) [] := by
  intro O ι w cs hR hargs
  refine (hcr O ι w cs hR hargs).mono ?_
  rintro e w' ⟨ι', hend, hR', hev, hnon⟩
  cases e with
  | panicked chain => exact hend.elim
  | outgrown => exact hend.elim
  | returned c =>
   have hev2 := hev.cut
   have hnon2 := hnon.cut
   refine ⟨cutι ι' 0, hfr O ⟨H', ι', w'⟩ hR' hH'.blk c hend, ⟨fun id b wm e => by simp [cutι] at e, fun i j b wm wm' ei _ => by simp [cutι] at ei, fun b x e => ⟨(hR'.out b x e).1, fun i wm h => by simp [cutι] at h⟩, hR'.tab⟩, hev2, hnon2⟩
 exact ACall.frame_nil (r := .ret v) h1 ha hv H
theorem zeros_cells (x : Value) : ∀ k, (zeros [x] k).map AV.lit = cellsR k fun _ => .lit x := fun k => by
 have e : zeros [x] k = List.replicate k x := by
  induction k with
  | zero => rfl
  | succ k ih =>
   show [x] ++ zeros [x] k = _
   rw [ih]; rfl
 rw [e, List.map_replicate]
 unfold cellsR
 rw [List.map_const', List.length_range]
theorem aop_makeSlice {P : Program} {m : Bool} {g : Nat → Option Blk} {n : Nat} {ρ : Operand → Option AV} {o : Oper} {t e : TypeId} {l c : Operand} {k bytes : Nat} {a : Int} {z x : Value} (ho : o.op = .makeSlice t l c) (hl : ρ l = some (n' a)) (hc : ρ c = some (n' a)) (ha : a = k) (hk : k ≤ 65536)
  (h1 : tslice P t = some e) (h2 : tsz P e = some 1) (h3 : tz P e = some z) (h4 : tbytes P e = some bytes) (h5 : z.cells = #[x]) (h6 : bytes ≤ 65536) :
  aopF P m g n ρ o = some (.val (.hsl n 0 k k) (.push (.box (cellsR k fun _ => .lit x) e))) := by
 subst ha
 rw [aopF_fun]
 obtain ⟨dst, op, ty, pos, after, guard⟩ := o
 simp only at ho
 subst ho
 have hm : makeSliceA P t (n' (k : Int)) (n' (k : Int)) = some (k, k, e, (zeros [x] k).map .lit) := by
  simp only [makeSliceA, n', h1, h2, h3, h4, h5]
  rw [if_pos ⟨rfl, by omega, by omega, by omega, by omega, h6⟩, Int.toNat_natCast]
 simp only [aopT, hl, hc, hm, Option.map_some, zeros_cells]
theorem aop_indexH {P : Program} {m : Bool} {g : Nat → Option Blk} {n : Nat} {ρ : Operand → Option AV} {o : Oper} {t elem : TypeId} {x i : Operand} {id off len cap sz r : Nat} {a : Int} (ho : o.op = .indexAddr t x i) (hx : ρ x = some (.hsl id off len cap)) (hi : ρ i = some (n' a)) (ha : a = r) (hr : r < len)
  (hu : P.underlying t = some (.slice elem)) (hs : tsz P elem = some sz) : aopF P m g n ρ o = some (.val (.ptr id (off + r * sz)) .same) := by
 subst ha
 obtain ⟨dst, op, ty, pos, after, guard⟩ := o
 simp only at ho
 subst ho
 have h := index_hsl (P := P) (t := t) (id := id) (off := off) (len := len) (cap := cap) (k := .i64) (i := (r : Int)) hu hs ⟨by omega, by omega⟩
 rw [Int.toNat_natCast] at h
 show sameR (onAV (fun a => onAV (fun b => indexOp P t a b) (ρ i)) (ρ x)) = _
 rw [hx, hi]
 show sameR (indexOp P t (.hsl id off len cap) (.lit (.int .i64 r))) = _
 rw [h]
 rfl
theorem aop_stP {P : Program} {m : Bool} {g : Nat → Option Blk} {n : Nat} {ρ : Operand → Option AV} {o : Oper} {t : TypeId} {x y : Operand} {a u : AV} {d : Dl} (ho : o.op = .store t x y) (hx : ρ x = some a) (hy : ρ y = some u) (h : storeT P g t a u = some d) :
  aopF P m g n ρ o = some (.val (.lit undef) d) := by
 rw [aopF_fun]
 obtain ⟨dst, op, ty, pos, after, guard⟩ := o
 simp only at ho
 subst ho
 simp only [aopT, hx, hy, h]
 rfl
end Go.Vm

namespace Go.Vm
open Go.Proofs
abbrev FigC := Int × Int × Int
structure ChestD where
 room : Int
 depth : Int
 figs : List FigC
def figOk (f : FigC) : Prop := (1 ≤ f.1 ∧ f.1 ≤ 9) ∧ (1 ≤ f.2.1 ∧ f.2.1 ≤ 5) ∧ 0 ≤ f.2.2 ∧ f.2.2 ≤ 5
instance (f : FigC) : Decidable (figOk f) := by unfold figOk; exact inferInstance
def chestOk (c : ChestD) : Prop := (1 ≤ c.room ∧ c.room ≤ 20) ∧ (1 ≤ c.depth ∧ c.depth ≤ 5) ∧ c.figs.length ≤ 6 ∧ ∀ f ∈ c.figs, figOk f
instance (c : ChestD) : Decidable (chestOk c) := by unfold chestOk; exact inferInstance
def packOk (c : ChestD) (p : List Int) : Prop := p.length = c.figs.length ∧ ∀ n ∈ p, 0 ≤ n ∧ n ≤ c.depth - 1
instance (c : ChestD) (p : List Int) : Decidable (packOk c p) := by unfold packOk; exact inferInstance
end Go.Vm
