/-
  Texts of the proof, part 15: the machine, contracts of functions, plain laws. (Own work.)
-/
import Derived.Test.YtkkpcbklhkfohaaGreatG11TopChorus
import Derived.Laws.Runes
import Derived.KernelRfl

namespace Go.Vm
open Go.Proofs
theorem ltb {a b : Nat} (h : Nat.blt a b = true) : a < b := Nat.le_of_ble_eq_true h
theorem leb {a b : Nat} (h : Nat.ble a b = true) : a ≤ b := Nat.le_of_ble_eq_true h
theorem fits64 {n : Int} (h : -9223372036854775808 ≤ n ∧ n < 9223372036854775808) : fitsK .i64 n := by
 unfold fitsK
 simp only [IntKind.wrap, IntKind.bits, IntKind.signed]
 simp
 omega
theorem appT_own {P : Program} {g : Nat → Option Blk} {n sT xT e size bytes len k id gen : Nat} {z : Value} {cells new : List AV} {x : AV} (h1 : tslice P sT = some e) (h2 : tsz P e = some size) (h3 : tz P e = some z) (h4 : tbytes P e = some bytes)
  (h5 : (tsrc P xT && (decide (bytes ≤ 2097152) && decide (z.cells.size = size))) = true) (h6 : srcT g size x = some (k, new)) (h7 : 0 < k) (h8 : cells.length = len * size) (h9 : len + k ≤ 2097152) (h10 : g id = some (.row gen)) (h11 : new.all AV.one = true) :
  appT P false g n sT xT (.sl len cells (.own id gen size)) x = some (.sl (len + k) (cells ++ new) (.own id (gen + 1) size), .set id (.row (gen + 1))) := by
 unfold appT
 simp only [h1, h2, h3, h4, h5, h6, h10, h11, if_true]
 rw [if_neg (by omega), if_pos ⟨h8, h9⟩, if_pos ⟨trivial, trivial, trivial⟩]
theorem ex_app {x : Option (AV × Dl)} {K : DR → Prop} (v : AV) (d : Dl) (h : x = some (v, d)) (k : K (.val v d)) : Ex (x.map fun p => DR.val p.1 p.2) K :=
 ⟨_, by rw [h]; rfl, k⟩
theorem CallG.bool {P : Program} {f : FuncId} {args : List AV} {t : Trie Blk} {n : Nat} {K Kp : AV → Trie Blk → Nat → Nat → Prop} {p : Prop} [Decidable p] (h : ∀ H, ACall P f args H (.ret (.lit (.bool (decide p)))) H)
  (k1 : p → K (.lit (.bool true)) t n noLo) (k2 : ¬ p → K (.lit (.bool false)) t n noLo) : CallG P f args t n K Kp := by
 by_cases hp : p
 ·rw [decide_eq_true hp] at h; exact .pure _ h (k1 hp)
 ·rw [decide_eq_false hp] at h; exact .pure _ h (k2 hp)
theorem FinG.bool {P : Program} {rs : List ResultVar} {e : ES} {p : Prop} [Decidable p] {b : Bool} (h : resT P (get e.t) e.vars rs = some [.lit (.bool b)]) (hd : e.defs = []) (hb : p ↔ b = true) : FinG P rs e (.lit (.bool (decide p))) := by
 refine ⟨_, h, hd, ?_⟩
 show AV.lit (.bool b) = _
 cases b with
 | true => rw [decide_eq_true (hb.2 rfl)]
 | false => rw [decide_eq_false (fun x => by cases hb.1 x)]
theorem FinG.yes {P : Program} {rs : List ResultVar} {e : ES} {p : Prop} [Decidable p] (h : resT P (get e.t) e.vars rs = some [.lit (.bool true)]) (hd : e.defs = []) (hb : p) : FinG P rs e (.lit (.bool (decide p))) := .bool h hd ⟨fun _ => rfl, fun _ => hb⟩
theorem FinG.no {P : Program} {rs : List ResultVar} {e : ES} {p : Prop} [Decidable p] (h : resT P (get e.t) e.vars rs = some [.lit (.bool false)]) (hd : e.defs = []) (hb : ¬ p) : FinG P rs e (.lit (.bool (decide p))) := .bool h hd ⟨fun x => absurd x hb, fun x => by cases x⟩
theorem Weak.of_eq {t : Trie Blk} {v v' : AV} (h : v = v') : Weak t v v' := h ▸ Weak.refl t v
theorem at_ints {P : Program} {t : TypeId} (hu : P.underlying t = some (.slice 3)) (hs : tsz P 3 = some 1) {l : List Int} {tl : Tail} {i : Int} {r : Nat} (hi : i = r) (h : r < l.length) : indexOp P t (.sl l.length (l.map n') tl) (.lit (.int .i64 i)) = some (.eptr [n' l[r]]) := by
 subst hi
 refine (indexOp_sl hu hs ⟨by omega, by omega, by rw [List.length_map]; omega, by omega⟩).trans ?_
 rw [Int.toNat_natCast]
 exact congrArg (fun x => some (AV.eptr x)) (map_at (List.getElem?_eq_getElem _))
end Go.Vm

namespace Go.Vm
open Go.Proofs
theorem ix_ints {l : List Int} {tl : Tail} {i : Int} {r : Nat} (hi : i = r) (h : r < l.length) : indexOp Tryz.prog 30 (.sl l.length (l.map n') tl) (.lit (.int .i64 i)) = some (.eptr [n' l[r]]) :=
 at_ints (by kernel_rfl) (by kernel_rfl) hi h
theorem ix_one {α : Type} {P : Program} {t e : TypeId} {f : α → AV} (hu : P.underlying t = some (.slice e)) (hs : tsz P e = some 1) {l : List α} {tl : Tail} {i : Int} {r : Nat} (hi : i = r) (h : r < l.length) : indexOp P t (.sl l.length (l.map f) tl) (.lit (.int .i64 i)) = some (.eptr [f l[r]]) := by
 subst hi
 refine (indexOp_sl hu hs ⟨by omega, by omega, by rw [List.length_map]; omega, by omega⟩).trans ?_
 rw [Int.toNat_natCast]
 exact congrArg (fun x => some (AV.eptr x)) (map_at (List.getElem?_eq_getElem _))
theorem ix_versions {l : List Vers} {tl : Tail} {i : Int} {r : Nat} (hi : i = r) (h : r < l.length) : indexOp Tryz.prog 50 (.sl l.length (l.map eStates) tl) (.lit (.int .i64 i)) = some (.eptr [eStates l[r]]) :=
 ix_one (e := 48) (by kernel_rfl) (by kernel_rfl) hi h
theorem ix_states {l : Vers} {tl : Tail} {i : Int} {r : Nat} (hi : i = r) (h : r < l.length) : indexOp Tryz.prog 46 (.sl l.length (l.map eState) tl) (.lit (.int .i64 i)) = some (.eptr [eState l[r]]) :=
 ix_one (e := 65) (by kernel_rfl) (by kernel_rfl) hi h
theorem ix_moves {l : List Move} {tl : Tail} {i : Int} {r : Nat} (hi : i = r) (h : r < l.length) : indexOp Tryz.prog 65 (.sl l.length (l.flatMap eMove) tl) (.lit (.int .i64 i)) = some (.eptr (eMove l[r])) := by
 subst hi
 refine (indexOp_sl (elem := 67) (n := 2) (by kernel_rfl) (by kernel_rfl) ⟨by omega, by omega, by rw [flat_length, Int.toNat_natCast]; omega, by omega⟩).trans ?_
 rw [Int.toNat_natCast, flat_at (List.getElem?_eq_getElem h)]
theorem flat2_length {α : Type} {f : α → List AV} (hf : ∀ a, (f a).length = 2) : ∀ (s : List α), (s.flatMap f).length = s.length * 2
 | [] => rfl
 | m :: s => by
  rw [List.flatMap_cons, List.length_append, flat2_length hf s, List.length_cons, hf]
  omega
theorem flat2_at {α : Type} {f : α → List AV} (hf : ∀ a, (f a).length = 2) : ∀ {s : List α} {j : Nat} {m : α}, s[j]? = some m → ((s.flatMap f).drop (j * 2)).take 2 = f m
 | [], _, _, h => by simp at h
 | m :: s, 0, m', h => by
  simp at h; subst h
  rw [List.flatMap_cons, Nat.zero_mul, List.drop_zero, List.take_append_of_le_length (by rw [hf]; omega), List.take_of_length_le (by rw [hf]; omega)]
 | m :: s, j + 1, m', h => by
  rw [List.flatMap_cons, List.drop_append, List.drop_eq_nil_of_le (by rw [hf]; omega), hf, List.nil_append]
  have e : (j + 1) * 2 - 2 = j * 2 := by omega
  rw [e]
  exact flat2_at hf (by simpa using h)
theorem ix_evenings {l : List Evening} {tl : Tail} {i : Int} {r : Nat} (hi : i = r) (h : r < l.length) : indexOp Tryz.prog 73 (.sl l.length (l.flatMap cEvening) tl) (.lit (.int .i64 i)) = some (.eptr (cEvening l[r])) := by
 subst hi
 refine (indexOp_sl (elem := 135) (n := 2) (by kernel_rfl) (by kernel_rfl) ⟨by omega, by omega, by rw [flat2_length (fun _ => rfl), Int.toNat_natCast]; omega, by omega⟩).trans ?_
 rw [Int.toNat_natCast, flat2_at (fun _ => rfl) (List.getElem?_eq_getElem h)]
theorem take_snoc {α : Type} {l : List α} {r : Nat} (h : r < l.length) : l.take (r + 1) = l.take r ++ [l[r]] := by
 rw [List.take_add_one, List.getElem?_eq_getElem h]; rfl
theorem all_snoc {α : Type} {l : List α} {p : α → Prop} {r : Nat} (h : r < l.length) (hI : ∀ x ∈ l.take r, p x) (hp : p l[r]) : ∀ x ∈ l.take (r + 1), p x := by
 intro x hx
 rw [take_snoc h] at hx
 rcases List.mem_append.1 hx with hx | hx
 ·exact hI x hx
 ·rw [List.mem_singleton] at hx; subst hx; exact hp
theorem all_end {α : Type} {l : List α} {p : α → Prop} {r : Nat} (h : l.length ≤ r) (hI : ∀ x ∈ l.take r, p x) : ∀ x ∈ l, p x := by
 rwa [List.take_of_length_le h] at hI
def inI (a b c : Int) : Prop := b ≤ a ∧ a ≤ c
instance (a b c : Int) : Decidable (inI a b c) := by unfold inI; infer_instance
def StOk (b : Book) (v : Vers) (s : List Move) : Prop := (s.length : Int) = b.cues ∧ ∀ m ∈ s, inI m.1 0 (v.length - 1) ∧ inI m.2 0 (b.tunes - 1)
def VOk (b : Book) (v : Vers) : Prop := (∀ s ∈ v, StOk b v s) ∧ inI v.length 1 4
def BOk (b : Book) : Prop := (inI b.cues 1 4 ∧ inI b.tunes 1 6 ∧ inI b.vs.length 1 4) ∧ ∀ v ∈ b.vs, VOk b v
def LCues (b : Book) (l : List Int) : Prop := ∀ c ∈ l, inI c 0 (b.cues - 1)
def LList (b : Book) (l : List Int) : Prop := (l.length : Int) ≤ 8 ∧ LCues b l
def LTunes (b : Book) (l : List Int) : Prop := (∀ c ∈ l, c ≠ -1 → inI c 0 (b.tunes - 1)) ∧ (l.length : Int) ≤ 8
def EvOk (b : Book) (e : Evening) : Prop := (LList b e.1 ∧ LTunes b e.2) ∧ (e.1.length : Int) = e.2.length
def EvsOk (b : Book) (l : List Evening) : Prop := (∀ e ∈ l, EvOk b e) ∧ (l.length : Int) ≤ 4
instance (b : Book) (v : Vers) (s : List Move) : Decidable (StOk b v s) := by unfold StOk; infer_instance
instance (b : Book) (v : Vers) : Decidable (VOk b v) := by unfold VOk; infer_instance
instance (b : Book) : Decidable (BOk b) := by unfold BOk; infer_instance
instance (b : Book) (l : List Int) : Decidable (LCues b l) := by unfold LCues; infer_instance
instance (b : Book) (l : List Int) : Decidable (LList b l) := by unfold LList; infer_instance
instance (b : Book) (l : List Int) : Decidable (LTunes b l) := by unfold LTunes; infer_instance
instance (b : Book) (e : Evening) : Decidable (EvOk b e) := by unfold EvOk; infer_instance
instance (b : Book) (l : List Evening) : Decidable (EvsOk b l) := by unfold EvsOk; infer_instance
def BFit (b : Book) : Prop := -9223372036854775808 < b.cues ∧ b.cues < 9223372036854775808 ∧ -9223372036854775808 < b.tunes ∧ b.tunes < 9223372036854775808 ∧ b.vs.length < 4611686018427387904
def bBox (b : Book) : Blk := .box [n' b.cues, n' b.tunes, eVersions b.vs] 52
theorem bBox_under (n : Nat) (b : Book) : (bBox b).under n := under_eBook n b
def sameS (a b : List Int) (r : Nat) : List (Nat × AV) := [(0, eInts a), (1, eInts b), (5, n' r)]
set_option maxRecDepth 100000 in
theorem c_same (a b : List Int) (ha : a.length < 9223372036854775808) (H : List Blk) : ACall Tryz.prog 9 [eInts a, eInts b] H (.ret (.lit (.bool (decide (a = b))))) H := by
 refine fn_rule (m := false) (fn := Tryz.f9) (c := (Tryz.f9.body).getD .skip) mixed (by kernel_rfl) (by kernel_rfl) (of_decide_eq_true (by kernel_rfl)) ?_ ?_ ?_ H
 ·exact ⟨under_eInts 0 _, under_eInts 0 _, trivial⟩
 ·trivial
 ·refine If.mk (fun h => ?_) (fun h => ?_)
  ·refine ifN ?_
   have hl : a.length = b.length := by omega
   refine LoopG.at (n0 := 0) rfl (loop_up mixed (m := false) (sameS a b) (fun _ => []) (fun r => a.take r = b.take r) a.length 0 (Nat.zero_le _) rfl ?_ trivial ?_)
   ·exact ⟨⟨_, rfl, Weak.refl _ _, under_eInts _ _⟩, ⟨_, rfl, Weak.refl _ _, under_eInts _ _⟩, wp rfl trivial, trivial⟩
   ·intro r hr hI
    refine If.mk (fun h1 => ?_) (fun h1 => ?_)
    ·refine ifY ?_
     refine Ex.mk _ (ix_ints (r := r) rfl (by omega)) ?_
     refine Ex.mk _ rfl ?_
     refine Ex.mk _ (ix_ints (r := r) rfl (by omega)) ?_
     refine Ex.mk _ rfl ?_
     refine If.mk (fun h2 => ?_) (fun h2 => ?_)
     ·refine ifN ?_
      refine Side.mk (fits64 (by omega)) ?_
      refine ⟨Nat.zero_le _, rfl, by omega, ?_, ⟨⟨_, rfl, Weak.refl _ _, under_eInts _ _⟩, ⟨_, rfl, Weak.refl _ _, under_eInts _ _⟩, wp rfl trivial, trivial⟩, trivial, trivial⟩
      show a.take (r + 1) = b.take (r + 1)
      rw [take_snoc (by omega), take_snoc (by omega), hI, h2]
     ·refine ifY ?_
      refine ⟨Nat.zero_le _, .inl rfl, FinG.no rfl rfl ?_⟩
      rintro rfl; exact h2 rfl
    ·refine ifN ?_
     have e : r = a.length := by omega
     subst e
     refine ⟨Nat.zero_le _, .inl rfl, FinG.yes rfl rfl ?_⟩
     rw [List.take_length, hl, List.take_length] at hI
     exact hI
  ·refine ifY ?_
   refine ⟨.inl rfl, FinG.no rfl rfl ?_⟩
   rintro rfl; exact h rfl
set_option maxRecDepth 100000 in
theorem c_rin (a b c : Int) (H : List Blk) : ACall Tryz.prog 55 [n' a, n' b, n' c] H (.ret (.lit (.bool (decide (inI a b c))))) H := by
 refine fn_rule (m := false) (fn := Tryz.f55) (c := (Tryz.f55.body).getD .skip) mixed (by kernel_rfl) (by kernel_rfl) (of_decide_eq_true (by kernel_rfl)) ?_ ?_ ?_ H
 ·exact ⟨trivial, trivial, trivial, trivial⟩
 ·trivial
 ·refine If.mk (fun h => ?_) (fun h => ?_)
  ·refine If.mk (fun h2 => ?_) (fun h2 => ?_)
   ·exact ⟨.inl rfl, FinG.yes rfl rfl (⟨h, h2⟩)⟩
   ·exact ⟨.inl rfl, FinG.no rfl rfl (fun e => h2 e.2)⟩
  ·exact ⟨.inl rfl, FinG.no rfl rfl (fun e => h e.1)⟩
set_option maxRecDepth 100000 in
theorem c_cue {b : Book} (hb : BFit b) (n : Int) (H : List Blk) : ACall Tryz.prog 18 [eBook b, n' n] H (.ret (.lit (.bool (decide (inI n 0 (b.cues - 1)))))) H := by
 obtain ⟨hb1, hb2, hb3, hb4, hb5⟩ := hb
 refine fn_rule (m := false) (fn := Tryz.f18) (c := (Tryz.f18.body).getD .skip) mixed (by kernel_rfl) (by kernel_rfl) (of_decide_eq_true (by kernel_rfl)) ?_ ?_ ?_ H
 ·exact ⟨under_eBook 0 _, trivial, trivial⟩
 ·trivial
 ·refine Side.mk (fits64 (by omega)) ?_
  refine CallG.pure _ (c_rin _ _ _) ?_
  exact ⟨.inl rfl, FinG.mk _ rfl rfl rfl⟩
set_option maxRecDepth 100000 in
theorem c_tune {b : Book} (hb : BFit b) (n : Int) (H : List Blk) : ACall Tryz.prog 79 [eBook b, n' n] H (.ret (.lit (.bool (decide (inI n 0 (b.tunes - 1)))))) H := by
 obtain ⟨hb1, hb2, hb3, hb4, hb5⟩ := hb
 refine fn_rule (m := false) (fn := Tryz.f79) (c := (Tryz.f79.body).getD .skip) mixed (by kernel_rfl) (by kernel_rfl) (of_decide_eq_true (by kernel_rfl)) ?_ ?_ ?_ H
 ·exact ⟨under_eBook 0 _, trivial, trivial⟩
 ·trivial
 ·refine Side.mk (fits64 (by omega)) ?_
  refine CallG.pure _ (c_rin _ _ _) ?_
  exact ⟨.inl rfl, FinG.mk _ rfl rfl rfl⟩
set_option maxRecDepth 100000 in
theorem c_version {b : Book} (hb : BFit b) (n : Int) (H : List Blk) : ACall Tryz.prog 28 [eBook b, n' n] H (.ret (.lit (.bool (decide (inI n 0 (b.vs.length - 1)))))) H := by
 obtain ⟨hb1, hb2, hb3, hb4, hb5⟩ := hb
 refine fn_rule (m := false) (fn := Tryz.f28) (c := (Tryz.f28.body).getD .skip) mixed (by kernel_rfl) (by kernel_rfl) (of_decide_eq_true (by kernel_rfl)) ?_ ?_ ?_ H
 ·exact ⟨under_eBook 0 _, trivial, trivial⟩
 ·trivial
 ·refine Side.mk (fits64 (by omega)) ?_
  refine CallG.pure _ (c_rin _ _ _) ?_
  exact ⟨.inl rfl, FinG.mk _ rfl rfl rfl⟩
set_option maxRecDepth 100000 in
theorem c_cues {b : Book} (hb : BFit b) (l : List Int) (hl : l.length < 9223372036854775808) (H : List Blk) : ACall Tryz.prog 74 [eBook b, eInts l] H (.ret (.lit (.bool (decide (LCues b l))))) H := by
 refine fn_rule (m := false) (fn := Tryz.f74) (c := (Tryz.f74.body).getD .skip) mixed (by kernel_rfl) (by kernel_rfl) (of_decide_eq_true (by kernel_rfl)) ?_ ?_ ?_ H
 ·exact ⟨under_eBook 0 _, under_eInts 0 _, trivial⟩
 ·trivial
 ·refine LoopG.at (n0 := 1) rfl (loop_up mixed (m := false) (fun r => [(1, eInts l), (2, .ptr 0 0), (5, n' r)]) (fun _ => [(0, bBox b)]) (fun r => ∀ x ∈ l.take r, inI x 0 (b.cues - 1)) l.length 0 (Nat.zero_le _) (fun _ h => by simp at h) ?_ ?_ ?_)
  ·exact ⟨⟨_, rfl, Weak.refl _ _, under_eInts _ _⟩, wp rfl (ltb rfl), wp rfl trivial, trivial⟩
  ·exact ⟨bk rfl rfl, trivial⟩
  ·intro r hr hI
   refine If.mk (fun h1 => ?_) (fun h1 => ?_)
   ·refine ifY ?_
    refine Ex.mk _ (ix_ints (r := r) rfl (by omega)) ?_
    refine Ex.mk _ rfl ?_
    refine CallG.bool (c_cue hb _) (fun h => ?_) (fun h => ?_)
    ·refine ifN ?_
     refine Side.mk (fits64 (by omega)) ?_
     exact ⟨Nat.zero_le _, rfl, by omega, all_snoc (by omega) hI h, ⟨⟨_, rfl, Weak.refl _ _, under_eInts _ _⟩, wp rfl (ltb rfl), wp rfl trivial, trivial⟩, ⟨bk rfl rfl, trivial⟩, trivial⟩
    ·refine ifY ?_
     exact ⟨Nat.zero_le _, .inl rfl, FinG.no rfl rfl (fun e => h (e _ (List.getElem_mem _)))⟩
   ·refine ifN ?_
    exact ⟨Nat.zero_le _, .inl rfl, FinG.yes rfl rfl (all_end (by omega) hI)⟩
set_option maxRecDepth 100000 in
theorem c_list {b : Book} (hb : BFit b) (l : List Int) (hl : l.length < 9223372036854775808) (H : List Blk) : ACall Tryz.prog 25 [eBook b, eInts l] H (.ret (.lit (.bool (decide (LList b l))))) H := by
 refine fn_rule (m := false) (fn := Tryz.f25) (c := (Tryz.f25.body).getD .skip) mixed (by kernel_rfl) (by kernel_rfl) (of_decide_eq_true (by kernel_rfl)) ?_ ?_ ?_ H
 ·exact ⟨under_eBook 0 _, under_eInts 0 _, trivial⟩
 ·trivial
 ·refine If.mk (fun h1 => ?_) (fun h1 => ?_)
  ·refine CallG.bool (c_cues hb _ hl) (fun h => ?_) (fun h => ?_)
   ·exact ⟨.inl rfl, FinG.yes rfl rfl (⟨h1, h⟩)⟩
   ·exact ⟨.inl rfl, FinG.no rfl rfl (fun e => h e.2)⟩
  ·exact ⟨.inl rfl, FinG.no rfl rfl (fun e => h1 e.1)⟩
end Go.Vm

namespace Go.Vm
open Go.Proofs
def idxOf {α : Type} (p : α → Prop) [DecidablePred p] : List α → Int
 | [] => -1
 | x :: l => if p x then 0 else if 0 ≤ idxOf p l then idxOf p l + 1 else -1
theorem idx_nonneg {α : Type} {p : α → Prop} [DecidablePred p] : ∀ {l : List α}, 0 ≤ idxOf p l ↔ ∃ x ∈ l, p x
 | [] => by simp [idxOf]
 | x :: l => by
  have ih := idx_nonneg (p := p) (l := l)
  unfold idxOf
  by_cases h : p x
  ·rw [if_pos h]
   exact ⟨fun _ => ⟨x, List.mem_cons_self, h⟩, fun _ => by omega⟩
  ·rw [if_neg h]
   by_cases h2 : 0 ≤ idxOf p l
   ·rw [if_pos h2]
    obtain ⟨y, hy, hp⟩ := ih.1 h2
    exact ⟨fun _ => ⟨y, List.mem_cons_of_mem _ hy, hp⟩, fun _ => by omega⟩
   ·rw [if_neg h2]
    refine ⟨fun x => by omega, fun ⟨y, hy, hp⟩ => ?_⟩
    rcases List.mem_cons.1 hy with rfl | hy
    ·exact absurd hp h
    ·exact absurd (ih.2 ⟨y, hy, hp⟩) h2
theorem idx_miss {α : Type} {p : α → Prop} [DecidablePred p] : ∀ {l : List α}, (∀ x ∈ l, ¬ p x) → idxOf p l = -1
 | [], _ => rfl
 | x :: l, h => by
  have ih := idx_miss (p := p) (l := l) (fun y hy => h y (List.mem_cons_of_mem _ hy))
  unfold idxOf
  rw [if_neg (h x List.mem_cons_self), if_neg (by omega)]
theorem idx_hit {α : Type} {p : α → Prop} [DecidablePred p] : ∀ {l : List α} {r : Nat} (hr : r < l.length), (∀ x ∈ l.take r, ¬ p x) → p l[r] → idxOf p l = r
 | [], r, hr, _, _ => by simp at hr
 | x :: l, 0, _, _, hp => by
  unfold idxOf
  have hp' : p x := hp
  rw [if_pos hp']; rfl
 | x :: l, r + 1, hr, h, hp => by
  have hr' : r < l.length := by simpa using hr
  have ih := idx_hit (p := p) (l := l) hr' (fun y hy => h y (by rw [List.take_succ_cons]; exact List.mem_cons_of_mem _ hy)) hp
  have hx : ¬ p x := h x (by rw [List.take_succ_cons]; exact List.mem_cons_self)
  unfold idxOf
  rw [if_neg hx, ih, if_pos (by omega)]
  omega
def eMoveA (m : Move) : AV := .agg (eMove m)
def clo (f : FuncId) (caps : List AV) : AV := .fn (.func f) [] caps
set_option maxRecDepth 100000 in
theorem c_indexV {L0 : List (Nat × Blk)} {n0 : Nat} (hn : n0 ≤ noLo) (hL0 : Blks (get (ofL L0)) n0 L0) (fc : FuncId) (caps : List AV) (hcaps : AV.unders n0 caps) (p : Vers → Prop) [DecidablePred p] (l : List (Vers)) (hl : l.length < 4611686018427387904) (hcal : callable Tryz.prog fc = true)
  (hf : ∀ x ∈ l, ∀ H, HT (ofL L0) n0 H → ACall Tryz.prog fc (eVersion x :: caps) H (.ret (.lit (.bool (decide (p x))))) H) (H : List Blk) (hH : HT (ofL L0) n0 H) : ACall Tryz.prog 156 [eVersions l, clo fc caps] H (.ret (n' (idxOf p l))) H := by
 refine fn_at (m := false) (fn := Tryz.f156) (c := (Tryz.f156.body).getD .skip) mixed (by kernel_rfl) (by kernel_rfl) (of_decide_eq_true (by kernel_rfl)) rfl ?_ H hH
 refine loop_up mixed (m := false) (fun r => [(0, eVersions l), (1, clo fc caps), (7, n' l.length), (8, n' r)]) (fun _ => L0) (fun r => ∀ x ∈ l.take r, ¬ p x) l.length noLo (leb rfl) (fun _ h => by simp at h) ?_ ?_ ?_
 ·exact ⟨⟨_, rfl, Weak.refl _ _, under_eVersions _ _⟩, ⟨_, rfl, Weak.refl _ _, ⟨trivial, by rw [AV.unders_mem] at hcaps ⊢; exact fun a ha => AV.under_mono hn a (hcaps a ha)⟩⟩, wp rfl trivial, wp rfl trivial, trivial⟩
 ·exact hL0.mono hn
 ·intro r hr hI
  refine If.mk (fun h1 => ?_) (fun h1 => ?_)
  ·refine ifY ?_
   refine Ex.mk _ (ix_versions (r := r) rfl (by omega)) ?_
   refine Ex.mk _ rfl ?_
   have hr' : r < l.length := by omega
   refine bif_mk hcal ?_
   refine CallG.atB (p := p l[r]) (hf _ (List.getElem_mem hr')) (fun h => ?_) (fun h => ?_)
   ·refine ifY ?_
    refine ⟨leb rfl, .inl rfl, hn, FinF.mk _ rfl rfl ?_⟩
    show n' (r : Nat) = _
    rw [idx_hit hr' hI h]
   ·refine ifN ?_
    refine Side.mk (fits64 (by omega)) ?_
    refine ⟨leb rfl, rfl, hr', all_snoc (p := fun x => ¬ p x) hr' hI h, ⟨⟨_, rfl, Weak.refl _ _, under_eVersions _ _⟩, ⟨_, rfl, Weak.refl _ _, ⟨trivial, hcaps⟩⟩, wp rfl trivial, wp rfl trivial, trivial⟩, hL0, ?_⟩
    rw [show n0 - noLo = 0 by omega]
    exact trivial
  ·refine ifN ?_
   refine ⟨leb rfl, .inl rfl, hn, FinF.mk _ rfl rfl ?_⟩
   show n' (-1) = _
   rw [idx_miss (all_end (p := fun x => ¬ p x) (by omega) hI)]
set_option maxRecDepth 100000 in
theorem c_containsV {L0 : List (Nat × Blk)} {n0 : Nat} (hn : n0 ≤ noLo) (hL0 : Blks (get (ofL L0)) n0 L0) (fc : FuncId) (caps : List AV) (hcaps : AV.unders n0 caps) (p : Vers → Prop) [DecidablePred p] (l : List (Vers)) (hl : l.length < 4611686018427387904) (hcal : callable Tryz.prog fc = true)
  (hf : ∀ x ∈ l, ∀ H, HT (ofL L0) n0 H → ACall Tryz.prog fc (eVersion x :: caps) H (.ret (.lit (.bool (decide (p x))))) H) (H : List Blk) (hH : HT (ofL L0) n0 H) : ACall Tryz.prog 104 [eVersions l, clo fc caps] H (.ret (.lit (.bool (decide (∃ x ∈ l, p x))))) H := by
 refine fn_at (m := false) (fn := Tryz.f104) (c := (Tryz.f104.body).getD .skip) mixed (by kernel_rfl) (by kernel_rfl) (of_decide_eq_true (by kernel_rfl)) rfl ?_ H hH
 refine CallG.at _ (c_indexV hn hL0 fc caps hcaps p l hl hcal hf) ?_
 refine If.mk (fun h1 => ?_) (fun h1 => ?_)
 ·refine ⟨.inl rfl, hn, FinF.bool rfl rfl ⟨fun _ => rfl, fun _ => idx_nonneg.1 h1⟩⟩
 ·refine ⟨.inl rfl, hn, FinF.bool rfl rfl ⟨fun x => absurd (idx_nonneg.2 x) h1, fun x => by cases x⟩⟩
set_option maxRecDepth 100000 in
theorem c_indexS {L0 : List (Nat × Blk)} {n0 : Nat} (hn : n0 ≤ noLo) (hL0 : Blks (get (ofL L0)) n0 L0) (fc : FuncId) (caps : List AV) (hcaps : AV.unders n0 caps) (p : List Move → Prop) [DecidablePred p] (l : List (List Move)) (hl : l.length < 4611686018427387904) (hcal : callable Tryz.prog fc = true)
  (hf : ∀ x ∈ l, ∀ H, HT (ofL L0) n0 H → ACall Tryz.prog fc (eState x :: caps) H (.ret (.lit (.bool (decide (p x))))) H) (H : List Blk) (hH : HT (ofL L0) n0 H) : ACall Tryz.prog 187 [eStates l, clo fc caps] H (.ret (n' (idxOf p l))) H := by
 refine fn_at (m := false) (fn := Tryz.f187) (c := (Tryz.f187.body).getD .skip) mixed (by kernel_rfl) (by kernel_rfl) (of_decide_eq_true (by kernel_rfl)) rfl ?_ H hH
 refine loop_up mixed (m := false) (fun r => [(0, eStates l), (1, clo fc caps), (7, n' l.length), (8, n' r)]) (fun _ => L0) (fun r => ∀ x ∈ l.take r, ¬ p x) l.length noLo (leb rfl) (fun _ h => by simp at h) ?_ ?_ ?_
 ·exact ⟨⟨_, rfl, Weak.refl _ _, under_states _ _⟩, ⟨_, rfl, Weak.refl _ _, ⟨trivial, by rw [AV.unders_mem] at hcaps ⊢; exact fun a ha => AV.under_mono hn a (hcaps a ha)⟩⟩, wp rfl trivial, wp rfl trivial, trivial⟩
 ·exact hL0.mono hn
 ·intro r hr hI
  refine If.mk (fun h1 => ?_) (fun h1 => ?_)
  ·refine ifY ?_
   refine Ex.mk _ (ix_states (r := r) rfl (by omega)) ?_
   refine Ex.mk _ rfl ?_
   have hr' : r < l.length := by omega
   refine bif_mk hcal ?_
   refine CallG.atB (p := p l[r]) (hf _ (List.getElem_mem hr')) (fun h => ?_) (fun h => ?_)
   ·refine ifY ?_
    refine ⟨leb rfl, .inl rfl, hn, FinF.mk _ rfl rfl ?_⟩
    show n' (r : Nat) = _
    rw [idx_hit hr' hI h]
   ·refine ifN ?_
    refine Side.mk (fits64 (by omega)) ?_
    refine ⟨leb rfl, rfl, hr', all_snoc (p := fun x => ¬ p x) hr' hI h, ⟨⟨_, rfl, Weak.refl _ _, under_states _ _⟩, ⟨_, rfl, Weak.refl _ _, ⟨trivial, hcaps⟩⟩, wp rfl trivial, wp rfl trivial, trivial⟩, hL0, ?_⟩
    rw [show n0 - noLo = 0 by omega]
    exact trivial
  ·refine ifN ?_
   refine ⟨leb rfl, .inl rfl, hn, FinF.mk _ rfl rfl ?_⟩
   show n' (-1) = _
   rw [idx_miss (all_end (p := fun x => ¬ p x) (by omega) hI)]
set_option maxRecDepth 100000 in
theorem c_containsS {L0 : List (Nat × Blk)} {n0 : Nat} (hn : n0 ≤ noLo) (hL0 : Blks (get (ofL L0)) n0 L0) (fc : FuncId) (caps : List AV) (hcaps : AV.unders n0 caps) (p : List Move → Prop) [DecidablePred p] (l : List (List Move)) (hl : l.length < 4611686018427387904) (hcal : callable Tryz.prog fc = true)
  (hf : ∀ x ∈ l, ∀ H, HT (ofL L0) n0 H → ACall Tryz.prog fc (eState x :: caps) H (.ret (.lit (.bool (decide (p x))))) H) (H : List Blk) (hH : HT (ofL L0) n0 H) : ACall Tryz.prog 157 [eStates l, clo fc caps] H (.ret (.lit (.bool (decide (∃ x ∈ l, p x))))) H := by
 refine fn_at (m := false) (fn := Tryz.f157) (c := (Tryz.f157.body).getD .skip) mixed (by kernel_rfl) (by kernel_rfl) (of_decide_eq_true (by kernel_rfl)) rfl ?_ H hH
 refine CallG.at _ (c_indexS hn hL0 fc caps hcaps p l hl hcal hf) ?_
 refine If.mk (fun h1 => ?_) (fun h1 => ?_)
 ·refine ⟨.inl rfl, hn, FinF.bool rfl rfl ⟨fun _ => rfl, fun _ => idx_nonneg.1 h1⟩⟩
 ·refine ⟨.inl rfl, hn, FinF.bool rfl rfl ⟨fun x => absurd (idx_nonneg.2 x) h1, fun x => by cases x⟩⟩
set_option maxRecDepth 100000 in
theorem c_indexM {L0 : List (Nat × Blk)} {n0 : Nat} (hn : n0 ≤ noLo) (hL0 : Blks (get (ofL L0)) n0 L0) (fc : FuncId) (caps : List AV) (hcaps : AV.unders n0 caps) (p : Move → Prop) [DecidablePred p] (l : List (Move)) (hl : l.length < 4611686018427387904) (hcal : callable Tryz.prog fc = true)
  (hf : ∀ x ∈ l, ∀ H, HT (ofL L0) n0 H → ACall Tryz.prog fc (eMoveA x :: caps) H (.ret (.lit (.bool (decide (p x))))) H) (H : List Blk) (hH : HT (ofL L0) n0 H) : ACall Tryz.prog 188 [eState l, clo fc caps] H (.ret (n' (idxOf p l))) H := by
 refine fn_at (m := false) (fn := Tryz.f188) (c := (Tryz.f188.body).getD .skip) mixed (by kernel_rfl) (by kernel_rfl) (of_decide_eq_true (by kernel_rfl)) rfl ?_ H hH
 refine loop_up mixed (m := false) (fun r => [(0, eState l), (1, clo fc caps), (7, n' l.length), (8, n' r)]) (fun _ => L0) (fun r => ∀ x ∈ l.take r, ¬ p x) l.length noLo (leb rfl) (fun _ h => by simp at h) ?_ ?_ ?_
 ·exact ⟨⟨_, rfl, Weak.refl _ _, under_state _ _⟩, ⟨_, rfl, Weak.refl _ _, ⟨trivial, by rw [AV.unders_mem] at hcaps ⊢; exact fun a ha => AV.under_mono hn a (hcaps a ha)⟩⟩, wp rfl trivial, wp rfl trivial, trivial⟩
 ·exact hL0.mono hn
 ·intro r hr hI
  refine If.mk (fun h1 => ?_) (fun h1 => ?_)
  ·refine ifY ?_
   refine Ex.mk _ (ix_moves (r := r) rfl (by omega)) ?_
   refine Ex.mk _ rfl ?_
   have hr' : r < l.length := by omega
   refine bif_mk hcal ?_
   refine CallG.atB (p := p l[r]) (hf _ (List.getElem_mem hr')) (fun h => ?_) (fun h => ?_)
   ·refine ifY ?_
    refine ⟨leb rfl, .inl rfl, hn, FinF.mk _ rfl rfl ?_⟩
    show n' (r : Nat) = _
    rw [idx_hit hr' hI h]
   ·refine ifN ?_
    refine Side.mk (fits64 (by omega)) ?_
    refine ⟨leb rfl, rfl, hr', all_snoc (p := fun x => ¬ p x) hr' hI h, ⟨⟨_, rfl, Weak.refl _ _, under_state _ _⟩, ⟨_, rfl, Weak.refl _ _, ⟨trivial, hcaps⟩⟩, wp rfl trivial, wp rfl trivial, trivial⟩, hL0, ?_⟩
    rw [show n0 - noLo = 0 by omega]
    exact trivial
  ·refine ifN ?_
   refine ⟨leb rfl, .inl rfl, hn, FinF.mk _ rfl rfl ?_⟩
   show n' (-1) = _
   rw [idx_miss (all_end (p := fun x => ¬ p x) (by omega) hI)]
set_option maxRecDepth 100000 in
theorem c_containsM {L0 : List (Nat × Blk)} {n0 : Nat} (hn : n0 ≤ noLo) (hL0 : Blks (get (ofL L0)) n0 L0) (fc : FuncId) (caps : List AV) (hcaps : AV.unders n0 caps) (p : Move → Prop) [DecidablePred p] (l : List (Move)) (hl : l.length < 4611686018427387904) (hcal : callable Tryz.prog fc = true)
  (hf : ∀ x ∈ l, ∀ H, HT (ofL L0) n0 H → ACall Tryz.prog fc (eMoveA x :: caps) H (.ret (.lit (.bool (decide (p x))))) H) (H : List Blk) (hH : HT (ofL L0) n0 H) : ACall Tryz.prog 159 [eState l, clo fc caps] H (.ret (.lit (.bool (decide (∃ x ∈ l, p x))))) H := by
 refine fn_at (m := false) (fn := Tryz.f159) (c := (Tryz.f159.body).getD .skip) mixed (by kernel_rfl) (by kernel_rfl) (of_decide_eq_true (by kernel_rfl)) rfl ?_ H hH
 refine CallG.at _ (c_indexM hn hL0 fc caps hcaps p l hl hcal hf) ?_
 refine If.mk (fun h1 => ?_) (fun h1 => ?_)
 ·refine ⟨.inl rfl, hn, FinF.bool rfl rfl ⟨fun _ => rfl, fun _ => idx_nonneg.1 h1⟩⟩
 ·refine ⟨.inl rfl, hn, FinF.bool rfl rfl ⟨fun x => absurd (idx_nonneg.2 x) h1, fun x => by cases x⟩⟩
set_option maxRecDepth 100000 in
theorem c_indexI {L0 : List (Nat × Blk)} {n0 : Nat} (hn : n0 ≤ noLo) (hL0 : Blks (get (ofL L0)) n0 L0) (fc : FuncId) (caps : List AV) (hcaps : AV.unders n0 caps) (p : Int → Prop) [DecidablePred p] (l : List (Int)) (hl : l.length < 4611686018427387904) (hcal : callable Tryz.prog fc = true)
  (hf : ∀ x ∈ l, ∀ H, HT (ofL L0) n0 H → ACall Tryz.prog fc (n' x :: caps) H (.ret (.lit (.bool (decide (p x))))) H) (H : List Blk) (hH : HT (ofL L0) n0 H) : ACall Tryz.prog 165 [eInts l, clo fc caps] H (.ret (n' (idxOf p l))) H := by
 refine fn_at (m := false) (fn := Tryz.f165) (c := (Tryz.f165.body).getD .skip) mixed (by kernel_rfl) (by kernel_rfl) (of_decide_eq_true (by kernel_rfl)) rfl ?_ H hH
 refine loop_up mixed (m := false) (fun r => [(0, eInts l), (1, clo fc caps), (7, n' l.length), (8, n' r)]) (fun _ => L0) (fun r => ∀ x ∈ l.take r, ¬ p x) l.length noLo (leb rfl) (fun _ h => by simp at h) ?_ ?_ ?_
 ·exact ⟨⟨_, rfl, Weak.refl _ _, under_eInts _ _⟩, ⟨_, rfl, Weak.refl _ _, ⟨trivial, by rw [AV.unders_mem] at hcaps ⊢; exact fun a ha => AV.under_mono hn a (hcaps a ha)⟩⟩, wp rfl trivial, wp rfl trivial, trivial⟩
 ·exact hL0.mono hn
 ·intro r hr hI
  refine If.mk (fun h1 => ?_) (fun h1 => ?_)
  ·refine ifY ?_
   refine Ex.mk _ (ix_ints (r := r) rfl (by omega)) ?_
   refine Ex.mk _ rfl ?_
   have hr' : r < l.length := by omega
   refine bif_mk hcal ?_
   refine CallG.atB (p := p l[r]) (hf _ (List.getElem_mem hr')) (fun h => ?_) (fun h => ?_)
   ·refine ifY ?_
    refine ⟨leb rfl, .inl rfl, hn, FinF.mk _ rfl rfl ?_⟩
    show n' (r : Nat) = _
    rw [idx_hit hr' hI h]
   ·refine ifN ?_
    refine Side.mk (fits64 (by omega)) ?_
    refine ⟨leb rfl, rfl, hr', all_snoc (p := fun x => ¬ p x) hr' hI h, ⟨⟨_, rfl, Weak.refl _ _, under_eInts _ _⟩, ⟨_, rfl, Weak.refl _ _, ⟨trivial, hcaps⟩⟩, wp rfl trivial, wp rfl trivial, trivial⟩, hL0, ?_⟩
    rw [show n0 - noLo = 0 by omega]
    exact trivial
  ·refine ifN ?_
   refine ⟨leb rfl, .inl rfl, hn, FinF.mk _ rfl rfl ?_⟩
   show n' (-1) = _
   rw [idx_miss (all_end (p := fun x => ¬ p x) (by omega) hI)]
set_option maxRecDepth 100000 in
theorem c_containsI {L0 : List (Nat × Blk)} {n0 : Nat} (hn : n0 ≤ noLo) (hL0 : Blks (get (ofL L0)) n0 L0) (fc : FuncId) (caps : List AV) (hcaps : AV.unders n0 caps) (p : Int → Prop) [DecidablePred p] (l : List (Int)) (hl : l.length < 4611686018427387904) (hcal : callable Tryz.prog fc = true)
  (hf : ∀ x ∈ l, ∀ H, HT (ofL L0) n0 H → ACall Tryz.prog fc (n' x :: caps) H (.ret (.lit (.bool (decide (p x))))) H) (H : List Blk) (hH : HT (ofL L0) n0 H) : ACall Tryz.prog 117 [eInts l, clo fc caps] H (.ret (.lit (.bool (decide (∃ x ∈ l, p x))))) H := by
 refine fn_at (m := false) (fn := Tryz.f117) (c := (Tryz.f117.body).getD .skip) mixed (by kernel_rfl) (by kernel_rfl) (of_decide_eq_true (by kernel_rfl)) rfl ?_ H hH
 refine CallG.at _ (c_indexI hn hL0 fc caps hcaps p l hl hcal hf) ?_
 refine If.mk (fun h1 => ?_) (fun h1 => ?_)
 ·refine ⟨.inl rfl, hn, FinF.bool rfl rfl ⟨fun _ => rfl, fun _ => idx_nonneg.1 h1⟩⟩
 ·refine ⟨.inl rfl, hn, FinF.bool rfl rfl ⟨fun x => absurd (idx_nonneg.2 x) h1, fun x => by cases x⟩⟩
set_option maxRecDepth 100000 in
theorem c_indexE {L0 : List (Nat × Blk)} {n0 : Nat} (hn : n0 ≤ noLo) (hL0 : Blks (get (ofL L0)) n0 L0) (fc : FuncId) (caps : List AV) (hcaps : AV.unders n0 caps) (p : Evening → Prop) [DecidablePred p] (l : List (Evening)) (hl : l.length < 4611686018427387904) (hcal : callable Tryz.prog fc = true)
  (hf : ∀ x ∈ l, ∀ H, HT (ofL L0) n0 H → ACall Tryz.prog fc (eEvening x :: caps) H (.ret (.lit (.bool (decide (p x))))) H) (H : List Blk) (hH : HT (ofL L0) n0 H) : ACall Tryz.prog 174 [eEvenings l, clo fc caps] H (.ret (n' (idxOf p l))) H := by
 refine fn_at (m := false) (fn := Tryz.f174) (c := (Tryz.f174.body).getD .skip) mixed (by kernel_rfl) (by kernel_rfl) (of_decide_eq_true (by kernel_rfl)) rfl ?_ H hH
 refine loop_up mixed (m := false) (fun r => [(0, eEvenings l), (1, clo fc caps), (7, n' l.length), (8, n' r)]) (fun _ => L0) (fun r => ∀ x ∈ l.take r, ¬ p x) l.length noLo (leb rfl) (fun _ h => by simp at h) ?_ ?_ ?_
 ·exact ⟨⟨_, rfl, Weak.refl _ _, under_eEvenings _ _⟩, ⟨_, rfl, Weak.refl _ _, ⟨trivial, by rw [AV.unders_mem] at hcaps ⊢; exact fun a ha => AV.under_mono hn a (hcaps a ha)⟩⟩, wp rfl trivial, wp rfl trivial, trivial⟩
 ·exact hL0.mono hn
 ·intro r hr hI
  refine If.mk (fun h1 => ?_) (fun h1 => ?_)
  ·refine ifY ?_
   refine Ex.mk _ (ix_evenings (r := r) rfl (by omega)) ?_
   refine Ex.mk _ rfl ?_
   have hr' : r < l.length := by omega
   refine bif_mk hcal ?_
   refine CallG.atB (p := p l[r]) (hf _ (List.getElem_mem hr')) (fun h => ?_) (fun h => ?_)
   ·refine ifY ?_
    refine ⟨leb rfl, .inl rfl, hn, FinF.mk _ rfl rfl ?_⟩
    show n' (r : Nat) = _
    rw [idx_hit hr' hI h]
   ·refine ifN ?_
    refine Side.mk (fits64 (by omega)) ?_
    refine ⟨leb rfl, rfl, hr', all_snoc (p := fun x => ¬ p x) hr' hI h, ⟨⟨_, rfl, Weak.refl _ _, under_eEvenings _ _⟩, ⟨_, rfl, Weak.refl _ _, ⟨trivial, hcaps⟩⟩, wp rfl trivial, wp rfl trivial, trivial⟩, hL0, ?_⟩
    rw [show n0 - noLo = 0 by omega]
    exact trivial
  ·refine ifN ?_
   refine ⟨leb rfl, .inl rfl, hn, FinF.mk _ rfl rfl ?_⟩
   show n' (-1) = _
   rw [idx_miss (all_end (p := fun x => ¬ p x) (by omega) hI)]
set_option maxRecDepth 100000 in
theorem c_containsE {L0 : List (Nat × Blk)} {n0 : Nat} (hn : n0 ≤ noLo) (hL0 : Blks (get (ofL L0)) n0 L0) (fc : FuncId) (caps : List AV) (hcaps : AV.unders n0 caps) (p : Evening → Prop) [DecidablePred p] (l : List (Evening)) (hl : l.length < 4611686018427387904) (hcal : callable Tryz.prog fc = true)
  (hf : ∀ x ∈ l, ∀ H, HT (ofL L0) n0 H → ACall Tryz.prog fc (eEvening x :: caps) H (.ret (.lit (.bool (decide (p x))))) H) (H : List Blk) (hH : HT (ofL L0) n0 H) : ACall Tryz.prog 129 [eEvenings l, clo fc caps] H (.ret (.lit (.bool (decide (∃ x ∈ l, p x))))) H := by
 refine fn_at (m := false) (fn := Tryz.f129) (c := (Tryz.f129.body).getD .skip) mixed (by kernel_rfl) (by kernel_rfl) (of_decide_eq_true (by kernel_rfl)) rfl ?_ H hH
 refine CallG.at _ (c_indexE hn hL0 fc caps hcaps p l hl hcal hf) ?_
 refine If.mk (fun h1 => ?_) (fun h1 => ?_)
 ·refine ⟨.inl rfl, hn, FinF.bool rfl rfl ⟨fun _ => rfl, fun _ => idx_nonneg.1 h1⟩⟩
 ·refine ⟨.inl rfl, hn, FinF.bool rfl rfl ⟨fun x => absurd (idx_nonneg.2 x) h1, fun x => by cases x⟩⟩
end Go.Vm

namespace Go.Vm
open Go.Proofs
set_option maxRecDepth 100000 in
theorem c_tunes {b : Book} (hb : BFit b) (l : List Int) (hl : l.length < 9223372036854775808) (H : List Blk) : ACall Tryz.prog 31 [eBook b, eInts l] H (.ret (.lit (.bool (decide (LTunes b l))))) H := by
 refine fn_rule (m := false) (fn := Tryz.f31) (c := (Tryz.f31.body).getD .skip) mixed (by kernel_rfl) (by kernel_rfl) (of_decide_eq_true (by kernel_rfl)) ?_ ?_ ?_ H
 ·exact ⟨under_eBook 0 _, under_eInts 0 _, trivial⟩
 ·trivial
 ·refine LoopG.at (n0 := 1) rfl (loop_up mixed (m := false) (fun r => [(1, eInts l), (2, .ptr 0 0), (5, n' r)]) (fun _ => [(0, bBox b)]) (fun r => ∀ x ∈ l.take r, x ≠ -1 → inI x 0 (b.tunes - 1)) l.length 0 (Nat.zero_le _) (fun _ h => by simp at h) ?_ ?_ ?_)
  ·exact ⟨⟨_, rfl, Weak.refl _ _, under_eInts _ _⟩, wp rfl (ltb rfl), wp rfl trivial, trivial⟩
  ·exact ⟨bk rfl rfl, trivial⟩
  ·intro r hr hI
   refine If.mk (fun h1 => ?_) (fun h1 => ?_)
   ·refine ifY ?_
    refine Ex.mk _ (ix_ints (r := r) rfl (by omega)) ?_
    refine Ex.mk _ rfl ?_
    have fin : (l[r] ≠ -1 → inI l[r] 0 (b.tunes - 1)) → ∀ x ∈ l.take (r + 1), x ≠ -1 → inI x 0 (b.tunes - 1) := fun h => all_snoc (p := fun x => x ≠ -1 → inI x 0 (b.tunes - 1)) (by omega) hI h
    refine If.mk (fun h2 => ?_) (fun h2 => ?_)
    ·refine ifN ?_
     refine Side.mk (fits64 (by omega)) ?_
     exact ⟨Nat.zero_le _, rfl, by omega, fin (fun h => absurd h2 h), ⟨⟨_, rfl, Weak.refl _ _, under_eInts _ _⟩, wp rfl (ltb rfl), wp rfl trivial, trivial⟩, ⟨bk rfl rfl, trivial⟩, trivial⟩
    ·refine Ex.mk _ (ix_ints (r := r) rfl (by omega)) ?_
     refine Ex.mk _ rfl ?_
     refine CallG.bool (c_tune hb _) (fun h => ?_) (fun h => ?_)
     ·refine ifN ?_
      refine Side.mk (fits64 (by omega)) ?_
      exact ⟨Nat.zero_le _, rfl, by omega, fin (fun _ => h), ⟨⟨_, rfl, Weak.refl _ _, under_eInts _ _⟩, wp rfl (ltb rfl), wp rfl trivial, trivial⟩, ⟨bk rfl rfl, trivial⟩, trivial⟩
     ·refine ifY ?_
      exact ⟨Nat.zero_le _, .inl rfl, FinG.no rfl rfl (fun e => h (e.1 _ (List.getElem_mem _) h2))⟩
   ·refine ifN ?_
    refine ⟨Nat.zero_le _, ?_⟩
    refine If.mk (fun h2 => ?_) (fun h2 => ?_)
    ·exact ⟨.inl rfl, FinG.yes rfl rfl (⟨all_end (by omega) hI, h2⟩)⟩
    ·exact ⟨.inl rfl, FinG.no rfl rfl (fun e => h2 e.2)⟩
set_option maxRecDepth 100000 in
theorem c_evening {b : Book} (hb : BFit b) (e : Evening) (hl : e.1.length < 9223372036854775808) (hl2 : e.2.length < 9223372036854775808) (H : List Blk) : ACall Tryz.prog 73 [eBook b, eEvening e] H (.ret (.lit (.bool (decide (EvOk b e))))) H := by
 refine fn_rule (m := false) (fn := Tryz.f73) (c := (Tryz.f73.body).getD .skip) mixed (by kernel_rfl) (by kernel_rfl) (of_decide_eq_true (by kernel_rfl)) ?_ ?_ ?_ H
 ·exact ⟨under_eBook 0 _, under_eEvening 0 _, trivial⟩
 ·trivial
 ·refine CallG.bool (c_list hb _ hl) (fun h => ?_) (fun h => ?_)
  ·refine CallG.bool (c_tunes hb _ hl2) (fun h2 => ?_) (fun h2 => ?_)
   ·refine If.mk (fun h3 => ?_) (fun h3 => ?_)
    ·exact ⟨.inl rfl, FinG.yes rfl rfl (⟨⟨h, h2⟩, h3⟩)⟩
    ·exact ⟨.inl rfl, FinG.no rfl rfl (fun x => h3 x.2)⟩
   ·exact ⟨.inl rfl, FinG.no rfl rfl (fun x => h2 x.1.2)⟩
  ·exact ⟨.inl rfl, FinG.no rfl rfl (fun x => h x.1.1)⟩
set_option maxRecDepth 100000 in
theorem c_evenings {b : Book} (hb : BFit b) (l : List Evening) (hl : l.length < 9223372036854775808) (hl2 : ∀ e ∈ l, e.1.length < 9223372036854775808 ∧ e.2.length < 9223372036854775808) (H : List Blk) : ACall Tryz.prog 24 [eBook b, eEvenings l] H (.ret (.lit (.bool (decide (EvsOk b l))))) H := by
 refine fn_rule (m := false) (fn := Tryz.f24) (c := (Tryz.f24.body).getD .skip) mixed (by kernel_rfl) (by kernel_rfl) (of_decide_eq_true (by kernel_rfl)) ?_ ?_ ?_ H
 ·exact ⟨under_eBook 0 _, under_eEvenings 0 _, trivial⟩
 ·trivial
 ·refine LoopG.at (n0 := 1) rfl (loop_up mixed (m := false) (fun r => [(1, eEvenings l), (2, .ptr 0 0), (5, n' r)]) (fun _ => [(0, bBox b)]) (fun r => ∀ x ∈ l.take r, EvOk b x) l.length 0 (Nat.zero_le _) (fun _ h => by simp at h) ?_ ?_ ?_)
  ·exact ⟨⟨_, rfl, Weak.refl _ _, under_eEvenings _ _⟩, wp rfl (ltb rfl), wp rfl trivial, trivial⟩
  ·exact ⟨bk rfl rfl, trivial⟩
  ·intro r hr hI
   refine If.mk (fun h1 => ?_) (fun h1 => ?_)
   ·refine ifY ?_
    refine Ex.mk _ (ix_evenings (r := r) rfl (by omega)) ?_
    refine Ex.mk _ rfl ?_
    have hx := hl2 _ (List.getElem_mem (l := l) (n := r) (by omega))
    refine CallG.bool (c_evening hb _ hx.1 hx.2) (fun h => ?_) (fun h => ?_)
    ·refine ifN ?_
     refine Side.mk (fits64 (by omega)) ?_
     exact ⟨Nat.zero_le _, rfl, by omega, all_snoc (by omega) hI h, ⟨⟨_, rfl, Weak.refl _ _, under_eEvenings _ _⟩, wp rfl (ltb rfl), wp rfl trivial, trivial⟩, ⟨bk rfl rfl, trivial⟩, trivial⟩
    ·refine ifY ?_
     exact ⟨Nat.zero_le _, .inl rfl, FinG.no rfl rfl (fun x => h (x.1 _ (List.getElem_mem _)))⟩
   ·refine ifN ?_
    refine ⟨Nat.zero_le _, ?_⟩
    refine If.mk (fun h2 => ?_) (fun h2 => ?_)
    ·exact ⟨.inl rfl, FinG.yes rfl rfl (⟨all_end (by omega) hI, h2⟩)⟩
    ·exact ⟨.inl rfl, FinG.no rfl rfl (fun e => h2 e.2)⟩
def vBox (v : Vers) : Blk := .box [eStates v] 48
theorem vBox_under (n : Nat) (v : Vers) : (vBox v).under n := under_eVersion n v
set_option maxRecDepth 100000 in
theorem c_right68 {b : Book} (hb : BFit b) (v : Vers) (hl : v.length < 4611686018427387904) (hl2 : ∀ s ∈ v, s.length < 4611686018427387904) (H : List Blk) : ACall Tryz.prog 128 [eBook b, eVersion v] H (.ret (.lit (.bool (decide (VOk b v))))) H := by
 refine fn_rule (m := false) (fn := Tryz.f128) (c := (Tryz.f128.body).getD .skip) mixed (by kernel_rfl) (by kernel_rfl) (of_decide_eq_true (by kernel_rfl)) ?_ ?_ ?_ H
 ·exact ⟨under_eBook 0 _, under_eVersion 0 _, trivial⟩
 ·trivial
 ·refine LoopG.at (n0 := 2) rfl (loop_up mixed (m := false) (fun r => [(2, .ptr 0 0), (3, .ptr 1 0), (5, n' r)]) (fun _ => [(0, bBox b), (1, vBox v)]) (fun r => ∀ x ∈ v.take r, StOk b v x) v.length 0 (Nat.zero_le _) (fun _ h => by simp at h) ?_ ?_ ?_)
  ·exact ⟨wp rfl (ltb rfl), wp rfl (ltb rfl), wp rfl trivial, trivial⟩
  ·exact ⟨bk rfl rfl, bk rfl rfl, trivial⟩
  ·intro r hr hI
   refine If.mk (fun h1 => ?_) (fun h1 => ?_)
   ·refine ifY ?_
    have hr' : r < v.length := by omega
    refine Ex.mk _ (ix_states (r := r) rfl (by omega)) ?_
    refine Ex.mk _ rfl ?_
    have hs := hl2 _ (List.getElem_mem hr')
    refine If.mk (fun h2 => ?_) (fun h2 => ?_)
    ·refine ifN ?_
     refine LoopG.at (n0 := 11) rfl (loop_up mixed (m := false) (fun q => [(2, .ptr 0 0), (3, .ptr 1 0), (5, n' r), (6, n' q)]) (fun _ => [(0, bBox b), (1, vBox v)]) (fun q => ∀ m ∈ v[r].take q, inI m.1 0 (v.length - 1) ∧ inI m.2 0 (b.tunes - 1)) v[r].length 11 (leb rfl) (fun _ h => by simp at h) ?_ ?_ ?_)
     ·exact ⟨wp rfl (ltb rfl), wp rfl (ltb rfl), wp rfl trivial, wp rfl trivial, trivial⟩
     ·exact ⟨bk rfl rfl, bk rfl rfl, trivial⟩
     ·intro q hq hJ
      refine Ex.mk _ (ix_states (r := r) rfl (by omega)) ?_
      refine Ex.mk _ rfl ?_
      refine If.mk (fun h3 => ?_) (fun h3 => ?_)
      ·refine ifY ?_
       refine Ex.mk _ (ix_states (r := r) rfl (by omega)) ?_
       refine Ex.mk _ rfl ?_
       refine Ex.mk _ (ix_moves (r := q) rfl (by omega)) ?_
       refine Ex.mk _ rfl ?_
       refine Side.mk (fits64 (by omega)) ?_
       refine CallG.bool (c_rin _ _ _) (fun h => ?_) (fun h => ?_)
       ·refine CallG.bool (c_tune hb _) (fun h4 => ?_) (fun h4 => ?_)
        ·refine ifN ?_
         refine Side.mk (fits64 (by omega)) ?_
         exact ⟨leb rfl, rfl, by omega, all_snoc (by omega) hJ ⟨h, h4⟩, ⟨wp rfl (ltb rfl), wp rfl (ltb rfl), wp rfl trivial, wp rfl trivial, trivial⟩, ⟨bk rfl rfl, bk rfl rfl, trivial⟩, trivial⟩
        ·refine ifY ?_
         exact ⟨leb rfl, Nat.zero_le _, .inl rfl, FinG.no rfl rfl (fun x => h4 ((x.1 _ (List.getElem_mem hr')).2 _ (List.getElem_mem _)).2)⟩
       ·refine ifY ?_
        exact ⟨leb rfl, Nat.zero_le _, .inl rfl, FinG.no rfl rfl (fun x => h ((x.1 _ (List.getElem_mem hr')).2 _ (List.getElem_mem _)).1)⟩
      ·refine ifN ?_
       refine ⟨leb rfl, ?_⟩
       refine Side.mk (fits64 (by omega)) ?_
       exact ⟨Nat.zero_le _, rfl, by omega, all_snoc (by omega) hI ⟨h2, all_end (by omega) hJ⟩, ⟨wp rfl (ltb rfl), wp rfl (ltb rfl), wp rfl trivial, trivial⟩, ⟨bk rfl rfl, bk rfl rfl, trivial⟩, trivial⟩
    ·refine ifY ?_
     exact ⟨Nat.zero_le _, .inl rfl, FinG.no rfl rfl (fun x => h2 (x.1 _ (List.getElem_mem hr')).1)⟩
   ·refine ifN ?_
    refine ⟨Nat.zero_le _, ?_⟩
    refine CallG.pure _ (c_rin _ _ _) ?_
    refine ⟨.inl rfl, FinG.bool rfl rfl ?_⟩
    rw [decide_eq_true_iff]
    exact ⟨fun x => x.2, fun x => ⟨all_end (by omega) hI, x⟩⟩
end Go.Vm

namespace Go.Vm
open Go.Proofs
def BLen (b : Book) : Prop := b.vs.length < 4611686018427387904 ∧ ∀ v ∈ b.vs, v.length < 4611686018427387904 ∧ ∀ s ∈ v, s.length < 4611686018427387904
set_option maxRecDepth 100000 in
theorem c_book {b : Book} (hb : BLen b) (H : List Blk) : ACall Tryz.prog 72 [eBook b] H (.ret (.lit (.bool (decide (BOk b))))) H := by
 refine fn_rule (m := false) (fn := Tryz.f72) (c := (Tryz.f72.body).getD .skip) mixed (by kernel_rfl) (by kernel_rfl) (of_decide_eq_true (by kernel_rfl)) ?_ ?_ ?_ H
 ·exact ⟨under_eBook 0 _, trivial⟩
 ·trivial
 ·refine CallG.bool (c_rin _ _ _) (fun h => ?_) (fun h => ?_)
  ·refine CallG.bool (c_rin _ _ _) (fun h2 => ?_) (fun h2 => ?_)
   ·refine CallG.bool (c_rin _ _ _) (fun h3 => ?_) (fun h3 => ?_)
    ·refine ifN ?_
     have hf : BFit b := by
      unfold inI at h h2 h3
      unfold BFit
      omega
     refine LoopG.at (n0 := 1) rfl (loop_up mixed (m := false) (fun r => [(1, .ptr 0 0), (3, n' r)]) (fun _ => [(0, bBox b)]) (fun r => ∀ x ∈ b.vs.take r, VOk b x) b.vs.length 0 (Nat.zero_le _) (fun _ h => by simp at h) ?_ ?_ ?_)
     ·exact ⟨wp rfl (ltb rfl), wp rfl trivial, trivial⟩
     ·exact ⟨bk rfl rfl, trivial⟩
     ·intro r hr hI
      refine If.mk (fun h1 => ?_) (fun h1 => ?_)
      ·refine ifY ?_
       have hr' : r < b.vs.length := by omega
       have hx := hb.2 _ (List.getElem_mem hr')
       have hlen := hb.1
       refine Ex.mk _ (ix_versions (r := r) rfl (by omega)) ?_
       refine Ex.mk _ rfl ?_
       refine CallG.bool (c_right68 hf _ hx.1 hx.2) (fun h4 => ?_) (fun h4 => ?_)
       ·refine ifN ?_
        refine Side.mk (fits64 (by omega)) ?_
        exact ⟨Nat.zero_le _, rfl, by omega, all_snoc (by omega) hI h4, ⟨wp rfl (ltb rfl), wp rfl trivial, trivial⟩, ⟨bk rfl rfl, trivial⟩, trivial⟩
       ·refine ifY ?_
        exact ⟨Nat.zero_le _, .inl rfl, FinG.no rfl rfl (fun x => h4 (x.2 _ (List.getElem_mem hr')))⟩
      ·refine ifN ?_
       exact ⟨Nat.zero_le _, .inl rfl, FinG.yes rfl rfl (⟨⟨h, h2, h3⟩, all_end (by omega) hI⟩)⟩
    ·refine ifY ?_
     exact ⟨.inl rfl, FinG.no rfl rfl (fun x => h3 x.1.2.2)⟩
   ·refine ifY ?_
    exact ⟨.inl rfl, FinG.no rfl rfl (fun x => h2 x.1.2.1)⟩
  ·refine ifY ?_
   exact ⟨.inl rfl, FinG.no rfl rfl (fun x => h x.1.1)⟩
def ShortV (v : Vers) : Prop := (∀ s ∈ v, (s.length : Int) ≤ 6) ∧ (v.length : Int) ≤ 6
def Short (b : Book) : Prop := (∀ v ∈ b.vs, ShortV v) ∧ (b.vs.length : Int) ≤ 6
instance (v : Vers) : Decidable (ShortV v) := by unfold ShortV; infer_instance
instance (b : Book) : Decidable (Short b) := by unfold Short; infer_instance
theorem Short.len {b : Book} (h : Short b) : BLen b := by
 obtain ⟨h1, h2⟩ := h
 refine ⟨by omega, fun v hv => ?_⟩
 obtain ⟨h3, h4⟩ := h1 v hv
 exact ⟨by omega, fun s hs => by have := h3 s hs; omega⟩
def Slim (e : Evening) : Prop := (e.1.length : Int) ≤ 10 ∧ (e.2.length : Int) ≤ 10
def Brief (l : List Evening) : Prop := (∀ e ∈ l, Slim e) ∧ (l.length : Int) ≤ 6
instance (e : Evening) : Decidable (Slim e) := by unfold Slim; infer_instance
instance (l : List Evening) : Decidable (Brief l) := by unfold Brief; infer_instance
def Right (b : Book) (l : List Evening) : Prop := ((Short b ∧ Brief l) ∧ BOk b) ∧ EvsOk b l
instance (b : Book) (l : List Evening) : Decidable (Right b l) := by unfold Right; infer_instance
theorem BOk.fit {b : Book} (h : BOk b) : BFit b := by
 obtain ⟨⟨⟨a1, a2⟩, ⟨a3, a4⟩, ⟨a5, a6⟩⟩, _⟩ := h
 unfold BFit
 omega
end Go.Vm

namespace Go.Vm
open Go.Proofs
theorem HT.one (B : Blk) : HT (ofL [(0, B)]) 1 [B] := ⟨rfl, fun id B' h => by
 have := get_ofL h
 simp at this
 obtain ⟨rfl, rfl⟩ := this
 rfl⟩
theorem HT.two (B B' : Blk) : HT (ofL [(0, B), (1, B')]) 2 [B, B'] := ⟨rfl, fun id X h => by
 have := get_ofL h
 simp at this
 rcases this with ⟨rfl, rfl⟩ | ⟨rfl, rfl⟩ <;> rfl⟩
def bvL (b : Book) (v : Vers) : List (Nat × Blk) := [(0, bBox b), (1, vBox v)]
theorem bvL_ok (b : Book) (v : Vers) {n0 : Nat} (h : 2 ≤ n0) : Blks (get (ofL (bvL b v))) n0 (bvL b v) := ⟨⟨rfl, (show 0 < n0 by omega)⟩, ⟨rfl, (show 1 < n0 by omega)⟩, trivial⟩
def bL (b : Book) : List (Nat × Blk) := [(0, bBox b)]
theorem bL_ok (b : Book) {n0 : Nat} (h : 1 ≤ n0) : Blks (get (ofL (bL b))) n0 (bL b) := ⟨⟨rfl, (show 0 < n0 by omega)⟩, trivial⟩
def MvOk (b : Book) (v : Vers) (m : Move) : Prop := inI m.1 0 (v.length - 1) ∧ inI m.2 0 (b.tunes - 1)
instance (b : Book) (v : Vers) (m : Move) : Decidable (MvOk b v m) := by unfold MvOk; infer_instance
set_option maxRecDepth 100000 in
theorem c_195 {b : Book} {v : Vers} (hb : BFit b) (hv : v.length < 4611686018427387904) (m : Move) (H2 : List Blk) : ACall Tryz.prog 160 [eMoveA m, .ptr 1 0, .ptr 0 0] ([bBox b, vBox v] ++ H2) (.ret (.lit (.bool (decide (¬ MvOk b v m))))) ([bBox b, vBox v] ++ H2) := by
 obtain ⟨hb1, hb2, hb3, hb4, hb5⟩ := hb
 refine fn_pre (m := false) (fn := Tryz.f160) (c := (Tryz.f160.body).getD .skip) mixed (by kernel_rfl) (by kernel_rfl) (of_decide_eq_true (by kernel_rfl)) (HT.two _ _) ?_ ?_ rfl ?_ H2
 ·exact ⟨⟨trivial, trivial, trivial⟩, ltb rfl, ltb rfl, trivial⟩
 ·intro B hB
  simp at hB
  rcases hB with rfl | rfl
  ·exact bBox_under _ _
  ·exact vBox_under _ _
 ·refine Side.mk (fits64 (by omega)) ?_
  refine CallG.bool (c_in _ _ _) (fun h => ?_) (fun h => ?_)
  ·refine Side.mk (fits64 (by omega)) ?_
   refine CallG.bool (c_in _ _ _) (fun h2 => ?_) (fun h2 => ?_)
   ·exact ⟨.inl rfl, leb rfl, FinF.bool rfl rfl ⟨fun x => absurd ⟨h, h2⟩ x, fun x => by cases x⟩⟩
   ·exact ⟨.inl rfl, leb rfl, FinF.bool rfl rfl ⟨fun _ => rfl, fun _ x => h2 x.2⟩⟩
  ·exact ⟨.inl rfl, leb rfl, FinF.bool rfl rfl ⟨fun _ => rfl, fun _ x => h x.1⟩⟩
theorem not_ex {α : Type} {l : List α} {p : α → Prop} [DecidablePred p] : (¬ ∃ x ∈ l, ¬ p x) ↔ ∀ x ∈ l, p x :=
 ⟨fun h x hx => Decidable.byContradiction fun hn => h ⟨x, hx, hn⟩, fun h ⟨x, hx, hn⟩ => hn (h x hx)⟩
set_option maxRecDepth 100000 in
theorem c_193 {b : Book} {v : Vers} (hb : BFit b) (hv : v.length < 4611686018427387904) {n0 : Nat} (hn : n0 ≤ noLo) (hn2 : 2 ≤ n0) (s : List Move) (hs : s.length < 4611686018427387904) (H : List Blk) (hH : HT (ofL (bvL b v)) n0 H) :
  ACall Tryz.prog 158 [eState s, .ptr 0 0, .ptr 1 0] H (.ret (.lit (.bool (decide (¬ StOk b v s))))) H := by
 refine fn_at (m := false) (fn := Tryz.f158) (c := (Tryz.f158.body).getD .skip) mixed (by kernel_rfl) (by kernel_rfl) (of_decide_eq_true (by kernel_rfl)) rfl ?_ H hH
 refine If.mk (fun h1 => ?_) (fun h1 => ?_)
 ·refine CallG.atB (p := ∃ m ∈ s, ¬ MvOk b v m) (c_containsM hn (bvL_ok b v hn2) 160 [.ptr 1 0, .ptr 0 0] ⟨(show 1 < n0 by omega), (show 0 < n0 by omega), trivial⟩ (fun m => ¬ MvOk b v m) s hs rfl (fun m _ H hH => ?_)) (fun h => ?_) (fun h => ?_)
  ·obtain ⟨H2, rfl⟩ := hH.first2 rfl rfl
   exact c_195 hb hv m H2
  ·refine ⟨.inl rfl, hn, FinF.bool rfl rfl ⟨fun _ => rfl, fun _ x => ?_⟩⟩
   obtain ⟨m, hm, hx⟩ := h
   exact hx (x.2 m hm)
  ·refine ⟨.inl rfl, hn, FinF.bool rfl rfl ⟨fun x => absurd ⟨h1, fun m hm => ?_⟩ x, fun x => by cases x⟩⟩
   exact not_ex.1 h m hm
 ·exact ⟨.inl rfl, hn, FinF.bool rfl rfl ⟨fun _ => rfl, fun _ x => h1 x.1⟩⟩
set_option maxRecDepth 100000 in
theorem c_isVersion {b : Book} (hb : BFit b) (v : Vers) (hv : v.length < 4611686018427387904) (hv2 : ∀ s ∈ v, s.length < 4611686018427387904) (H : List Blk) : ACall Tryz.prog 106 [eBook b, eVersion v] H (.ret (.lit (.bool (decide (VOk b v))))) H := by
 refine fn_rule (m := false) (fn := Tryz.f106) (c := (Tryz.f106.body).getD .skip) mixed (by kernel_rfl) (by kernel_rfl) (of_decide_eq_true (by kernel_rfl)) ?_ ?_ ?_ H
 ·exact ⟨under_eBook 0 _, under_eVersion 0 _, trivial⟩
 ·trivial
 ·refine CallG.bool (c_in _ _ _) (fun h => ?_) (fun h => ?_)
  ·refine CallG.atB (p := ∃ s ∈ v, ¬ StOk b v s) (fun H hH => c_containsS (n0 := 2) (leb rfl) (bvL_ok b v (leb rfl)) 158 [.ptr 0 0, .ptr 1 0] ⟨ltb rfl, ltb rfl, trivial⟩ (fun s => ¬ StOk b v s) v hv rfl (fun s hs H hH => c_193 hb hv (leb rfl) (leb rfl) s (hv2 s hs) H hH) H (hH.sub ⟨bk rfl rfl, bk rfl rfl, trivial⟩)) (fun h2 => ?_) (fun h2 => ?_)
   ·exact ⟨.inl rfl, FinG.no rfl rfl (fun x => by obtain ⟨s, hs, hx⟩ := h2; exact hx (x.1 s hs))⟩
   ·exact ⟨.inl rfl, FinG.yes rfl rfl (⟨not_ex.1 h2, h⟩)⟩
  ·exact ⟨.inl rfl, FinG.no rfl rfl (fun x => h x.2)⟩
set_option maxRecDepth 100000 in
theorem c_151 {b : Book} (hb : BFit b) (v : Vers) (hv : v.length < 4611686018427387904) (hv2 : ∀ s ∈ v, s.length < 4611686018427387904) (H2 : List Blk) : ACall Tryz.prog 105 [eVersion v, .ptr 0 0] ([bBox b] ++ H2) (.ret (.lit (.bool (decide (¬ VOk b v))))) ([bBox b] ++ H2) := by
 refine fn_pre (m := false) (fn := Tryz.f105) (c := (Tryz.f105.body).getD .skip) mixed (by kernel_rfl) (by kernel_rfl) (of_decide_eq_true (by kernel_rfl)) (HT.one _) ?_ ?_ rfl ?_ H2
 ·exact ⟨under_eVersion _ _, ltb rfl, trivial⟩
 ·intro B hB
  simp at hB
  subst hB
  exact bBox_under _ _
 ·refine CallG.bool (c_isVersion hb v hv hv2) (fun h => ?_) (fun h => ?_)
  ·exact ⟨.inl rfl, leb rfl, FinF.bool rfl rfl ⟨fun x => absurd h x, fun x => by cases x⟩⟩
  ·exact ⟨.inl rfl, leb rfl, FinF.bool rfl rfl ⟨fun _ => rfl, fun _ => h⟩⟩
set_option maxRecDepth 100000 in
theorem c_isBook {b : Book} (hl : BLen b) (H : List Blk) : ACall Tryz.prog 51 [eBook b] H (.ret (.lit (.bool (decide (BOk b))))) H := by
 refine fn_rule (m := false) (fn := Tryz.f51) (c := (Tryz.f51.body).getD .skip) mixed (by kernel_rfl) (by kernel_rfl) (of_decide_eq_true (by kernel_rfl)) ?_ ?_ ?_ H
 ·exact ⟨under_eBook 0 _, trivial⟩
 ·trivial
 ·refine CallG.bool (c_in _ _ _) (fun h => ?_) (fun h => ?_)
  ·refine CallG.bool (c_in _ _ _) (fun h2 => ?_) (fun h2 => ?_)
   ·refine CallG.bool (c_in _ _ _) (fun h3 => ?_) (fun h3 => ?_)
    ·have hf : BFit b := by
      have := hl.1
      unfold BFit
      omega
     refine CallG.atB (p := ∃ v ∈ b.vs, ¬ VOk b v) (fun H hH => c_containsV (n0 := 1) (leb rfl) (bL_ok b (leb rfl)) 105 [.ptr 0 0] ⟨ltb rfl, trivial⟩ (fun v => ¬ VOk b v) b.vs hl.1 rfl (fun v hv H hH => ?_) H (hH.sub ⟨bk rfl rfl, trivial⟩)) (fun h4 => ?_) (fun h4 => ?_)
     ·obtain ⟨H2, rfl⟩ := hH.first rfl
      exact c_151 hf v (hl.2 v hv).1 (hl.2 v hv).2 H2
     ·exact ⟨.inl rfl, FinG.no rfl rfl (fun x => by obtain ⟨s, hs, hx⟩ := h4; exact hx (x.2 s hs))⟩
     ·exact ⟨.inl rfl, FinG.yes rfl rfl (⟨⟨h, h2, h3⟩, not_ex.1 h4⟩)⟩
    ·exact ⟨.inl rfl, FinG.no rfl rfl (fun x => h3 x.1.2.2)⟩
   ·exact ⟨.inl rfl, FinG.no rfl rfl (fun x => h2 x.1.2.1)⟩
  ·exact ⟨.inl rfl, FinG.no rfl rfl (fun x => h x.1.1)⟩
set_option maxRecDepth 100000 in
theorem c_hasVersion {b : Book} (hb : BFit b) (n : Int) (H : List Blk) : ACall Tryz.prog 52 [eBook b, n' n] H (.ret (.lit (.bool (decide (inI n 0 (b.vs.length - 1)))))) H := by
 obtain ⟨hb1, hb2, hb3, hb4, hb5⟩ := hb
 refine fn_rule (m := false) (fn := Tryz.f52) (c := (Tryz.f52.body).getD .skip) mixed (by kernel_rfl) (by kernel_rfl) (of_decide_eq_true (by kernel_rfl)) ?_ ?_ ?_ H
 ·exact ⟨under_eBook 0 _, trivial, trivial⟩
 ·trivial
 ·refine Side.mk (fits64 (by omega)) ?_
  refine CallG.bool (c_in _ _ _) (fun h => ?_) (fun h => ?_)
  ·exact ⟨.inl rfl, FinG.yes rfl rfl (h)⟩
  ·exact ⟨.inl rfl, FinG.no rfl rfl (h)⟩
set_option maxRecDepth 100000 in
theorem c_153 {b : Book} (hb : BFit b) (n : Int) {n0 : Nat} (hn : n0 ≤ noLo) (H : List Blk) (hH : HT (ofL (bL b)) n0 H) : ACall Tryz.prog 132 [n' n, .ptr 0 0] H (.ret (.lit (.bool (decide (¬ inI n 0 (b.cues - 1)))))) H := by
 obtain ⟨hb1, hb2, hb3, hb4, hb5⟩ := hb
 refine fn_at (m := false) (fn := Tryz.f132) (c := (Tryz.f132.body).getD .skip) mixed (by kernel_rfl) (by kernel_rfl) (of_decide_eq_true (by kernel_rfl)) rfl ?_ H hH
 refine Side.mk (fits64 (by omega)) ?_
 refine CallG.bool (c_in _ _ _) (fun h => ?_) (fun h => ?_)
 ·exact ⟨.inl rfl, hn, FinF.bool rfl rfl ⟨fun x => absurd h x, fun x => by cases x⟩⟩
 ·exact ⟨.inl rfl, hn, FinF.bool rfl rfl ⟨fun _ => rfl, fun _ => h⟩⟩
set_option maxRecDepth 100000 in
theorem c_areCues {b : Book} (hb : BFit b) (l : List Int) (hl : l.length < 4611686018427387904) (H : List Blk) : ACall Tryz.prog 77 [eBook b, eInts l] H (.ret (.lit (.bool (decide (LList b l))))) H := by
 refine fn_rule (m := false) (fn := Tryz.f77) (c := (Tryz.f77.body).getD .skip) mixed (by kernel_rfl) (by kernel_rfl) (of_decide_eq_true (by kernel_rfl)) ?_ ?_ ?_ H
 ·exact ⟨under_eBook 0 _, under_eInts 0 _, trivial⟩
 ·trivial
 ·refine If.mk (fun h1 => ?_) (fun h1 => ?_)
  ·refine CallG.atB (p := ∃ c ∈ l, ¬ inI c 0 (b.cues - 1)) (fun H hH => c_containsI (n0 := 1) (leb rfl) (bL_ok b (leb rfl)) 132 [.ptr 0 0] ⟨ltb rfl, trivial⟩ (fun c => ¬ inI c 0 (b.cues - 1)) l hl rfl (fun v hv H hH => c_153 hb v (leb rfl) H hH) H (hH.sub ⟨bk rfl rfl, trivial⟩)) (fun h4 => ?_) (fun h4 => ?_)
   ·exact ⟨.inl rfl, FinG.no rfl rfl (fun x => by obtain ⟨s, hs, hx⟩ := h4; exact hx (x.2 s hs))⟩
   ·exact ⟨.inl rfl, FinG.yes rfl rfl (⟨h1, not_ex.1 h4⟩)⟩
  ·exact ⟨.inl rfl, FinG.no rfl rfl (fun x => h1 x.1)⟩
end Go.Vm

namespace Go.Vm
open Go.Proofs
theorem jx_ints {l : List Int} {tl : Tail} {i : Int} {r : Nat} {x : Int} (hi : i = r) (h : l[r]? = some x) : indexOp Tryz.prog 30 (.sl l.length (l.map n') tl) (.lit (.int .i64 i)) = some (.eptr [n' x]) := by
 obtain ⟨h1, rfl⟩ := List.getElem?_eq_some_iff.1 h
 exact ix_ints hi h1
theorem jx_versions {l : List Vers} {tl : Tail} {i : Int} {r : Nat} {x : Vers} (hi : i = r) (h : l[r]? = some x) : indexOp Tryz.prog 50 (.sl l.length (l.map eStates) tl) (.lit (.int .i64 i)) = some (.eptr [eStates x]) := by
 obtain ⟨h1, rfl⟩ := List.getElem?_eq_some_iff.1 h
 exact ix_versions hi h1
theorem freezes_ints (g : Nat → Option Blk) (l : List Int) : AV.freezes g (l.map n') = l.map n' := freezes_map (fun _ => rfl) l
theorem app_int {g : Nat → Option Blk} {n len id gen : Nat} {cells : List AV} {a : Int} (h1 : cells.length = len) (h2 : len < 2097152) (hg : g id = some (.row gen)) :
  appT Tryz.prog false g n 30 30 (.sl len cells (.own id gen 1)) (.sl 1 [n' a] .full) = some (.sl (len + 1) (cells ++ [n' a]) (.own id (gen + 1) 1), .set id (.row (gen + 1))) :=
 appT_own (e := 3) (bytes := 8) (z := .int .i64 0) (by kernel_rfl) (by kernel_rfl) (by kernel_rfl) (by kernel_rfl) (by kernel_rfl) rfl (by omega) (by omega) (by omega) hg rfl
theorem at_some {α : Type} {l : List α} {r : Nat} (h : r < l.length) : ∃ x, l[r]? = some x ∧ l.take (r + 1) = l.take r ++ [x] ∧ x ∈ l :=
 ⟨l[r], List.getElem?_eq_getElem h, take_snoc h, List.getElem_mem h⟩
end Go.Vm

namespace Go.Vm
open Go.Proofs
def plT (v : Vers) (cues : List Int) (r : Nat) : List (Nat × Blk) :=
 [(1, .box [.lit (.slice none 0 0), .lit (.int .i64 0)] 143), (2, .box [eStates v, n' (after v 0 (cues.take r) : Nat)] 143), (3, .row r)]
set_option maxRecDepth 100000 in
theorem c_played {v : Vers} {k : Nat} {cues : List Int} (hv : VersOk v k) (h0 : 0 < v.length) (hc : CuesOk k cues) (hL : cues.length < 1000000) (H : List Blk) :
  ACall Tryz.prog 78 [eVersion v, eInts cues] H (.ret (.tup [eInts (plays v 0 cues), ePlayer v (after v 0 cues : Nat)])) H := by
 refine fn_rule (m := false) (fn := Tryz.f78) (c := (Tryz.f78.body).getD .skip) mixed (by kernel_rfl) (by kernel_rfl) (of_decide_eq_true (by kernel_rfl)) ?_ ?_ ?_ H
 ·exact ⟨under_eVersion 0 _, under_eInts 0 _, trivial⟩
 ·exact ⟨under_eInts 0 _, ⟨under_states 0 _, trivial, trivial⟩, trivial⟩
 ·refine LoopG.ghost (LoopG.at (n0 := 4) rfl ?_)
  refine loop_up mixed (m := false) (fun r => [(5, .ptr 1 0), (6, .ptr 2 0), (7, .sl r ((plays v 0 (cues.take r)).map n') (.own 3 r 1)), (14, eInts cues), (15, n' cues.length), (16, n' r)]) (plT v cues) (fun _ => True) cues.length 2 (leb rfl) trivial ?_ ?_ ?_
  ·exact ⟨wp rfl (ltb rfl), wp rfl (ltb rfl), ⟨_, rfl, Weak.own (r := 3) (g := 0) 1 rfl, ⟨trivial, ltb rfl⟩⟩, ⟨_, rfl, Weak.refl _ _, under_eInts _ _⟩, wp rfl trivial, wp rfl trivial, trivial⟩
  ·exact ⟨bk rfl rfl, bk rfl rfl, bk rfl rfl, trivial⟩
  ·intro r hr _
   refine If.mk (fun h1 => ?_) (fun h1 => ?_)
   ·refine ifY ?_
    obtain ⟨c, hc1, hc2, hc3⟩ := at_some (l := cues) (r := r) (by omega)
    have hck := hc c hc3
    obtain ⟨j, rfl⟩ : ∃ j : Nat, c = j := ⟨c.toNat, by omega⟩
    have hsl := after_lt (l := cues.take r) hv (fun c hc' => hc c (List.mem_of_mem_take hc')) h0
    obtain ⟨x, hx1, hx2, hx3, hx4⟩ := mv_at (s := after v 0 (cues.take r)) (c := j) hv hsl (by omega)
    refine Ex.mk _ (jx_ints (r := r) rfl hc1) ?_
    refine Ex.mk _ rfl ?_
    refine CallG.pure _ (c_hears hx1 hx2) ?_
    refine ex_app _ _ (app_int (by rw [List.length_map, plays_length, List.length_take]; omega) (by omega) rfl) ?_
    refine Side.mk (fits64 (by omega)) ?_
    have ea : after v 0 (cues.take (r + 1)) = (mv v (after v 0 (cues.take r)) j).1.toNat := by rw [hc2, after_snoc]; rfl
    refine ⟨leb rfl, rfl, by omega, trivial, ⟨wp rfl (ltb rfl), wp rfl (ltb rfl), ⟨_, rfl, Weak.of_eq (?_), ⟨under_ints _ _, ltb rfl⟩⟩, ⟨_, rfl, Weak.refl _ _, under_eInts _ _⟩, wp rfl trivial, wp rfl trivial, trivial⟩, ⟨bk rfl rfl, ⟨?_, ltb rfl⟩, bk rfl rfl, trivial⟩, ⟨_, rfl, ⟨under_states _ _, trivial, trivial⟩⟩, ⟨_, rfl, trivial⟩, trivial⟩
    ·rw [hc2, plays_snoc, List.map_append]
     rfl
    ·show some (Blk.box [eStates v, n' (mv v (after v 0 (cues.take r)) j).1] 143) = some (Blk.box [eStates v, n' (after v 0 (cues.take (r + 1)) : Nat)] 143)
     rw [ea, hx4]
   ·refine ifN ?_
    have er : r = cues.length := by omega
    subst er
    refine ⟨leb rfl, .inl rfl, FinG.mk _ rfl rfl ?_⟩
    show AV.tup [AV.sl cues.length (AV.freezes _ ((plays v 0 (cues.take cues.length)).map n')) .unk, .agg [AV.freeze _ (eStates v), n' (after v 0 (cues.take cues.length) : Nat)]] = _
    rw [freezes_ints, freeze_states, List.take_length]
    show _ = AV.tup [.sl (plays v 0 cues).length ((plays v 0 cues).map n') .unk, _]
    rw [plays_length]
    rfl
theorem VOk.vers {b : Book} {v : Vers} (h : VOk b v) : VersOk v b.cues.toNat ∧ 0 < v.length := by
 obtain ⟨h1, h2, h3⟩ := h
 refine ⟨fun s hs => ?_, by omega⟩
 obtain ⟨h4, h5⟩ := h1 s hs
 refine ⟨by omega, fun m hm => ?_⟩
 obtain ⟨⟨h6, h7⟩, _⟩ := h5 m hm
 omega
theorem LList.cues {b : Book} {l : List Int} (h : LList b l) (hb : 0 ≤ b.cues) : CuesOk b.cues.toNat l ∧ l.length < 1000000 := by
 obtain ⟨h1, h2⟩ := h
 refine ⟨fun c hc => ?_, by omega⟩
 have := h2 c hc
 unfold inI at this
 omega
theorem under_tup2 {n : Nat} {a b : AV} (h1 : a.under n) (h2 : b.under n) : (AV.tup [a, b]).under n := ⟨h1, h2, trivial⟩
def playsR (b : Book) (i : Int) (l : List Int) : AV :=
 if BOk b ∧ inI i 0 (b.vs.length - 1) ∧ LList b l then .tup [eInts (plays (b.vs.getD i.toNat []) 0 l), .lit (.int .i64 0)] else .tup [.lit (.slice none 0 0), .lit (.int .i64 2)]
set_option maxRecDepth 100000 in
theorem c_plays {b : Book} (hb : BLen b) (i : Int) (l : List Int) (hl : l.length < 4611686018427387904) (H : List Blk) :
  ACall Tryz.prog 29 [eBook b, n' i, eInts l] H (.ret (playsR b i l)) H := by
 unfold playsR
 refine fn_rule (m := false) (fn := Tryz.f29) (c := (Tryz.f29.body).getD .skip) mixed (by kernel_rfl) (by kernel_rfl) (of_decide_eq_true (by kernel_rfl)) ?_ ?_ ?_ H
 ·exact ⟨under_eBook 0 _, trivial, under_eInts 0 _, trivial⟩
 ·split
  ·exact under_tup2 (under_eInts 0 _) trivial
  ·exact under_tup2 trivial trivial
 ·refine CallG.bool (c_isBook hb) (fun h => ?_) (fun h => ?_)
  ·refine CallG.bool (c_hasVersion h.fit _) (fun h2 => ?_) (fun h2 => ?_)
   ·refine CallG.bool (c_areCues h.fit _ hl) (fun h3 => ?_) (fun h3 => ?_)
    ·refine ifN ?_
     rw [if_pos ⟨h, h2, h3⟩]
     have hi : i.toNat < b.vs.length := by unfold inI at h2; omega
     have hx : b.vs[i.toNat]? = some b.vs[i.toNat] := List.getElem?_eq_getElem hi
     obtain ⟨hv, h0⟩ := (h.2 _ (List.getElem_mem hi)).vers
     have h0c := h.1.1.1
     obtain ⟨hc1, hc2⟩ := h3.cues (by omega)
     have eg : b.vs.getD i.toNat [] = b.vs[i.toNat] := by simp [List.getD, hx]
     rw [eg]
     refine Ex.mk _ (jx_versions (r := i.toNat) (by unfold inI at h2; omega) hx) ?_
     refine Ex.mk _ rfl ?_
     refine CallG.pure _ (c_played hv h0 hc1 hc2) ?_
     refine ⟨.inl rfl, FinG.mk _ rfl rfl ?_⟩
     show AV.tup [AV.freeze _ (eInts _), _] = _
     rw [freeze_eInts]
     rfl
    ·refine ifY ?_
     rw [if_neg (fun x => h3 x.2.2)]
     exact ⟨.inl rfl, FinG.mk _ rfl rfl rfl⟩
   ·refine ifY ?_
    rw [if_neg (fun x => h2 x.2.1)]
    exact ⟨.inl rfl, FinG.mk _ rfl rfl rfl⟩
  ·refine ifY ?_
   rw [if_neg (fun x => h x.1)]
   exact ⟨.inl rfl, FinG.mk _ rfl rfl rfl⟩
end Go.Vm

namespace Go.Vm
open Go.Proofs
theorem src_ints (g : Nat → Option Blk) (l : List Int) : srcT g 1 (eInts l) = some (l.length, l.map n') := by
 show (if (l.map n').length = l.length * 1 then some (l.length, l.map n') else none) = _
 rw [if_pos (by rw [List.length_map, Nat.mul_one])]
theorem wk_nil (H : List Blk) : WeakH H (.lit (.slice none 0 0)) (eInts []) := WeakH.nil H
theorem wk_agg {H : List Blk} {l l' : List AV} (h : Weaks l l') : WeakH H (.agg l) (.agg l') := fun _ _ _ _ x => by
 simp only [VRel] at x ⊢
 obtain ⟨C, hc, hr⟩ := x
 exact ⟨C, hc, h.rel hr⟩
theorem c_plays_ok {b : Book} (hb : BLen b) (h : BOk b) {i : Int} {v : Vers} (hi : 0 ≤ i) (hv : b.vs[i.toNat]? = some v) {l : List Int} (hl : LList b l) (H : List Blk) :
  ACall Tryz.prog 29 [eBook b, n' i, eInts l] H (.ret (.tup [eInts (plays v 0 l), .lit (.int .i64 0)])) H := by
 have hlt := (List.getElem?_eq_some_iff.1 hv).1
 have e := c_plays hb i l (by have := hl.1; omega) H
 unfold playsR at e
 rw [if_pos ⟨h, ⟨hi, by omega⟩, hl⟩] at e
 have eg : b.vs.getD i.toNat [] = v := by simp [List.getD, hv]
 rw [eg] at e
 exact e
end Go.Vm

namespace Go.Vm
open Go.Proofs
set_option maxRecDepth 100000 in
theorem c_hasTune {b : Book} (hb : BFit b) (n : Int) (H : List Blk) : ACall Tryz.prog 53 [eBook b, n' n] H (.ret (.lit (.bool (decide (inI n 0 (b.tunes - 1)))))) H := by
 obtain ⟨hb1, hb2, hb3, hb4, hb5⟩ := hb
 refine fn_rule (m := false) (fn := Tryz.f53) (c := (Tryz.f53.body).getD .skip) mixed (by kernel_rfl) (by kernel_rfl) (of_decide_eq_true (by kernel_rfl)) ?_ ?_ ?_ H
 ·exact ⟨under_eBook 0 _, trivial, trivial⟩
 ·trivial
 ·refine Side.mk (fits64 (by omega)) ?_
  refine CallG.bool (c_in _ _ _) (fun h => ?_) (fun h => ?_)
  ·exact ⟨.inl rfl, FinG.yes rfl rfl (h)⟩
  ·exact ⟨.inl rfl, FinG.no rfl rfl (h)⟩
def TuneP (b : Book) (c : Int) : Prop := c ≠ -1 → inI c 0 (b.tunes - 1)
instance (b : Book) (c : Int) : Decidable (TuneP b c) := by unfold TuneP; infer_instance
set_option maxRecDepth 100000 in
theorem c_161 {b : Book} (hb : BFit b) (n : Int) {n0 : Nat} (hn : n0 ≤ noLo) (H : List Blk) (hH : HT (ofL (bL b)) n0 H) : ACall Tryz.prog 190 [n' n, .ptr 0 0] H (.ret (.lit (.bool (decide (¬ TuneP b n))))) H := by
 refine fn_at (m := false) (fn := Tryz.f190) (c := (Tryz.f190.body).getD .skip) mixed (by kernel_rfl) (by kernel_rfl) (of_decide_eq_true (by kernel_rfl)) rfl ?_ H hH
 refine If.mk (fun h1 => ?_) (fun h1 => ?_)
 ·exact ⟨.inl rfl, hn, FinF.bool rfl rfl ⟨fun x => absurd (fun y => absurd h1 y) x, fun x => by cases x⟩⟩
 ·refine CallG.bool (c_hasTune hb _) (fun h => ?_) (fun h => ?_)
  ·exact ⟨.inl rfl, hn, FinF.bool rfl rfl ⟨fun x => absurd (fun _ => h) x, fun x => by cases x⟩⟩
  ·exact ⟨.inl rfl, hn, FinF.bool rfl rfl ⟨fun _ => rfl, fun _ x => h (x h1)⟩⟩
set_option maxRecDepth 100000 in
theorem c_areHeard {b : Book} (hb : BFit b) (l : List Int) (hl : l.length < 4611686018427387904) (H : List Blk) : ACall Tryz.prog 172 [eBook b, eInts l] H (.ret (.lit (.bool (decide (LTunes b l))))) H := by
 refine fn_rule (m := false) (fn := Tryz.f172) (c := (Tryz.f172.body).getD .skip) mixed (by kernel_rfl) (by kernel_rfl) (of_decide_eq_true (by kernel_rfl)) ?_ ?_ ?_ H
 ·exact ⟨under_eBook 0 _, under_eInts 0 _, trivial⟩
 ·trivial
 ·refine If.mk (fun h1 => ?_) (fun h1 => ?_)
  ·refine CallG.atB (p := ∃ c ∈ l, ¬ TuneP b c) (fun H hH => c_containsI (n0 := 1) (leb rfl) (bL_ok b (leb rfl)) 190 [.ptr 0 0] ⟨ltb rfl, trivial⟩ (fun c => ¬ TuneP b c) l hl rfl (fun v _ H hH => c_161 hb v (leb rfl) H hH) H (hH.sub ⟨bk rfl rfl, trivial⟩)) (fun h4 => ?_) (fun h4 => ?_)
   ·exact ⟨.inl rfl, FinG.no rfl rfl (fun x => by obtain ⟨s, hs, hx⟩ := h4; exact hx (x.1 s hs))⟩
   ·exact ⟨.inl rfl, FinG.yes rfl rfl (⟨not_ex.1 h4, h1⟩)⟩
  ·exact ⟨.inl rfl, FinG.no rfl rfl (fun x => h1 x.2)⟩
set_option maxRecDepth 100000 in
theorem c_isEvening {b : Book} (hb : BFit b) (e : Evening) (hl : e.1.length < 4611686018427387904) (hl2 : e.2.length < 4611686018427387904) (H : List Blk) : ACall Tryz.prog 123 [eBook b, eEvening e] H (.ret (.lit (.bool (decide (EvOk b e))))) H := by
 refine fn_rule (m := false) (fn := Tryz.f123) (c := (Tryz.f123.body).getD .skip) mixed (by kernel_rfl) (by kernel_rfl) (of_decide_eq_true (by kernel_rfl)) ?_ ?_ ?_ H
 ·exact ⟨under_eBook 0 _, under_eEvening 0 _, trivial⟩
 ·trivial
 ·refine CallG.bool (c_areCues hb _ hl) (fun h => ?_) (fun h => ?_)
  ·refine CallG.bool (c_areHeard hb _ hl2) (fun h2 => ?_) (fun h2 => ?_)
   ·refine If.mk (fun h3 => ?_) (fun h3 => ?_)
    ·exact ⟨.inl rfl, FinG.yes rfl rfl (⟨⟨h, h2⟩, h3⟩)⟩
    ·exact ⟨.inl rfl, FinG.no rfl rfl (fun x => h3 x.2)⟩
   ·exact ⟨.inl rfl, FinG.no rfl rfl (fun x => h2 x.1.2)⟩
  ·exact ⟨.inl rfl, FinG.no rfl rfl (fun x => h x.1.1)⟩
set_option maxRecDepth 100000 in
theorem c_155 {b : Book} (hb : BFit b) (e : Evening) (hl : e.1.length < 4611686018427387904) (hl2 : e.2.length < 4611686018427387904) (H2 : List Blk) : ACall Tryz.prog 130 [eEvening e, .ptr 0 0] ([bBox b] ++ H2) (.ret (.lit (.bool (decide (¬ EvOk b e))))) ([bBox b] ++ H2) := by
 refine fn_pre (m := false) (fn := Tryz.f130) (c := (Tryz.f130.body).getD .skip) mixed (by kernel_rfl) (by kernel_rfl) (of_decide_eq_true (by kernel_rfl)) (HT.one _) ?_ ?_ rfl ?_ H2
 ·exact ⟨under_eEvening _ _, ltb rfl, trivial⟩
 ·intro B hB
  simp at hB
  subst hB
  exact bBox_under _ _
 ·refine CallG.bool (c_isEvening hb e hl hl2) (fun h => ?_) (fun h => ?_)
  ·exact ⟨.inl rfl, leb rfl, FinF.bool rfl rfl ⟨fun x => absurd h x, fun x => by cases x⟩⟩
  ·exact ⟨.inl rfl, leb rfl, FinF.bool rfl rfl ⟨fun _ => rfl, fun _ => h⟩⟩
set_option maxRecDepth 100000 in
theorem c_areEvenings {b : Book} (hb : BFit b) (l : List Evening) (hl : l.length < 4611686018427387904) (hl2 : ∀ e ∈ l, e.1.length < 4611686018427387904 ∧ e.2.length < 4611686018427387904) (H : List Blk) : ACall Tryz.prog 75 [eBook b, eEvenings l] H (.ret (.lit (.bool (decide (EvsOk b l))))) H := by
 refine fn_rule (m := false) (fn := Tryz.f75) (c := (Tryz.f75.body).getD .skip) mixed (by kernel_rfl) (by kernel_rfl) (of_decide_eq_true (by kernel_rfl)) ?_ ?_ ?_ H
 ·exact ⟨under_eBook 0 _, under_eEvenings 0 _, trivial⟩
 ·trivial
 ·refine If.mk (fun h1 => ?_) (fun h1 => ?_)
  ·refine CallG.atB (p := ∃ e ∈ l, ¬ EvOk b e) (fun H hH => c_containsE (n0 := 1) (leb rfl) (bL_ok b (leb rfl)) 130 [.ptr 0 0] ⟨ltb rfl, trivial⟩ (fun e => ¬ EvOk b e) l hl rfl (fun e he H hH => ?_) H (hH.sub ⟨bk rfl rfl, trivial⟩)) (fun h4 => ?_) (fun h4 => ?_)
   ·obtain ⟨H2, rfl⟩ := hH.first rfl
    exact c_155 hb e (hl2 e he).1 (hl2 e he).2 H2
   ·exact ⟨.inl rfl, FinG.no rfl rfl (fun x => by obtain ⟨s, hs, hx⟩ := h4; exact hx (x.1 s hs))⟩
   ·exact ⟨.inl rfl, FinG.yes rfl rfl (⟨not_ex.1 h4, h1⟩)⟩
  ·exact ⟨.inl rfl, FinG.no rfl rfl (fun x => h1 x.2)⟩
def Noted (t h : List Int) : Prop := ∀ i, i < h.length → 0 ≤ h.getD i 0 → t.getD i 0 = h.getD i 0
instance (t h : List Int) : Decidable (Noted t h) := by unfold Noted; infer_instance
theorem getD_of {α : Type} {l : List α} {i : Nat} {d x : α} (h : l[i]? = some x) : l.getD i d = x := by simp [List.getD, h]
set_option maxRecDepth 100000 in
theorem c_noted (t h : List Int) (hth : t.length = h.length) (hl : h.length < 4611686018427387904) (H : List Blk) : ACall Tryz.prog 131 [eInts t, eInts h] H (.ret (.lit (.bool (decide (Noted t h))))) H := by
 refine fn_rule (m := false) (fn := Tryz.f131) (c := (Tryz.f131.body).getD .skip) mixed (by kernel_rfl) (by kernel_rfl) (of_decide_eq_true (by kernel_rfl)) ?_ ?_ ?_ H
 ·exact ⟨under_eInts 0 _, under_eInts 0 _, trivial⟩
 ·trivial
 ·refine LoopG.at (n0 := 0) rfl (loop_up mixed (m := false) (fun r => [(0, eInts t), (7, eInts h), (8, n' h.length), (9, n' r)]) (fun _ => []) (fun r => ∀ i, i < r → 0 ≤ h.getD i 0 → t.getD i 0 = h.getD i 0) h.length 0 (Nat.zero_le _) (fun _ h => absurd h (Nat.not_lt_zero _)) ?_ trivial ?_)
  ·exact ⟨⟨_, rfl, Weak.refl _ _, under_eInts _ _⟩, ⟨_, rfl, Weak.refl _ _, under_eInts _ _⟩, wp rfl trivial, wp rfl trivial, trivial⟩
  ·intro r hr hI
   refine If.mk (fun h1 => ?_) (fun h1 => ?_)
   ·refine ifY ?_
    obtain ⟨x, hx1, _, _⟩ := at_some (l := h) (r := r) (by omega)
    obtain ⟨y, hy1, _, _⟩ := at_some (l := t) (r := r) (by omega)
    have next : (0 ≤ x → y = x) → ∀ i, i < r + 1 → 0 ≤ h.getD i 0 → t.getD i 0 = h.getD i 0 := fun hxy i hi => by
     rcases Nat.lt_or_ge i r with hlt | hge
     ·exact hI i hlt
     ·have : i = r := by omega
      subst this
      rw [getD_of hx1, getD_of hy1]; exact hxy
    refine Ex.mk _ (jx_ints (r := r) rfl hx1) ?_
    refine Ex.mk _ rfl ?_
    refine If.mk (fun h2 => ?_) (fun h2 => ?_)
    ·refine Ex.mk _ (jx_ints (r := r) rfl hy1) ?_
     refine Ex.mk _ rfl ?_
     refine If.mk (fun h3 => ?_) (fun h3 => ?_)
     ·refine ifN ?_
      refine Side.mk (fits64 (by omega)) ?_
      exact ⟨Nat.zero_le _, rfl, by omega, next (fun _ => h3), ⟨⟨_, rfl, Weak.refl _ _, under_eInts _ _⟩, ⟨_, rfl, Weak.refl _ _, under_eInts _ _⟩, wp rfl trivial, wp rfl trivial, trivial⟩, trivial, trivial⟩
     ·refine ifY ?_
      exact ⟨Nat.zero_le _, .inl rfl, FinG.no rfl rfl (fun e => h3 (by have := e r (by omega); rw [getD_of hx1, getD_of hy1] at this; exact this h2))⟩
    ·refine ifN ?_
     refine Side.mk (fits64 (by omega)) ?_
     exact ⟨Nat.zero_le _, rfl, by omega, next (fun e => absurd e h2), ⟨⟨_, rfl, Weak.refl _ _, under_eInts _ _⟩, ⟨_, rfl, Weak.refl _ _, under_eInts _ _⟩, wp rfl trivial, wp rfl trivial, trivial⟩, trivial, trivial⟩
   ·refine ifN ?_
    have er : r = h.length := by omega
    subst er
    exact ⟨Nat.zero_le _, .inl rfl, FinG.yes rfl rfl (hI)⟩
def Agrees (v : Vers) (evs : List Evening) : Prop := ∀ e ∈ evs, Noted (plays v 0 e.1) e.2
instance (v : Vers) (evs : List Evening) : Decidable (Agrees v evs) := by unfold Agrees; infer_instance
def remL (vs : List Vers) (evs : List Evening) : Nat → List Int
 | 0 => []
 | r + 1 => if Agrees (vs.getD r []) evs then remL vs evs r ++ [(r : Int)] else remL vs evs r
theorem remL_length (vs : List Vers) (evs : List Evening) : ∀ r, (remL vs evs r).length ≤ r
 | 0 => Nat.le_refl _
 | r + 1 => by
  have ih := remL_length vs evs r
  unfold remL
  split
  ·rw [List.length_append]; simp; omega
  ·omega
theorem jx_evenings {l : List Evening} {tl : Tail} {i : Int} {r : Nat} {x : Evening} (hi : i = r) (h : l[r]? = some x) : indexOp Tryz.prog 73 (.sl l.length (l.flatMap cEvening) tl) (.lit (.int .i64 i)) = some (.eptr (cEvening x)) := by
 obtain ⟨h1, rfl⟩ := List.getElem?_eq_some_iff.1 h
 exact ix_evenings hi h1
def remA (b : Book) (evs : List Evening) (r : Nat) : AV := .sl (remL b.vs evs r).length ((remL b.vs evs r).map n') (.own 1 (remL b.vs evs r).length 1)
set_option maxRecDepth 100000 in
theorem c_remains {b : Book} (hB : BOk b) {evs : List Evening} (hE : ∀ e ∈ evs, EvOk b e) (hel : evs.length < 1000) (H : List Blk) : ACall Tryz.prog 76 [eBook b, eEvenings evs] H (.ret (eInts (remL b.vs evs b.vs.length))) H := by
 have hvl := hB.1.2.2
 unfold inI at hvl
 have h0c := hB.1.1.1
 refine fn_rule (m := false) (fn := Tryz.f76) (c := (Tryz.f76.body).getD .skip) mixed (by kernel_rfl) (by kernel_rfl) (of_decide_eq_true (by kernel_rfl)) ?_ ?_ ?_ H
 ·exact ⟨under_eBook 0 _, under_eEvenings 0 _, trivial⟩
 ·exact under_eInts 0 _
 ·refine LoopG.ghost (LoopG.at (n0 := 2) rfl ?_)
  refine loop_up mixed (m := false) (fun r => [(1, eEvenings evs), (5, remA b evs r), (13, eVersions b.vs), (14, n' b.vs.length), (15, n' r)]) (fun r => [(1, .row (remL b.vs evs r).length)]) (fun _ => True) b.vs.length 1 (leb rfl) trivial ?_ ?_ ?_
  ·exact ⟨⟨_, rfl, Weak.refl _ _, under_eEvenings _ _⟩, ⟨_, rfl, Weak.own (r := 1) (g := 0) 1 rfl, ⟨trivial, ltb rfl⟩⟩, ⟨_, rfl, Weak.refl _ _, under_eVersions _ _⟩, wp rfl trivial, wp rfl trivial, trivial⟩
  ·exact ⟨bk rfl rfl, trivial⟩
  ·intro r hr _
   have hrl := remL_length b.vs evs r
   refine If.mk (fun h1 => ?_) (fun h1 => ?_)
   ·refine ifY ?_
    obtain ⟨v, hv, _, hvm⟩ := at_some (l := b.vs) (r := r) (by omega)
    obtain ⟨hvo, h0⟩ := (hB.2 v hvm).vers
    have evd : b.vs.getD r [] = v := getD_of hv
    refine Ex.mk _ (jx_versions (r := r) rfl hv) ?_
    refine Ex.mk _ rfl ?_
    refine LoopG.at (n0 := 3) rfl (loop_up mixed (m := false) (fun q => [(1, eEvenings evs), (5, remA b evs r), (6, n' r), (7, .ptr 2 0), (13, eVersions b.vs), (14, n' b.vs.length), (15, n' r), (20, eEvenings evs), (21, n' evs.length), (22, n' q)]) (fun _ => [(1, .row (remL b.vs evs r).length), (2, vBox v)]) (fun q => ∀ e ∈ evs.take q, Noted (plays v 0 e.1) e.2) evs.length 2 (leb rfl) (fun _ h => by simp at h) ?_ ?_ ?_)
    ·exact ⟨⟨_, rfl, Weak.refl _ _, under_eEvenings _ _⟩, ⟨_, rfl, Weak.refl _ _, ⟨under_ints _ _, ltb rfl⟩⟩, wp rfl trivial, wp rfl (ltb rfl), ⟨_, rfl, Weak.refl _ _, under_eVersions _ _⟩, wp rfl trivial, wp rfl trivial, ⟨_, rfl, Weak.refl _ _, under_eEvenings _ _⟩, wp rfl trivial, wp rfl trivial, trivial⟩
    ·exact ⟨bk rfl rfl, bk rfl rfl, trivial⟩
    ·intro q hq hJ
     refine If.mk (fun h2 => ?_) (fun h2 => ?_)
     ·refine ifY ?_
      obtain ⟨e, he, _, hem⟩ := at_some (l := evs) (r := q) (by omega)
      obtain ⟨⟨hle1, hle2⟩, hle3⟩ := hE e hem
      obtain ⟨hc1, hc2⟩ := hle1.cues (by omega)
      refine Ex.mk _ (jx_evenings (r := q) rfl he) ?_
      refine Ex.mk _ rfl ?_
      refine CallG.pure _ (c_played hvo h0 hc1 hc2) ?_
      refine CallG.bool (c_noted _ _ (by rw [plays_length]; omega) (by omega)) (fun h3 => ?_) (fun h3 => ?_)
      ·refine ifN ?_
       refine Side.mk (fits64 (by omega)) ?_
       refine ⟨leb rfl, rfl, by omega, ?_, ⟨⟨_, rfl, Weak.refl _ _, under_eEvenings _ _⟩, ⟨_, rfl, Weak.refl _ _, ⟨under_ints _ _, ltb rfl⟩⟩, wp rfl trivial, wp rfl (ltb rfl), ⟨_, rfl, Weak.refl _ _, under_eVersions _ _⟩, wp rfl trivial, wp rfl trivial, ⟨_, rfl, Weak.refl _ _, under_eEvenings _ _⟩, wp rfl trivial, wp rfl trivial, trivial⟩, ⟨bk rfl rfl, bk rfl rfl, trivial⟩, trivial⟩
       obtain ⟨hq1, rfl⟩ := List.getElem?_eq_some_iff.1 he
       exact all_snoc (p := fun e : Evening => Noted (plays v 0 e.1) e.2) hq1 hJ h3
      ·refine ifY ?_
       refine ⟨leb rfl, ?_⟩
       refine Side.mk (fits64 (by omega)) ?_
       have e5 : remL b.vs evs (r + 1) = remL b.vs evs r := by
        show (if Agrees (b.vs.getD r []) evs then remL b.vs evs r ++ [(r : Int)] else remL b.vs evs r) = _
        rw [evd, if_neg (fun x => h3 (x e hem))]
       refine ⟨leb rfl, rfl, by omega, trivial, ⟨⟨_, rfl, Weak.refl _ _, under_eEvenings _ _⟩, ⟨_, rfl, Weak.of_eq (?_), ⟨under_ints _ _, ltb rfl⟩⟩, ⟨_, rfl, Weak.refl _ _, under_eVersions _ _⟩, wp rfl trivial, wp rfl trivial, trivial⟩, ⟨⟨?_, ltb rfl⟩, trivial⟩, trivial⟩
       ·unfold remA; rw [e5]
       ·show some (Blk.row (remL b.vs evs r).length) = some (Blk.row (remL b.vs evs (r + 1)).length)
        rw [e5]
     ·refine ifN ?_
      refine ⟨leb rfl, ?_⟩
      refine ex_app _ _ (app_int (List.length_map _) (by omega) rfl) ?_
      refine Side.mk (fits64 (by omega)) ?_
      have hag : Agrees v evs := all_end (p := fun e : Evening => Noted (plays v 0 e.1) e.2) (by omega) hJ
      have e5 : remL b.vs evs (r + 1) = remL b.vs evs r ++ [(r : Int)] := by
       show (if Agrees (b.vs.getD r []) evs then remL b.vs evs r ++ [(r : Int)] else remL b.vs evs r) = _
       rw [evd, if_pos hag]
      refine ⟨leb rfl, rfl, by omega, trivial, ⟨⟨_, rfl, Weak.refl _ _, under_eEvenings _ _⟩, ⟨_, rfl, Weak.of_eq (?_), ⟨under_ints _ _, ltb rfl⟩⟩, ⟨_, rfl, Weak.refl _ _, under_eVersions _ _⟩, wp rfl trivial, wp rfl trivial, trivial⟩, ⟨⟨?_, ltb rfl⟩, trivial⟩, ⟨_, rfl, trivial⟩, trivial⟩
      ·unfold remA; rw [e5, List.length_append, List.map_append]; rfl
      ·show some (Blk.row ((remL b.vs evs r).length + 1)) = some (Blk.row (remL b.vs evs (r + 1)).length)
       rw [e5, List.length_append]; rfl
   ·refine ifN ?_
    have er : r = b.vs.length := by omega
    subst er
    refine ⟨leb rfl, .inl rfl, FinG.mk _ rfl rfl ?_⟩
    show AV.sl _ (AV.freezes _ ((remL b.vs evs b.vs.length).map n')) .unk = _
    rw [freezes_ints]
    rfl
set_option maxRecDepth 100000 in
theorem c_Remains_ok {b : Book} (hl : BLen b) (hB : BOk b) {evs : List Evening} (hE : EvsOk b evs) (H : List Blk) : ACall Tryz.prog 26 [eBook b, eEvenings evs] H (.ret (.tup [eInts (remL b.vs evs b.vs.length), .lit (.int .i64 0)])) H := by
 have hel := hE.2
 refine fn_rule (m := false) (fn := Tryz.f26) (c := (Tryz.f26.body).getD .skip) mixed (by kernel_rfl) (by kernel_rfl) (of_decide_eq_true (by kernel_rfl)) ?_ ?_ ?_ H
 ·exact ⟨under_eBook 0 _, under_eEvenings 0 _, trivial⟩
 ·exact under_tup2 (under_eInts 0 _) trivial
 ·refine CallG.bool (c_isBook hl) (fun _ => ?_) (fun x => absurd hB x)
  refine CallG.bool (c_areEvenings hB.fit _ (by omega) (fun e he => ?_)) (fun _ => ?_) (fun x => absurd hE x)
  ·obtain ⟨⟨⟨g1, _⟩, ⟨_, g2⟩⟩, _⟩ := hE.1 e he
   omega
  ·refine ifN ?_
   refine CallG.pure _ (c_remains hB hE.1 (by omega)) ?_
   refine ⟨.inl rfl, FinG.mk _ rfl rfl ?_⟩
   show AV.tup [AV.freeze _ (eInts _), _] = _
   rw [freeze_eInts]
   rfl
def Listed (l : List Int) (n : Int) : Prop := n ∈ l
instance (l : List Int) (n : Int) : Decidable (Listed l n) := by unfold Listed; infer_instance
set_option maxRecDepth 100000 in
theorem c_listed (l : List Int) (n : Int) (hl : l.length < 4611686018427387904) (H : List Blk) : ACall Tryz.prog 30 [eInts l, n' n] H (.ret (.lit (.bool (decide (Listed l n))))) H := by
 refine fn_rule (m := false) (fn := Tryz.f30) (c := (Tryz.f30.body).getD .skip) mixed (by kernel_rfl) (by kernel_rfl) (of_decide_eq_true (by kernel_rfl)) ?_ ?_ ?_ H
 ·exact ⟨under_eInts 0 _, trivial, trivial⟩
 ·trivial
 ·refine LoopG.at (n0 := 0) rfl (loop_up mixed (m := false) (fun r => [(0, eInts l), (1, n' n), (5, n' r)]) (fun _ => []) (fun r => ∀ x ∈ l.take r, x ≠ n) l.length 0 (Nat.zero_le _) (fun _ h => by simp at h) ?_ trivial ?_)
  ·exact ⟨⟨_, rfl, Weak.refl _ _, under_eInts _ _⟩, wp rfl trivial, wp rfl trivial, trivial⟩
  ·intro r hr hI
   refine If.mk (fun h1 => ?_) (fun h1 => ?_)
   ·refine ifY ?_
    have hr' : r < l.length := by omega
    refine Ex.mk _ (ix_ints (r := r) rfl hr') ?_
    refine Ex.mk _ rfl ?_
    refine If.mk (fun h2 => ?_) (fun h2 => ?_)
    ·refine ifY ?_
     exact ⟨Nat.zero_le _, .inl rfl, FinG.yes rfl rfl ((show n ∈ l from h2 ▸ List.getElem_mem hr'))⟩
    ·refine ifN ?_
     refine Side.mk (fits64 (by omega)) ?_
     exact ⟨Nat.zero_le _, rfl, by omega, all_snoc (p := fun x => x ≠ n) hr' hI h2, ⟨⟨_, rfl, Weak.refl _ _, under_eInts _ _⟩, wp rfl trivial, wp rfl trivial, trivial⟩, trivial, trivial⟩
   ·refine ifN ?_
    exact ⟨Nat.zero_le _, .inl rfl, FinG.no rfl rfl (fun x => all_end (p := fun x => x ≠ n) (by omega) hI n x rfl)⟩
end Go.Vm

namespace Go.Vm
open Go.Proofs
def VersL (b : Book) (l : List Int) : Prop := ∀ r, r < l.length → inI (l.getD r 0) 0 (b.vs.length - 1) ∧ (0 < r → l.getD (r - 1) 0 < l.getD r 0)
instance (b : Book) (l : List Int) : Decidable (VersL b l) := by unfold VersL; infer_instance
theorem src_evenings (g : Nat → Option Blk) (l : List Evening) (tl : Tail) : srcT g 2 (.sl l.length (l.flatMap cEvening) tl) = some (l.length, l.flatMap cEvening) := by
 show (if (l.flatMap cEvening).length = l.length * 2 then some (l.length, l.flatMap cEvening) else none) = _
 rw [if_pos (flat2_length (fun _ => rfl) l)]
theorem appT_full {P : Program} {g : Nat → Option Blk} {n sT xT e size bytes len k : Nat} {z : Value} {cells new : List AV} {x : AV} (h1 : tslice P sT = some e) (h2 : tsz P e = some size) (h3 : tz P e = some z) (h4 : tbytes P e = some bytes)
  (h5 : (tsrc P xT && (decide (bytes ≤ 2097152) && decide (z.cells.size = size))) = true) (h6 : srcT g size x = some (k, new)) (h7 : 0 < k) (h8 : cells.length = len * size) (h9 : len + k ≤ 2097152) :
  appT P false g n sT xT (.sl len cells .full) x = some (.sl (len + k) (cells ++ new) (.own n 0 size), .push (.row 0)) := by
 unfold appT
 simp only [h1, h2, h3, h4, h5, h6, if_true]
 rw [if_neg (by omega), if_pos ⟨h8, h9⟩]
 rfl
theorem ACall.empty {P : Program} {f : FuncId} {H H' : List Blk} {r : AEnd} (h : ∀ b cap, ACall P f [.lit (.slice b 0 cap)] H r H') : ACall P f [.sl 0 [] .unk] H r H' := by
 intro O ι w cs hR hargs
 obtain ⟨l⟩ := cs
 match l, hargs with
 | [], x => simp [VRels] at x
 | _ :: _ :: _, x => simp [VRels] at x
 | [c], x =>
  simp only [VRels, VRel, and_true] at x
  obtain ⟨base, cap, rfl, _, _⟩ := x
  exact h base cap O ι w _ hR (by simp [VRels, VRel])
set_option maxRecDepth 100000 in
theorem c_clone00 (cap : Nat) (H : List Blk) : ACall Tryz.prog 127 [.lit (.slice none 0 cap)] H (.ret (.lit (.slice none 0 0))) H := by
 refine fn_rule (m := false) (fn := Tryz.f127) (c := (Tryz.f127.body).getD .skip) mixed (by kernel_rfl) (by kernel_rfl) (of_decide_eq_true (by kernel_rfl)) ?_ ?_ ?_ H
 ·exact ⟨trivial, trivial⟩
 ·trivial
 ·refine ifY ?_
  exact ⟨.inl rfl, FinG.mk _ rfl rfl rfl⟩
set_option maxRecDepth 100000 in
theorem c_clone01 (a : Addr) (cap : Nat) (H : List Blk) : ACall Tryz.prog 127 [.lit (.slice (some a) 0 cap)] H (.ret (.sl 0 [] .full)) H := by
 refine fn_rule (m := false) (fn := Tryz.f127) (c := (Tryz.f127.body).getD .skip) mixed (by kernel_rfl) (by kernel_rfl) (of_decide_eq_true (by kernel_rfl)) ?_ ?_ ?_ H
 ·exact ⟨trivial, trivial⟩
 ·exact ⟨trivial, trivial⟩
 ·refine ifN ?_
  refine Ex.mk _ rfl ?_
  exact ⟨.inl rfl, FinG.mk _ rfl rfl rfl⟩
theorem ACall.more {P : Program} {f : FuncId} {args : List AV} {H H' : List Blk} {v v' : AV} (h : ACall P f args H (.ret v) H') (B : Blk) (hw : WeakH (H' ++ [.row 0]) v v') (hB : B = .row 0) : ACall P f args H (.ret v') (H' ++ [B]) := by
 subst hB
 intro O ι w cs hR hargs
 refine (h O ι w cs hR hargs).mono ?_
 rintro e w' ⟨ι', hend, hR', hev, hnon⟩
 cases e with
 | panicked chain => exact hend.elim
 | outgrown => exact hend.elim
 | returned c =>
  have hend' : VRel ⟨H', ι', w'⟩ v c := hend
  have hev2 : Ev ⟨H', ι', w'⟩ ⟨H' ++ [.row 0], ι', w'⟩ := Ev.fresh hR' (w' := w') (H2 := [.row 0]) (fun _ _ => rfl) ⟨rfl, rfl⟩
  have hR2 : Rel ⟨H' ++ [.row 0], ι', w'⟩ := Rel.fresh hR' (w' := w') (H2 := [.row 0]) (fun _ _ => rfl) ⟨rfl, rfl⟩
  exact ⟨ι', hw O ι' w' c (hend'.ev hev2), hR2, hev.trans hev2, fun id hn hx => hnon id hn hx⟩
theorem WeakH.own {H : List Blk} {r : Nat} (sz : Nat) (hr : H[r]? = some (.row 0)) : WeakH H (.lit (.slice none 0 0)) (.sl 0 [] (.own r 0 sz)) := fun _ _ _ _ h => by
 simp only [VRel] at h ⊢
 exact ⟨none, 0, h, Nat.le_refl _, .inl trivial, by simp, 0, hr, Nat.le_refl _, fun _ => .inl rfl⟩
theorem WeakH.fullOwn {H : List Blk} {r : Nat} (sz : Nat) (hr : H[r]? = some (.row 0)) : WeakH H (.sl 0 [] .full) (.sl 0 [] (.own r 0 sz)) := fun _ _ _ _ h => by
 simp only [VRel] at h ⊢
 obtain ⟨base, cap, hc, hle, hcells, ht⟩ := h
 exact ⟨base, cap, hc, hle, hcells, by simp, 0, hr, Nat.le_refl _, fun _ => .inl ht⟩
set_option maxRecDepth 100000 in
theorem CallG.clone {l : List Evening} {t : Trie Blk} {n : Nat} {K Kp : AV → Trie Blk → Nat → Nat → Prop} (hl : l.length < 1000000) (hn : n ≤ noLo) (k : K (.sl l.length (l.flatMap cEvening) (.own n 0 2)) (set t n (.row 0)) (n + 1) noLo) : CallG Tryz.prog 127 [eEvenings l] t n K Kp := by
 refine .ret fun H hH => ?_
 have hlen := hH.len
 have hrow : (H ++ [Blk.row 0])[n]? = some (.row 0) := by rw [← hlen]; simp
 cases l with
 | nil =>
  refine ⟨_, _, _, noLo, H ++ [.row 0], hH.push _, ?_, Keep.append _ _ _, k⟩
  refine ACall.empty fun b cap => ?_
  cases b with
  | none => exact (c_clone00 cap H).more (.row 0) (WeakH.own 2 hrow) rfl
  | some a => exact (c_clone01 a cap H).more (.row 0) (WeakH.fullOwn 2 hrow) rfl
 | cons e l =>
  have key : ∃ H', HT (setL t [(n, .row 0)]) (n + 1) H' ∧ ACall Tryz.prog 127 [eEvenings (e :: l)] H (.ret (.sl (e :: l).length ((e :: l).flatMap cEvening) (.own n 0 2))) H' ∧ Keep H H' noLo := by
   refine fn_new (m := false) (fn := Tryz.f127) (c := (Tryz.f127.body).getD .skip) mixed (by kernel_rfl) (by kernel_rfl) (of_decide_eq_true (by kernel_rfl)) ?_ H hH
   refine ifN ?_
   refine ex_app _ _ (appT_full (e := 135) (bytes := 48) (z := .agg #[.slice none 0 0, .slice none 0 0]) (by kernel_rfl) (by kernel_rfl) (by kernel_rfl) (by kernel_rfl) (by kernel_rfl) (src_evenings _ (e :: l) _) (by simp) rfl (by simp at hl ⊢; omega)) ?_
   refine ⟨.inl rfl, hn, rfl, ⟨⟨get_set_same _ _ _, Nat.lt_succ_self _⟩, trivial⟩, FinF.mk _ rfl rfl ?_⟩
   show AV.sl (0 + (e :: l).length) ([] ++ (e :: l).flatMap cEvening) _ = _
   rw [List.nil_append, Nat.zero_add]
  obtain ⟨H', h1, h2, h3⟩ := key
  exact ⟨_, _, _, noLo, H', h1, h2, h3, k⟩
theorem app_evening {g : Nat → Option Blk} {n len id gen : Nat} {cells : List AV} {e : Evening} (h1 : cells.length = len * 2) (h2 : len < 2097152) (hg : g id = some (.row gen)) :
  appT Tryz.prog false g n 73 73 (.sl len cells (.own id gen 2)) (.sl 1 (cEvening e) .full) = some (.sl (len + 1) (cells ++ cEvening e) (.own id (gen + 1) 2), .set id (.row (gen + 1))) :=
 appT_own (e := 135) (bytes := 48) (z := .agg #[.slice none 0 0, .slice none 0 0]) (by kernel_rfl) (by kernel_rfl) (by kernel_rfl) (by kernel_rfl) (by kernel_rfl) rfl (by omega) h1 (by omega) hg rfl
theorem wk_evs {l : List Evening} {e : Evening} {tl : Tail} (H : List Blk) : WeakH H (.sl (l.length + 1) (l.flatMap cEvening ++ cEvening e) tl) (eEvenings (l ++ [e])) := by
 unfold eEvenings
 rw [List.length_append, List.flatMap_append]
 have : ([e] : List Evening).flatMap cEvening = cEvening e := rfl
 rw [this]
 exact WeakH.tail _ _ _ H
set_option maxRecDepth 100000 in
theorem c_some {b : Book} (hB : BOk b) {evs : List Evening} (hE : ∀ e ∈ evs, EvOk b e) (hl : evs.length < 1000) (hne : remL b.vs evs b.vs.length ≠ []) (H : List Blk) : ACall Tryz.prog 126 [eBook b, eEvenings evs] H (.ret (eInts (remL b.vs evs b.vs.length))) H := by
 refine fn_rule (m := false) (fn := Tryz.f126) (c := (Tryz.f126.body).getD .skip) mixed (by kernel_rfl) (by kernel_rfl) (of_decide_eq_true (by kernel_rfl)) ?_ ?_ ?_ H
 ·exact ⟨under_eBook 0 _, under_eEvenings 0 _, trivial⟩
 ·exact under_eInts 0 _
 ·refine CallG.pure _ (c_remains hB hE hl) ?_
  refine If.mk (fun h => absurd (List.length_eq_zero_iff.1 (by omega)) hne) (fun _ => ?_)
  refine ifN ?_
  refine ⟨.inl rfl, FinG.mk _ rfl rfl ?_⟩
  exact freeze_eInts _ _
set_option maxRecDepth 100000 in
theorem c_left {b : Book} (hl : BLen b) (hB : BOk b) {evs : List Evening} (hE : EvsOk b evs) {now : Evening} (hN : EvOk b now) (hne : remL b.vs (evs ++ [now]) b.vs.length ≠ []) (H : List Blk) :
  ACall Tryz.prog 67 [eBook b, .lit (.bool true), eEvenings evs, eEvening now] H (.ret (.tup [eInts (remL b.vs (evs ++ [now]) b.vs.length), .lit (.int .i64 0)])) H := by
 have hel := hE.2
 obtain ⟨⟨⟨hn1, hn2⟩, ⟨hn3, hn4⟩⟩, hn5⟩ := hN
 refine fn_rule (m := false) (fn := Tryz.f67) (c := (Tryz.f67.body).getD .skip) mixed (by kernel_rfl) (by kernel_rfl) (of_decide_eq_true (by kernel_rfl)) ?_ ?_ ?_ H
 ·exact ⟨under_eBook 0 _, trivial, under_eEvenings 0 _, under_eEvening 0 _, trivial⟩
 ·exact under_tup2 (under_eInts 0 _) trivial
 ·refine CallG.bool (c_isBook hl) (fun _ => ?_) (fun x => absurd hB x)
  refine CallG.bool (c_areEvenings hB.fit _ (by omega) (fun e he => ?_)) (fun _ => ?_) (fun x => absurd hE x)
  ·obtain ⟨⟨⟨g1, _⟩, ⟨_, g2⟩⟩, _⟩ := hE.1 e he
   omega
  ·refine CallG.bool (c_isEvening hB.fit now (by omega) (by omega)) (fun _ => ?_) (fun x => absurd ⟨⟨⟨hn1, hn2⟩, ⟨hn3, hn4⟩⟩, hn5⟩ x)
   refine ifN ?_
   refine CallG.fine rfl rfl ?_
   refine CallG.inline (m := false) (fn := Tryz.f125) (c := (Tryz.f125.body).getD .skip) mixed (by kernel_rfl) (by kernel_rfl) (of_decide_eq_true (by kernel_rfl)) ?_
   refine CallG.clone (by omega) (leb rfl) ?_
   refine ex_app _ _ (app_evening (flat2_length (fun _ => rfl) _) (by omega) rfl) ?_
   refine CallG.weak _ (.cons (fun H => WeakH.refl _ H) (.cons wk_evs .nil)) (c_some hB (fun e he => ?_) (by rw [List.length_append]; simp; omega) hne) ?_
   ·rcases List.mem_append.1 he with he | he
    ·exact hE.1 e he
    ·rw [List.mem_singleton] at he; subst he; exact ⟨⟨⟨hn1, hn2⟩, ⟨hn3, hn4⟩⟩, hn5⟩
   ·refine ⟨.inr rfl, [], rfl, rfl, ⟨_, rfl⟩, ?_⟩
    refine If.mk (fun _ => ?_) (fun h => absurd (by decide) h)
    refine ifN ?_
    refine ⟨.inl rfl, FinG.mk _ rfl rfl ?_⟩
    show AV.tup [AV.freeze _ (eInts _), _] = _
    rw [freeze_eInts]
    rfl
end Go.Vm

namespace Go.Vm
open Go.Proofs
def plOf (b : Book) (cues : List Int) (i : Int) : List Int := plays (b.vs.getD i.toNat []) 0 cues
def mix (o t : List Int) : List Int := List.zipWith (fun a b => if a = b then a else -1) o t
def sureL (b : Book) (cues : List Int) : List Int → List Int
 | [] => []
 | i :: l => l.foldl (fun o j => mix o (plOf b cues j)) (plOf b cues i)
theorem appT_mrow {P : Program} {m : Bool} {g : Nat → Option Blk} {n sT xT e size bytes len k id gen : Nat} {z : Value} {cells new : List AV} {x : AV} (h1 : tslice P sT = some e) (h2 : tsz P e = some size) (h3 : tz P e = some z) (h4 : tbytes P e = some bytes)
  (h5 : (tsrc P xT && (decide (bytes ≤ 2097152) && decide (z.cells.size = size))) = true) (h6 : srcT g size x = some (k, new)) (h7 : 0 < k) (h8 : cells.length = len * size) (h9 : len + k ≤ 2097152) (h10 : g id = some (.mrow gen cells)) (h11 : new.all AV.one = true) :
  appT P m g n sT xT (.msl id gen len size) x = some (.msl id (gen + 1) (len + k) size, .set id (.mrow (gen + 1) (cells ++ new))) := by
 unfold appT
 simp only [h1, h2, h3, h4, h5, h6, h10, if_true]
 rw [if_neg (by omega), if_pos ⟨trivial, trivial, by omega, h9, h11⟩, List.take_of_length_le (by omega)]
theorem app_intM {m : Bool} {g : Nat → Option Blk} {n len id gen : Nat} {cells : List AV} {a : Int} (h1 : cells.length = len) (h2 : len < 2097152) (hg : g id = some (.mrow gen cells)) :
  appT Tryz.prog m g n 30 30 (.msl id gen len 1) (.sl 1 [n' a] .full) = some (.msl id (gen + 1) (len + 1) 1, .set id (.mrow (gen + 1) (cells ++ [n' a]))) :=
 appT_mrow (e := 3) (bytes := 8) (z := .int .i64 0) (by kernel_rfl) (by kernel_rfl) (by kernel_rfl) (by kernel_rfl) (by kernel_rfl) rfl (by omega) (by omega) (by omega) hg rfl
abbrev c0s (j : Nat) (cs : List Int) : List Int := (j : Int) :: cs
set_option maxRecDepth 100000 in
theorem c_played17 {v : Vers} {k : Nat} {c0 : Int} {cs : List Int} (hv : VersOk v k) (h0 : 0 < v.length) (hc : CuesOk k (c0 :: cs)) (hL : cs.length < 1000000) {t : Trie Blk} (H : List Blk) (hH : HT t 17 H) :
  ∃ H', HT (setL t [(21, .mrow cs.length ((plays v 0 (c0 :: cs)).map n')), (22, .defd), (23, .defd), (24, .defd), (25, .defd)]) 26 H' ∧ ACall Tryz.prog 78 [eVersion v, eInts (c0 :: cs)] H (.ret (.tup [.msl 21 cs.length (cs.length + 1) 1, ePlayer v (after v 0 (c0 :: cs) : Nat)])) H' ∧ Keep H H' noLo := by
 refine fn_new (m := true) (fn := Tryz.f78) (c := (Tryz.f78.body).getD .skip) mixed (by kernel_rfl) (by kernel_rfl) (of_decide_eq_true (by kernel_rfl)) ?_ H hH
 refine LoopG.round (m := true) mixed ?_
 refine If.mk (fun _ => ?_) (fun h => absurd (by simp) h)
 refine ifY ?_
 have hck := hc c0 (by simp)
 obtain ⟨j, rfl⟩ : ∃ j : Nat, c0 = j := ⟨c0.toNat, by omega⟩
 obtain ⟨x, hx1, hx2, hx3, hx4⟩ := mv_at (s := 0) (c := j) hv h0 (by omega)
 refine Ex.mk _ (jx_ints (r := 0) rfl rfl) ?_
 refine Ex.mk _ rfl ?_
 refine CallG.pure _ (c_hears hx1 hx2) ?_
 refine Ex.mk _ rfl ?_
 refine Side.mk (by unfold fitsK; kernel_rfl) ?_
 have hlen : (c0s j cs).length = cs.length + 1 := rfl
 refine loop_up mixed (m := true) (fun r => [(5, .ptr 18 0), (6, .ptr 19 0), (7, .msl 21 r (r + 1) 1), (14, eInts (c0s j cs)), (15, n' (c0s j cs).length), (16, n' (r + 1 : Nat))])
  (fun r => [(18, .box [.lit (.slice none 0 0), .lit (.int .i64 0)] 143), (19, .box [eStates v, n' (after v 0 ((c0s j cs).take (r + 1)) : Nat)] 143), (20, .box [eStates v, n' (mv v 0 j).1] 143), (21, .mrow r ((plays v 0 ((c0s j cs).take (r + 1))).map n'))]) (fun _ => True) cs.length 19 (leb rfl) trivial ?_ ?_ ?_
 ·exact ⟨wp rfl (ltb rfl), wp rfl (ltb rfl), wp rfl (ltb rfl), ⟨_, rfl, Weak.refl _ _, under_eInts _ _⟩, wp rfl trivial, wp rfl trivial, trivial⟩
 ·refine ⟨bk rfl rfl, ⟨?_, ltb rfl⟩, bk rfl rfl, bk rfl rfl, trivial⟩
  show some (Blk.box [eStates v, n' (mv v 0 j).1] 143) = some (Blk.box [eStates v, n' (((mv v 0 j).1.toNat : Nat) : Int)] 143)
  rw [hx4]
 ·intro r hr _
  refine If.mk (fun h1 => ?_) (fun h1 => ?_)
  ·refine ifY ?_
   have h1' : ((r + 1 : Nat) : Int) < ((c0s j cs).length : Nat) := h1
   obtain ⟨c, hc1, hc2, hc3⟩ := at_some (l := c0s j cs) (r := r + 1) (by omega)
   have hck' := hc c hc3
   obtain ⟨j', rfl⟩ : ∃ j : Nat, c = j := ⟨c.toNat, by omega⟩
   have hsl := after_lt (l := (c0s j cs).take (r + 1)) hv (fun c hc' => hc c (List.mem_of_mem_take hc')) h0
   obtain ⟨y, hy1, hy2, hy3, hy4⟩ := mv_at (s := after v 0 ((c0s j cs).take (r + 1))) (c := j') hv hsl (by omega)
   refine Ex.mk _ (jx_ints (r := r + 1) rfl hc1) ?_
   refine Ex.mk _ rfl ?_
   refine CallG.pure _ (c_hears hy1 hy2) ?_
   refine ex_app _ _ (app_intM (by rw [List.length_map, plays_length, List.length_take]; omega) (by omega) rfl) ?_
   refine Side.mk (fits64 (by omega)) ?_
   have ea : after v 0 ((c0s j cs).take (r + 1 + 1)) = (mv v (after v 0 ((c0s j cs).take (r + 1))) j').1.toNat := by rw [hc2, after_snoc]; rfl
   have ep : plays v 0 ((c0s j cs).take (r + 1 + 1)) = plays v 0 ((c0s j cs).take (r + 1)) ++ [(mv v (after v 0 ((c0s j cs).take (r + 1))) j').2] := by rw [hc2, plays_snoc]; rfl
   refine ⟨leb rfl, rfl, by omega, trivial, ⟨wp rfl (ltb rfl), wp rfl (ltb rfl), wp rfl (ltb rfl), ⟨_, rfl, Weak.refl _ _, under_eInts _ _⟩, wp rfl trivial, wp rfl trivial, trivial⟩, ⟨bk rfl rfl, ⟨?_, ltb rfl⟩, bk rfl rfl, ⟨?_, ltb rfl⟩, trivial⟩, ⟨_, rfl, ⟨under_states _ _, trivial, trivial⟩⟩, ⟨_, rfl, ⟨under_states _ _, trivial, trivial⟩⟩, ⟨_, rfl, unders_append (under_ints _ _) ⟨trivial, trivial⟩⟩, trivial⟩
   ·show some (Blk.box [eStates v, n' (mv v (after v 0 ((c0s j cs).take (r + 1))) j').1] 143) = some (Blk.box [eStates v, n' (after v 0 ((c0s j cs).take (r + 1 + 1)) : Nat)] 143)
    rw [ea, hy4]
   ·show some (Blk.mrow (r + 1) ((plays v 0 ((c0s j cs).take (r + 1))).map n' ++ [n' (mv v (after v 0 ((c0s j cs).take (r + 1))) j').2])) = some (Blk.mrow (r + 1) ((plays v 0 ((c0s j cs).take (r + 1 + 1))).map n'))
    rw [ep, List.map_append]; rfl
  ·refine ifN ?_
   have h1' : ¬ (((r + 1 : Nat) : Int) < ((c0s j cs).length : Nat)) := h1
   have er : r = cs.length := by omega
   subst er
   have et : (c0s j cs).take (cs.length + 1) = c0s j cs := List.take_of_length_le (by simp)
   refine ⟨leb rfl, .inl rfl, leb rfl, rfl, ⟨⟨?_, ltb rfl⟩, bk rfl rfl, bk rfl rfl, bk rfl rfl, bk rfl rfl, trivial⟩, FinF.mk _ rfl rfl ?_⟩
   ·show some (Blk.mrow cs.length ((plays v 0 ((c0s j cs).take (cs.length + 1))).map n')) = _
    rw [et]
   ·show AV.tup [.msl 21 cs.length (cs.length + 1) 1, .agg [eStates v, n' (after v 0 ((c0s j cs).take (cs.length + 1)) : Nat)]] = _
    rw [et]; rfl
theorem wk_ev0 (H : List Blk) : WeakH H (.agg [.lit (.slice none 0 0), .lit (.slice none 0 0)]) (eEvening ([], [])) := wk_agg (.cons (WeakH.nil) (.cons (WeakH.nil) .nil))
theorem remL_mem {vs : List Vers} {evs : List Evening} : ∀ {r : Nat} {j : Int}, j ∈ remL vs evs r → 0 ≤ j ∧ j < r
 | 0, _, h => by cases h
 | r + 1, j, h => by
  unfold remL at h
  split at h
  ·rcases List.mem_append.1 h with h | h
   ·have := remL_mem h; omega
   ·rw [List.mem_singleton] at h; omega
  ·have := remL_mem h; omega
theorem mix_nil (t : List Int) : mix [] t = [] := rfl
theorem foldl_mix_nil (b : Book) : ∀ (l : List Int), l.foldl (fun o j => mix o (plOf b [] j)) [] = []
 | [] => rfl
 | j :: l => by
  rw [List.foldl_cons, mix_nil]
  exact foldl_mix_nil b l
theorem sureL_nil (b : Book) : ∀ (l : List Int), sureL b [] l = []
 | [] => rfl
 | _ :: l => foldl_mix_nil b l
theorem pl_at {b : Book} (hB : BOk b) {cues : List Int} {j : Int} (hj : 0 ≤ j ∧ j < b.vs.length) : ∃ v, b.vs[j.toNat]? = some v ∧ plOf b cues j = plays v 0 cues ∧ VersOk v b.cues.toNat ∧ 0 < v.length := by
 have hlt : j.toNat < b.vs.length := by omega
 refine ⟨b.vs[j.toNat], List.getElem?_eq_getElem hlt, ?_, ?_⟩
 ·unfold plOf; rw [getD_of (List.getElem?_eq_getElem hlt)]
 ·exact (hB.2 _ (List.getElem_mem hlt)).vers
set_option maxRecDepth 100000 in
theorem c_sure0 {b : Book} (hl : BLen b) (hB : BOk b) {evs : List Evening} (hE : EvsOk b evs) {i : Int} {R : List Int} (hR : remL b.vs (evs ++ [([], [])]) b.vs.length = i :: R) (H : List Blk) :
  ACall Tryz.prog 27 [eBook b, eEvenings evs, eInts []] H (.ret (.tup [eInts [], .lit (.int .i64 0)])) H := by
 have hC : LList b [] := ⟨by simp, fun c h => by cases h⟩
 have hmem : ∀ j ∈ i :: R, 0 ≤ j ∧ j < b.vs.length := fun j hj => remL_mem (hR ▸ hj)
 have hlen := remL_length b.vs (evs ++ [([], [])]) b.vs.length
 rw [hR] at hlen
 have hvl := hB.1.2.2
 unfold inI at hvl
 refine fn_rule (m := false) (fn := Tryz.f27) (c := (Tryz.f27.body).getD .skip) mixed (by kernel_rfl) (by kernel_rfl) (of_decide_eq_true (by kernel_rfl)) ?_ ?_ ?_ H
 ·exact ⟨under_eBook 0 _, under_eEvenings 0 _, under_eInts 0 _, trivial⟩
 ·exact under_tup2 (under_eInts 0 _) trivial
 ·refine CallG.bool (c_isBook hl) (fun _ => ?_) (fun x => absurd hB x)
  refine CallG.bool (c_areCues hB.fit _ (by simp)) (fun _ => ?_) (fun x => absurd hC x)
  have h1c := hB.1.1.1
  have hN : EvOk b ([], []) := ⟨⟨hC, ⟨fun c h => (by cases h), (by simp)⟩⟩, rfl⟩
  have hL : ∀ H, ACall Tryz.prog 67 [eBook b, .lit (.bool true), eEvenings evs, eEvening ([], [])] H (.ret (.tup [eInts (i :: R), .lit (.int .i64 0)])) H := fun H => by
   have := c_left hl hB hE hN (by rw [hR]; simp) H
   rwa [hR] at this
  refine CallG.weak _ (.cons (fun H => WeakH.refl _ H) (.cons (fun H => WeakH.refl _ H) (.cons (fun H => WeakH.refl _ H) (.cons wk_ev0 .nil)))) hL ?_
  refine If.mk (fun _ => ?_) (fun h => absurd (by decide) h)
  refine ifN ?_
  refine LoopG.at (n0 := 17) rfl (loop_up mixed (m := false) (fun r => [(2, eInts []), (3, .ptr 0 0), (10, eInts []), (34, eInts (i :: R)), (35, n' (i :: R).length), (36, n' r)]) (fun _ => [(0, bBox b)]) (fun _ => True) (i :: R).length 17 (leb rfl) trivial ?_ ?_ ?_)
  ·exact ⟨⟨_, rfl, Weak.refl _ _, under_eInts _ _⟩, wp rfl (ltb rfl), ⟨_, rfl, Weak.nil _, under_eInts _ _⟩, ⟨_, rfl, Weak.refl _ _, under_eInts _ _⟩, wp rfl trivial, wp rfl trivial, trivial⟩
  ·exact ⟨bk rfl rfl, trivial⟩
  ·intro r hr _
   refine If.mk (fun h1 => ?_) (fun h1 => ?_)
   ·refine ifY ?_
    obtain ⟨j, hj1, hj2, hj3⟩ := at_some (l := i :: R) (r := r) (by omega)
    have hj := hmem j hj3
    obtain ⟨v, hv, _, hvo, h0⟩ := pl_at hB (cues := []) hj
    refine Ex.mk _ (jx_ints (r := r) rfl hj1) ?_
    refine Ex.mk _ rfl ?_
    refine Ex.mk _ (jx_versions (r := j.toNat) (by omega) hv) ?_
    refine Ex.mk _ rfl ?_
    refine CallG.pure _ (c_played (cues := []) hvo h0 (fun c h => by cases h) (by simp)) ?_
    refine If.mk (fun h2 => ?_) (fun h2 => ?_)
    ·refine ifY ?_
     refine LoopG.round (m := false) mixed ?_
     refine If.mk (fun h => absurd h ((show ¬ ((0 : Int) < 0) by omega))) (fun _ => ?_)
     refine ifN ?_
     refine Side.mk (fits64 (by omega)) ?_
     exact ⟨leb rfl, rfl, by omega, trivial, ⟨⟨_, rfl, Weak.refl _ _, under_eInts _ _⟩, wp rfl (ltb rfl), ⟨_, rfl, Weak.refl _ _, under_eInts _ _⟩, ⟨_, rfl, Weak.refl _ _, under_eInts _ _⟩, wp rfl trivial, wp rfl trivial, trivial⟩, ⟨bk rfl rfl, trivial⟩, trivial⟩
    ·refine ifN ?_
     refine LoopG.round (m := false) mixed ?_
     refine If.mk (fun h => absurd h ((show ¬ ((0 : Int) < 0) by omega))) (fun _ => ?_)
     refine ifN ?_
     refine Side.mk (fits64 (by omega)) ?_
     exact ⟨leb rfl, rfl, by omega, trivial, ⟨⟨_, rfl, Weak.refl _ _, under_eInts _ _⟩, wp rfl (ltb rfl), ⟨_, rfl, Weak.refl _ _, under_eInts _ _⟩, ⟨_, rfl, Weak.refl _ _, under_eInts _ _⟩, wp rfl trivial, wp rfl trivial, trivial⟩, ⟨bk rfl rfl, trivial⟩, trivial⟩
   ·refine ifN ?_
    refine ⟨leb rfl, .inl rfl, FinG.mk _ rfl rfl ?_⟩
    rfl
set_option maxRecDepth 100000 in
theorem load_int {l : List Int} {q : Nat} {x : Int} (h : l[q]? = some x) : loadA Tryz.prog 3 ((l.map n').drop (q * 1)) = some (n' x) := by
 have hlt := (List.getElem?_eq_some_iff.1 h).1
 rw [Nat.mul_one, List.drop_eq_getElem_cons (by simpa using hlt)]
 have : (l.map n')[q]'(by simpa using hlt) = n' x := by
  rw [List.getElem_map]
  exact congrArg n' (List.getElem?_eq_some_iff.1 h).2
 rw [this]
 rfl
set_option maxRecDepth 100000 in
theorem ix_msl {id gen : Nat} {len : Nat} {i : Int} {r : Nat} (hi : i = r) (h : r < len) : indexOp Tryz.prog 30 (.msl id gen len 1) (.lit (.int .i64 i)) = some (.mptr id gen (r * 1)) := by
 subst hi
 have := index_msl (P := Tryz.prog) (t := 30) (elem := 3) (n := 1) (id := id) (gen := gen) (len := len) (sz := 1) (k := .i64) (i := r) (by kernel_rfl) (by kernel_rfl) ⟨by omega, by omega⟩
 rwa [Int.toNat_natCast] at this
theorem plOf_length (b : Book) (cues : List Int) (j : Int) : (plOf b cues j).length = cues.length := plays_length _ _ _
theorem mix_length {o t : List Int} (h : o.length = t.length) : (mix o t).length = o.length := by
 unfold mix; rw [List.length_zipWith]; omega
def outR (b : Book) (cues : List Int) (o : List Int) (R : List Int) (r : Nat) : List Int := (R.take r).foldl (fun o j => mix o (plOf b cues j)) o
theorem outR_succ {b : Book} {cues o R : List Int} {r : Nat} {j : Int} (h : R[r]? = some j) : outR b cues o R (r + 1) = mix (outR b cues o R r) (plOf b cues j) := by
 have hlt := (List.getElem?_eq_some_iff.1 h).1
 have he : R[r] = j := (List.getElem?_eq_some_iff.1 h).2
 unfold outR
 rw [take_snoc hlt, List.foldl_append, he]
 rfl
theorem outR_length {b : Book} {cues o R : List Int} (ho : o.length = cues.length) : ∀ r, r ≤ R.length → (outR b cues o R r).length = cues.length
 | 0, _ => ho
 | r + 1, hr => by
  have ih := outR_length (b := b) (R := R) ho r (by omega)
  rw [outR_succ (List.getElem?_eq_getElem (by omega)), mix_length (by rw [ih, plOf_length]), ih]
def mid (o t : List Int) (q : Nat) : List Int := (mix o t).take q ++ o.drop q
theorem mid_length {o t : List Int} (h : o.length = t.length) {q : Nat} (hq : q ≤ o.length) : (mid o t q).length = o.length := by
 unfold mid; rw [List.length_append, List.length_take, List.length_drop, mix_length h]; omega
theorem mid_at {o t : List Int} (h : o.length = t.length) {q : Nat} {x : Int} (hx : o[q]? = some x) : (mid o t q)[q]? = some x := by
 have hlt := (List.getElem?_eq_some_iff.1 hx).1
 unfold mid
 rw [List.getElem?_append_right (by rw [List.length_take, mix_length h]; omega), List.length_take, mix_length h, List.getElem?_drop]
 have e : q + (q - min q o.length) = q := by omega
 rw [e]; exact hx
theorem mix_at {o t : List Int} {q : Nat} {x y : Int} (hx : o[q]? = some x) (hy : t[q]? = some y) : (mix o t)[q]? = some (if x = y then x else -1) := by
 unfold mix; rw [List.getElem?_zipWith, hx, hy]
theorem mid_split {o t : List Int} {q : Nat} {x y : Int} (_h : o.length = t.length) (hx : o[q]? = some x) (hy : t[q]? = some y) : mid o t (q + 1) = (mid o t q).take q ++ [if x = y then x else -1] ++ (mid o t q).drop (q + 1) := by
 have hlt := (List.getElem?_eq_some_iff.1 hx).1
 have hm := mix_at hx hy
 have hmlt := (List.getElem?_eq_some_iff.1 hm).1
 have hme := (List.getElem?_eq_some_iff.1 hm).2
 unfold mid
 rw [take_snoc hmlt, hme, List.take_append_of_le_length (by rw [List.length_take]; omega), List.take_take, Nat.min_self, List.drop_append, List.length_take, List.drop_drop]
 have e1 : (List.take q (mix o t)).drop (q + 1) = [] := List.drop_eq_nil_of_le (by rw [List.length_take]; omega)
 have e2 : q + (q + 1 - min q (mix o t).length) = q + 1 := by omega
 rw [e1, List.nil_append, e2]
theorem mid_same {o t : List Int} {q : Nat} {x : Int} (h : o.length = t.length) (hx : o[q]? = some x) (hy : t[q]? = some x) : mid o t (q + 1) = mid o t q := by
 rw [mid_split h hx hy, if_pos rfl]
 have hm := mid_at h hx
 have hlt := (List.getElem?_eq_some_iff.1 hm).1
 have he := (List.getElem?_eq_some_iff.1 hm).2
 have e : (mid o t q).take q ++ [x] = (mid o t q).take (q + 1) := by rw [take_snoc hlt, he]
 rw [e, List.take_append_drop]
theorem mid_end {o t : List Int} (h : o.length = t.length) {q : Nat} (hq : o.length ≤ q) : mid o t q = mix o t := by
 unfold mid
 rw [List.take_of_length_le (by rw [mix_length h]; exact hq), List.drop_eq_nil_of_le hq, List.append_nil]
set_option maxRecDepth 100000 in
theorem store_mptr {g : Nat → Option Blk} {id gen q : Nat} {l : List Int} {a : Int} (hg : g id = some (.mrow gen (l.map n'))) (hq : q < l.length) :
  storeT Tryz.prog g 3 (.mptr id gen (q * 1)) (.lit (.int .i64 a)) = some (.set id (.mrow gen ((l.take q ++ [a] ++ l.drop (q + 1)).map n'))) := by
 have hs : tsz Tryz.prog 3 = some 1 := by kernel_rfl
 unfold storeT
 simp only [hg, hs]
 rw [if_pos ⟨trivial, rfl, by rw [List.length_map]; omega, rfl⟩]
 show some (Dl.set id (.mrow gen ((l.map n').take (q * 1) ++ [n' a] ++ (l.map n').drop (q * 1 + 1)))) = _
 rw [Nat.mul_one, List.map_append, List.map_append, List.map_take, List.map_drop]
 rfl
theorem aop_store {P : Program} {m : Bool} {g : Nat → Option Blk} {n : Nat} {ρ : Operand → Option AV} {o : Oper} {t : TypeId} {x y : Operand} {a u : AV} {d : Dl} (ho : o.op = .store t x y) (hx : ρ x = some a) (hy : ρ y = some u) (h : storeT P g t a u = some d) :
  aopF P m g n ρ o = some (.val (.lit undef) d) := by
 rw [aopF_fun]
 obtain ⟨dst, op, ty, pos, after, guard⟩ := o
 simp only at ho
 subst ho
 simp only [aopT, hx, hy, h]
 rfl
theorem forgets_ints : ∀ l : List Int, AV.forgets (l.map n') = l.map n'
 | [] => rfl
 | a :: l => by
  show AV.forget (n' a) :: AV.forgets (l.map n') = _
  rw [forgets_ints l]; rfl
theorem freezeRow_ints {g : Nat → Option Blk} {id gen : Nat} {l : List Int} (hg : g id = some (.mrow gen (l.map n'))) : freezeRow g id gen l.length 1 = eInts l := by
 unfold freezeRow
 rw [hg]
 show (bif Nat.beq gen gen && Nat.ble (l.length * 1) (l.map n').length then AV.sl l.length (AV.forgets ((l.map n').take (l.length * 1))) .unk else _) = _
 rw [Nat.beq_refl, Nat.ble_eq_true_of_le (by rw [List.length_map, Nat.mul_one]; exact Nat.le_refl _), Nat.mul_one, List.take_of_length_le (by rw [List.length_map]; exact Nat.le_refl _), forgets_ints]
 rfl
def sureT (b : Book) (v : Vers) (n : Int) (g : Nat) (o : List Int) : List (Nat × Blk) := [(0, bBox b), (21, .mrow g (o.map n')), (22, .defd), (23, .defd), (24, .defd), (25, .defd), (26, .box [eStates v, n' n] 143)]
set_option maxRecDepth 100000 in
theorem c_sure1 {b : Book} (hl : BLen b) (hB : BOk b) {evs : List Evening} (hE : EvsOk b evs) {c0 : Int} {cs : List Int} (hC : LList b (c0 :: cs)) {i : Int} {R : List Int} (hR : remL b.vs (evs ++ [([], [])]) b.vs.length = i :: R) (H : List Blk) :
  ACall Tryz.prog 27 [eBook b, eEvenings evs, eInts (c0 :: cs)] H (.ret (.tup [eInts (sureL b (c0 :: cs) (i :: R)), .lit (.int .i64 0)])) H := by
 have hmem : ∀ j ∈ i :: R, 0 ≤ j ∧ j < b.vs.length := fun j hj => remL_mem (hR ▸ hj)
 have hlen := remL_length b.vs (evs ++ [([], [])]) b.vs.length
 rw [hR] at hlen
 have hvl := hB.1.2.2
 unfold inI at hvl
 have h1c := hB.1.1.1
 obtain ⟨hc1, hc2⟩ := hC.cues (by omega)
 have hcl := hC.1
 have hcsl : cs.length < 1000000 := by simp at hc2; omega
 refine fn_rule (m := false) (fn := Tryz.f27) (c := (Tryz.f27.body).getD .skip) mixed (by kernel_rfl) (by kernel_rfl) (of_decide_eq_true (by kernel_rfl)) ?_ ?_ ?_ H
 ·exact ⟨under_eBook 0 _, under_eEvenings 0 _, under_eInts 0 _, trivial⟩
 ·exact under_tup2 (under_eInts 0 _) trivial
 ·refine CallG.bool (c_isBook hl) (fun _ => ?_) (fun x => absurd hB x)
  refine CallG.bool (c_areCues hB.fit _ (by omega)) (fun _ => ?_) (fun x => absurd hC x)
  have hN : EvOk b ([], []) := ⟨⟨⟨(by simp), fun c h => (by cases h)⟩, ⟨fun c h => (by cases h), (by simp)⟩⟩, rfl⟩
  have hL : ∀ H, ACall Tryz.prog 67 [eBook b, .lit (.bool true), eEvenings evs, eEvening ([], [])] H (.ret (.tup [eInts (i :: R), .lit (.int .i64 0)])) H := fun H => by
   have := c_left hl hB hE hN (by rw [hR]; simp) H
   rwa [hR] at this
  refine CallG.weak _ (.cons (fun H => WeakH.refl _ H) (.cons (fun H => WeakH.refl _ H) (.cons (fun H => WeakH.refl _ H) (.cons wk_ev0 .nil)))) hL ?_
  refine If.mk (fun _ => ?_) (fun h => absurd (by decide) h)
  refine ifN ?_
  obtain ⟨v, hv, hpl, hvo, h0⟩ := pl_at hB (cues := c0 :: cs) (hmem i (by simp))
  refine LoopG.round (m := false) mixed ?_
  refine If.mk (fun _ => ?_) (fun h => absurd (by simp) h)
  refine ifY ?_
  refine Ex.mk _ (jx_ints (r := 0) rfl rfl) ?_
  refine Ex.mk _ rfl ?_
  refine Ex.mk _ (jx_versions (r := i.toNat) (by have := hmem i (by simp); omega) hv) ?_
  refine Ex.mk _ rfl ?_
  refine CallG.new _ (c_played17 hvo h0 hc1 (by simp at hc2; omega)) ?_
  refine If.mk (fun _ => ?_) (fun h => absurd (by decide) h)
  refine ifY ?_
  have hpll : (plays v 0 (c0 :: cs)).length = cs.length + 1 := by rw [plays_length]; rfl
  refine loop_up mixed (m := false) (fun q => [(2, eInts (c0 :: cs)), (3, .ptr 0 0), (10, .msl 21 cs.length (cs.length + 1) 1), (34, eInts (i :: R)), (35, n' (i :: R).length), (36, n' 0), (54, .msl 21 cs.length (cs.length + 1) 1), (55, n' (cs.length + 1 : Nat)), (56, n' q)])
   (fun _ => [(0, bBox b), (21, .mrow cs.length ((plays v 0 (c0 :: cs)).map n')), (22, .defd), (23, .defd), (24, .defd), (25, .defd), (26, .box [eStates v, n' (after v 0 (c0 :: cs) : Nat)] 143)]) (fun _ => True) (cs.length + 1) 26 (leb rfl) trivial ?_ ?_ ?_
  ·exact ⟨⟨_, rfl, Weak.refl _ _, under_eInts _ _⟩, wp rfl (ltb rfl), wp rfl (ltb rfl), ⟨_, rfl, Weak.refl _ _, under_eInts _ _⟩, wp rfl trivial, wp rfl trivial, wp rfl (ltb rfl), wp rfl trivial, wp rfl trivial, trivial⟩
  ·exact ⟨bk rfl rfl, bk rfl rfl, bk rfl rfl, bk rfl rfl, bk rfl rfl, bk rfl rfl, bk rfl rfl, trivial⟩
  ·intro q hq _
   refine If.mk (fun h1 => ?_) (fun h1 => ?_)
   ·refine ifY ?_
    have h1' : (q : Int) < (cs.length + 1 : Nat) := h1
    obtain ⟨x, hx, _, _⟩ := at_some (l := plays v 0 (c0 :: cs)) (r := q) (by omega)
    refine Ex.mk _ (ix_msl (r := q) rfl (by omega)) ?_
    refine Ex.mk _ (load_mptr rfl (load_int hx)) ?_
    refine Ex.mk _ (ix_msl (r := q) rfl (by omega)) ?_
    refine Ex.mk _ (load_mptr rfl (load_int hx)) ?_
    refine If.mk (fun _ => ?_) (fun h => absurd rfl h)
    refine ifN ?_
    refine Side.mk (fits64 (by omega)) ?_
    exact ⟨leb rfl, rfl, by omega, trivial, ⟨⟨_, rfl, Weak.refl _ _, under_eInts _ _⟩, wp rfl (ltb rfl), wp rfl (ltb rfl), ⟨_, rfl, Weak.refl _ _, under_eInts _ _⟩, wp rfl trivial, wp rfl trivial, wp rfl (ltb rfl), wp rfl trivial, wp rfl trivial, trivial⟩, ⟨bk rfl rfl, bk rfl rfl, bk rfl rfl, bk rfl rfl, bk rfl rfl, bk rfl rfl, bk rfl rfl, trivial⟩, trivial⟩
   ·refine ifN ?_
    refine ⟨leb rfl, ?_⟩
    refine Side.mk (by unfold fitsK; kernel_rfl) ?_
    refine loop_up mixed (m := false) (fun r => [(2, eInts (c0 :: cs)), (3, .ptr 0 0), (10, .msl 21 cs.length (cs.length + 1) 1), (34, eInts (i :: R)), (35, n' (i :: R).length), (36, n' (r + 1 : Nat))])
     (fun r => sureT b v (after v 0 (c0 :: cs) : Nat) cs.length (outR b (c0 :: cs) (plays v 0 (c0 :: cs)) R r)) (fun _ => True) R.length 21 (leb rfl) trivial ?_ ?_ ?_
    ·exact ⟨⟨_, rfl, Weak.refl _ _, under_eInts _ _⟩, wp rfl (ltb rfl), wp rfl (ltb rfl), ⟨_, rfl, Weak.refl _ _, under_eInts _ _⟩, wp rfl trivial, wp rfl trivial, trivial⟩
    ·exact ⟨bk rfl rfl, bk rfl rfl, bk rfl rfl, bk rfl rfl, bk rfl rfl, bk rfl rfl, bk rfl rfl, trivial⟩
    ·intro r hr _
     have hol := outR_length (b := b) (cues := c0 :: cs) (o := plays v 0 (c0 :: cs)) (R := R) hpll r hr
     refine If.mk (fun h2 => ?_) (fun h2 => ?_)
     ·refine ifY ?_
      have h2' : ((r + 1 : Nat) : Int) < (((i :: R).length : Nat) : Int) := h2
      rw [List.length_cons] at h2'
      obtain ⟨j, hj1, _, hj3⟩ := at_some (l := R) (r := r) (by omega)
      obtain ⟨v', hv', hpl', hvo', h0'⟩ := pl_at hB (cues := c0 :: cs) (hmem j (by simp [hj3]))
      refine Ex.mk _ (jx_ints (l := i :: R) (r := r + 1) rfl hj1) ?_
      refine Ex.mk _ rfl ?_
      refine Ex.mk _ (jx_versions (r := j.toNat) (by have := hmem j (by simp [hj3]); omega) hv') ?_
      refine Ex.mk _ rfl ?_
      refine CallG.pure _ (c_played hvo' h0' hc1 (by simp at hc2 ⊢; omega)) ?_
      refine If.mk (fun h => absurd h (by omega)) (fun _ => ?_)
      refine ifN ?_
      have hol2 : (outR b (c0 :: cs) (plays v 0 (c0 :: cs)) R r).length = (plays v' 0 (c0 :: cs)).length := by rw [hol, plays_length]
      have hol3 : (outR b (c0 :: cs) (plays v 0 (c0 :: cs)) R r).length = cs.length + 1 := hol
      refine loop_up mixed (m := false) (fun q => [(2, eInts (c0 :: cs)), (3, .ptr 0 0), (10, .msl 21 cs.length (cs.length + 1) 1), (34, eInts (i :: R)), (35, n' (i :: R).length), (36, n' (r + 1 : Nat)), (54, eInts (plays v' 0 (c0 :: cs))), (55, n' (plays v' 0 (c0 :: cs)).length), (56, n' q)])
       (fun q => sureT b v (after v 0 (c0 :: cs) : Nat) cs.length (mid (outR b (c0 :: cs) (plays v 0 (c0 :: cs)) R r) (plays v' 0 (c0 :: cs)) q) ++ [(27, .box [eStates v', n' (after v' 0 (c0 :: cs) : Nat)] 143)]) (fun _ => True) (plays v' 0 (c0 :: cs)).length 21 (leb rfl) trivial ?_ ?_ ?_
      ·exact ⟨⟨_, rfl, Weak.refl _ _, under_eInts _ _⟩, wp rfl (ltb rfl), wp rfl (ltb rfl), ⟨_, rfl, Weak.refl _ _, under_eInts _ _⟩, wp rfl trivial, wp rfl trivial, ⟨_, rfl, Weak.refl _ _, under_eInts _ _⟩, wp rfl trivial, wp rfl trivial, trivial⟩
      ·exact ⟨bk rfl rfl, bk rfl rfl, bk rfl rfl, bk rfl rfl, bk rfl rfl, bk rfl rfl, bk rfl rfl, bk rfl rfl, trivial⟩
      ·intro q hq _
       refine If.mk (fun h3 => ?_) (fun h3 => ?_)
       ·refine ifY ?_
        obtain ⟨y, hy, _, _⟩ := at_some (l := plays v' 0 (c0 :: cs)) (r := q) (by omega)
        obtain ⟨x, hx, _, _⟩ := at_some (l := outR b (c0 :: cs) (plays v 0 (c0 :: cs)) R r) (r := q) (by omega)
        have hm := mid_at hol2 hx
        refine Ex.mk _ (jx_ints (r := q) rfl hy) ?_
        refine Ex.mk _ rfl ?_
        refine Ex.mk _ (ix_msl (r := q) rfl (by omega)) ?_
        refine Ex.mk _ (load_mptr rfl (load_int hm)) ?_
        refine If.mk (fun h4 => ?_) (fun h4 => ?_)
        ·refine ifN ?_
         refine Side.mk (fits64 (by omega)) ?_
         subst h4
         refine ⟨leb rfl, rfl, by omega, trivial, ⟨⟨_, rfl, Weak.refl _ _, under_eInts _ _⟩, wp rfl (ltb rfl), wp rfl (ltb rfl), ⟨_, rfl, Weak.refl _ _, under_eInts _ _⟩, wp rfl trivial, wp rfl trivial, ⟨_, rfl, Weak.refl _ _, under_eInts _ _⟩, wp rfl trivial, wp rfl trivial, trivial⟩, ⟨bk rfl rfl, ⟨?_, ltb rfl⟩, bk rfl rfl, bk rfl rfl, bk rfl rfl, bk rfl rfl, bk rfl rfl, bk rfl rfl, trivial⟩, trivial⟩
         rw [mid_same hol2 hx hy]
         rfl
        ·refine ifY ?_
         refine Ex.mk _ (ix_msl (r := q) rfl (by omega)) ?_
         refine Ex.mk (DR.val (.lit undef) (.set 21 (.mrow cs.length ((mid (outR b (c0 :: cs) (plays v 0 (c0 :: cs)) R r) (plays v' 0 (c0 :: cs)) (q + 1)).map n')))) ?_ ?_
         ·refine aop_store (t := 3) rfl rfl rfl ?_
          rw [mid_split hol2 hx hy, if_neg h4]
          exact store_mptr rfl (by rw [mid_length hol2 (by omega)]; omega)
         ·refine Side.mk (fits64 (by omega)) ?_
          exact ⟨leb rfl, rfl, by omega, trivial, ⟨⟨_, rfl, Weak.refl _ _, under_eInts _ _⟩, wp rfl (ltb rfl), wp rfl (ltb rfl), ⟨_, rfl, Weak.refl _ _, under_eInts _ _⟩, wp rfl trivial, wp rfl trivial, ⟨_, rfl, Weak.refl _ _, under_eInts _ _⟩, wp rfl trivial, wp rfl trivial, trivial⟩, ⟨bk rfl rfl, bk rfl rfl, bk rfl rfl, bk rfl rfl, bk rfl rfl, bk rfl rfl, bk rfl rfl, bk rfl rfl, trivial⟩, ⟨_, rfl, under_ints _ _⟩, ⟨_, rfl, trivial⟩, ⟨_, rfl, trivial⟩, ⟨_, rfl, trivial⟩, ⟨_, rfl, trivial⟩, ⟨_, rfl, ⟨under_states _ _, trivial, trivial⟩⟩, ⟨_, rfl, ⟨under_states _ _, trivial, trivial⟩⟩, trivial⟩
       ·refine ifN ?_
        refine ⟨leb rfl, ?_⟩
        refine Side.mk (fits64 (by omega)) ?_
        have hme := mid_end hol2 (q := q) (by omega)
        have hou := outR_succ (b := b) (cues := c0 :: cs) (o := plays v 0 (c0 :: cs)) hj1
        rw [hpl'] at hou
        refine ⟨leb rfl, rfl, by omega, trivial, ⟨⟨_, rfl, Weak.refl _ _, under_eInts _ _⟩, wp rfl (ltb rfl), wp rfl (ltb rfl), ⟨_, rfl, Weak.refl _ _, under_eInts _ _⟩, wp rfl trivial, wp rfl trivial, trivial⟩, ⟨bk rfl rfl, ⟨?_, ltb rfl⟩, bk rfl rfl, bk rfl rfl, bk rfl rfl, bk rfl rfl, bk rfl rfl, trivial⟩, ⟨_, rfl, under_ints _ _⟩, ⟨_, rfl, trivial⟩, ⟨_, rfl, trivial⟩, ⟨_, rfl, trivial⟩, ⟨_, rfl, trivial⟩, ⟨_, rfl, ⟨under_states _ _, trivial, trivial⟩⟩, trivial⟩
        rw [hou, ← hme]
        rfl
     ·refine ifN ?_
      have h2' : ¬ (((r + 1 : Nat) : Int) < (((i :: R).length : Nat) : Int)) := h2
      rw [List.length_cons] at h2'
      have er : r = R.length := by omega
      subst er
      have hos : outR b (c0 :: cs) (plays v 0 (c0 :: cs)) R R.length = sureL b (c0 :: cs) (i :: R) := by
       show (R.take R.length).foldl _ _ = R.foldl _ (plOf b (c0 :: cs) i)
       rw [List.take_length, hpl]
      refine ⟨leb rfl, .inl rfl, FinG.mk _ rfl rfl ?_⟩
      show AV.tup [freezeRow (get (ofL (sureT b v (after v 0 (c0 :: cs) : Nat) cs.length (outR b (c0 :: cs) (plays v 0 (c0 :: cs)) R R.length)))) 21 cs.length (cs.length + 1) 1, n' 0] = _
      have hll : (outR b (c0 :: cs) (plays v 0 (c0 :: cs)) R R.length).length = cs.length + 1 := hol
      rw [← hll, freezeRow_ints rfl, hos]
      rfl
theorem c_sure_ok {b : Book} (hl : BLen b) (hB : BOk b) {evs : List Evening} (hE : EvsOk b evs) {cues : List Int} (hC : LList b cues) (hne : remL b.vs (evs ++ [([], [])]) b.vs.length ≠ []) (H : List Blk) :
  ACall Tryz.prog 27 [eBook b, eEvenings evs, eInts cues] H (.ret (.tup [eInts (sureL b cues (remL b.vs (evs ++ [([], [])]) b.vs.length)), .lit (.int .i64 0)])) H := by
 cases hR : remL b.vs (evs ++ [([], [])]) b.vs.length with
 | nil => exact absurd hR hne
 | cons i R =>
  cases cues with
  | nil =>
   have := c_sure0 hl hB hE hR H
   rw [sureL_nil]; exact this
  | cons c0 cs => exact c_sure1 hl hB hE hC hR H
theorem noted_nil (l : List Int) : Noted l [] := fun i h => by simp at h
theorem agrees_now {v : Vers} {evs : List Evening} : Agrees v (evs ++ [([], [])]) ↔ Agrees v evs :=
 ⟨fun h e he => h e (List.mem_append_left _ he), fun h e he => (List.mem_append.1 he).elim (h e) fun he => by rw [List.mem_singleton] at he; subst he; exact noted_nil _⟩
theorem remL_now (vs : List Vers) (evs : List Evening) : ∀ r, remL vs (evs ++ [([], [])]) r = remL vs evs r
 | 0 => rfl
 | r + 1 => by
  unfold remL
  rw [remL_now vs evs r]
  by_cases h : Agrees (vs.getD r []) evs
  ·rw [if_pos h, if_pos (agrees_now.2 h)]
  ·rw [if_neg h, if_neg (fun x => h (agrees_now.1 x))]
end Go.Vm

namespace Go.Vm
open Go.Proofs
def eLists (l : List (List Int)) : AV := .sl l.length (l.map eInts) .unk
theorem under_eLists (n : Nat) (l : List (List Int)) : (eLists l).under n := by
 unfold eLists
 simp only [AV.under]
 exact ⟨unders_map (under_eInts n) l, trivial⟩
theorem jx_lists {l : List (List Int)} {tl : Tail} {i : Int} {r : Nat} {x : List Int} (hi : i = r) (h : l[r]? = some x) : indexOp Tryz.prog 38 (.sl l.length (l.map eInts) tl) (.lit (.int .i64 i)) = some (.eptr [eInts x]) := by
 obtain ⟨h1, rfl⟩ := List.getElem?_eq_some_iff.1 h
 exact ix_one (e := 30) (by kernel_rfl) (by kernel_rfl) hi h1
theorem plays_in {b : Book} {v : Vers} (hv : VOk b v) (hb : 0 ≤ b.cues) : ∀ {l : List Int} {s : Nat}, CuesOk b.cues.toNat l → s < v.length → ∀ x ∈ plays v s l, 0 ≤ x ∧ x ≤ b.tunes - 1
 | [], _, _, _, x, h => by cases h
 | c :: l, s, hl, hs, x, h => by
  obtain ⟨hvo, _⟩ := hv.vers
  obtain ⟨h3, h4⟩ := hl c (by simp)
  obtain ⟨st, g1, g2, g3, _⟩ := mv_at (s := s) (c := c.toNat) hvo hs (by omega)
  rcases List.mem_cons.1 h with rfl | h
  ·have := ((hv.1 st (List.mem_of_getElem? g1)).2 _ (List.mem_of_getElem? g2)).2
   exact this
  ·exact plays_in (l := l) (s := (mv v s c.toNat).1.toNat) hv hb (fun y hy => hl y (by simp [hy])) g3 x h
end Go.Vm
