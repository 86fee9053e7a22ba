/-
  Texts of the proof, part 11: the machine, contracts of functions, plain laws. (Own work.)
-/
import Derived.Test.YtkkpcbklhkfohaaGreatG10TopTurns
import Derived.Maps.RangeRun
import Derived.KernelRfl
import Derived.Test.YtkkpcbklhkfohaaGreatG09TopTurns

namespace Go.Vm
open Go.Proofs Go.ChangeMaps
theorem Rel.back [Outer] {S S' : Sit} (hR : Rel S) (hR' : Rel S') (hev : Ev S S') (hnon : Non S S')
  (hchg : ∀ id, id < S.H.length → S'.H[id]? = S.H[id]? ∨ ∃ B, S'.H[id]? = some B ∧ B.under S.H.length) : Rel ⟨S'.H.take S.H.length, cutι S'.ι S.H.length, S'.w⟩ := by
 have hb : ∀ id b wm, S'.ι id = some (b, wm) → id < S.H.length → ∀ B, S'.H[id]? = some B → B.under S.H.length := by
  intro id b wm hi hlt B hB
  rcases hchg id hlt with hs | ⟨B', hB', hu⟩
  ·rw [hs] at hB
   by_cases hx : ∃ p, S.ι id = some p
   ·obtain ⟨⟨b0, wm0⟩, hx⟩ := hx
    obtain ⟨B', hB', hrel⟩ := hR.blk id b0 wm0 hx
    rw [hB] at hB'; cases hB'
    exact hrel.under
   ·have hnone : S.ι id = none := by cases hι : S.ι id with
     | none => rfl
     | some p => exact absurd ⟨p, hι⟩ hx
    cases B with
    | row g => trivial
    | mrow g c =>
     obtain ⟨B', g1, hB', hm, hle, k⟩ := hev.mtok id g c hB
     rw [hs, hB] at hB'; cases hB'
     simp only [Blk.mgen, Option.some.injEq] at hm; subst hm
     have e2 := (k rfl).2.1
     rw [hnone, hi] at e2; cases e2
    | _ =>
     have e2 := hnon id ⟨_, hB, rfl⟩ hnone
     rw [hi] at e2; cases e2
  ·rw [hB'] at hB; cases hB; exact hu
 refine ⟨fun id b wm e => ?_, fun i j b wm wm' ei ej => ?_, fun b x e => ?_⟩
 ·have e' : cutι S'.ι S.H.length id = some (b, wm) := e
  unfold cutι at e'
  split at e'
  ·rename_i hlt
   obtain ⟨B, hB, hrel⟩ := hR'.blk id b wm e'
   exact ⟨B, by show (S'.H.take S.H.length)[id]? = _; rw [List.getElem?_take_of_lt hlt]; exact hB, BlkRel.cut hrel (hb id b wm e' hlt B hB)⟩
  ·cases e'
 ·have ei' : cutι S'.ι S.H.length i = some (b, wm) := ei
  have ej' : cutι S'.ι S.H.length j = some (b, wm') := ej
  unfold cutι at ei' ej'
  split at ei' <;> split at ej' <;> first | exact hR'.inj i j b wm wm' ei' ej' | (cases ei') | (cases ej')
 ·obtain ⟨h1, h2⟩ := hR'.out b x e
  refine ⟨h1, fun i wm h => ?_⟩
  have h' : cutι S'.ι S.H.length i = some (b, wm) := h
  unfold cutι at h'
  split at h'
  ·exact h2 _ _ h'
  ·cases h'
end Go.Vm

namespace Go.Vm
open Go.Proofs Go.ChangeMaps
def OpIs (ops : Array Oper) (i : Nat) (dst : Option Tmp) (op : Op) : Prop := ∃ ty pos after, ops[i]? = some ⟨dst, op, ty, pos, after, none⟩
theorem putA_some {σ : St} {d : Nat} {v : AV} {H' : List Blk} (h : d < σ.n) : putA σ (some d) v H' = some ⟨σ.n, set σ.vars d v, H', σ.defs⟩ := by
 simp [putA, h]
section
variable {P : Program}
end
structure CopyOps (o22 o23 o24 o25 : Array Oper) : Prop where
 s22 : o22.size = 2
 s23 : o23.size = 2
 s24 : o24.size = 6
 s25 : o25.size = 5
 a0 : OpIs o22 0 (some 61) (.move (.tmp 8))
 a1 : OpIs o22 1 (some 62) (.range 143 (.tmp 61))
 b0 : OpIs o23 0 (some 63) (.next (.tmp 62) false)
 b1 : OpIs o23 1 (some 64) (.extract (.tmp 63) 0)
 c0 : OpIs o24 0 (some 65) (.entry (.tmp 62))
 c1 : OpIs o24 1 (some 66) (.extract (.tmp 65) 0)
 c2 : OpIs o24 2 (some 67) (.extract (.tmp 65) 1)
 c3 : OpIs o24 3 (some 15) (.alloc 130)
 c4 : OpIs o24 4 none (.store 130 (.tmp 15) (.tmp 66))
 c5 : OpIs o24 5 (some 16) (.assign (.tmp 67))
 d0 : OpIs o25 0 (some 68) (.fieldAddr 145 (.tmp 2) 2)
 d1 : OpIs o25 1 (some 69) (.load 143 (.tmp 68))
 d2 : OpIs o25 2 (some 70) (.load 130 (.tmp 15))
 d3 : OpIs o25 3 (some 71) (.move (.tmp 16))
 d4 : OpIs o25 4 none (.mapUpdate 143 (.tmp 69) (.tmp 70) (.tmp 71))
section
variable {o22 o23 o24 o25 : Array Oper} (hO : CopyOps o22 o23 o24 o25)
include hO
end
end Go.Vm

namespace Go.Vm
open Go.Proofs
def isame (a b : Int) : Bool := match a, b with
 | .ofNat n, .ofNat m => Nat.beq n m
 | .negSucc n, .negSucc m => Nat.beq n m
 | _, _ => false
def ksame (a b : IntKind) : Bool := match a, b with
 | .i64, .i64 => true
 | .i32, .i32 => true
 | .u8, .u8 => true
 | _, _ => false
def bsame : List UInt8 → List UInt8 → Bool
 | [], [] => true
 | a :: l, b :: l' => Nat.beq a.toNat b.toNat && bsame l l'
 | _, _ => false
def vsame1 (v u : Value) : Bool := match v, u with
 | .int k a, .int l b => ksame k l && isame a b
 | .bool a, .bool b => a == b
 | .string a, .string b => bsame a.data.toList b.data.toList
 | .slice none a b, .slice none c d => Nat.beq a c && Nat.beq b d
 | _, _ => false
def vsames : List Value → List Value → Bool
 | [], [] => true
 | a :: l, b :: l' => vsame1 a b && vsames l l'
 | _, _ => false
def vsame (v u : Value) : Bool := match v, u with
 | .agg C, .agg D => vsames C.toList D.toList
 | v, u => vsame1 v u
def tsame (t u : Tail) : Bool := match t, u with
 | .unk, .unk => true
 | .full, .full => true
 | _, _ => false
mutual
def AV.same : AV → AV → Bool
 | .lit v, .lit u => vsame v u
 | .agg a, .agg b => AV.sames a b
 | .tup a, .tup b => AV.sames a b
 | .sl n a t, .sl m b u => Nat.beq n m && (tsame t u && AV.sames a b)
 | .mpx, .mpx => true
 | _, _ => false
def AV.sames : List AV → List AV → Bool
 | [], [] => true
 | a :: l, b :: l' => AV.same a b && AV.sames l l'
 | _, _ => false
end
theorem isame_eq {a b : Int} (h : isame a b = true) : a = b := by
 unfold isame at h
 split at h
 ·rw [Nat.eq_of_beq_eq_true h]
 ·rw [Nat.eq_of_beq_eq_true h]
 ·cases h
theorem ksame_eq {a b : IntKind} (h : ksame a b = true) : a = b := by
 cases a <;> cases b <;> first | rfl | cases h
theorem bsame_eq : ∀ {a b : List UInt8}, bsame a b = true → a = b
 | [], [], _ => rfl
 | [], _ :: _, h => by simp [bsame] at h
 | _ :: _, [], h => by simp [bsame] at h
 | a :: l, b :: l', h => by
  simp only [bsame, Bool.and_eq_true] at h
  rw [bsame_eq h.2, UInt8.toNat_inj.1 (Nat.eq_of_beq_eq_true h.1)]
theorem vsame1_eq {v u : Value} (h : vsame1 v u = true) : v = u := by
 unfold vsame1 at h
 split at h
 ·rw [Bool.and_eq_true] at h; rw [ksame_eq h.1, isame_eq h.2]
 ·rw [eq_of_beq h]
 ·rename_i a b
  have := bsame_eq h
  rcases a with ⟨⟨a⟩⟩
  rcases b with ⟨⟨b⟩⟩
  simp only at this
  rw [this]
 ·rw [Bool.and_eq_true] at h; rw [Nat.eq_of_beq_eq_true h.1, Nat.eq_of_beq_eq_true h.2]
 ·cases h
theorem vsames_eq : ∀ {v u : List Value}, vsames v u = true → v = u
 | [], [], _ => rfl
 | [], _ :: _, h => by simp [vsames] at h
 | _ :: _, [], h => by simp [vsames] at h
 | a :: l, b :: l', h => by
  simp only [vsames, Bool.and_eq_true] at h
  rw [vsame1_eq h.1, vsames_eq h.2]
theorem vsame_eq {v u : Value} (h : vsame v u = true) : v = u := by
 unfold vsame at h
 split at h
 ·rename_i C D
  rw [show C = D from Array.toList_inj.1 (vsames_eq h)]
 ·exact vsame1_eq h
theorem tsame_eq {t u : Tail} (h : tsame t u = true) : t = u := by
 cases t <;> cases u <;> first | rfl | cases h
mutual
theorem AV.same_eq : ∀ (a b : AV), AV.same a b = true → a = b
  | .lit v, .lit u, h => by simp only [AV.same] at h; rw [vsame_eq h]
  | .agg a, .agg b, h => by simp only [AV.same] at h; rw [AV.sames_eq a b h]
  | .tup a, .tup b, h => by simp only [AV.same] at h; rw [AV.sames_eq a b h]
  | .sl n a t, .sl m b u, h => by
    simp only [AV.same, Bool.and_eq_true] at h
    rw [Nat.eq_of_beq_eq_true h.1, tsame_eq h.2.1, AV.sames_eq a b h.2.2]
  | .mpx, .mpx, _ => rfl
  | .lit _, b, h => by cases b <;> first | (rename_i v; exact congrArg AV.lit (vsame_eq (by simpa only [AV.same] using h))) | (simp [AV.same] at h)
  | .agg a, b, h => by cases b <;> first | (rename_i v; exact congrArg AV.agg (AV.sames_eq a v (by simpa only [AV.same] using h))) | (simp [AV.same] at h)
  | .tup a, b, h => by cases b <;> first | (rename_i v; exact congrArg AV.tup (AV.sames_eq a v (by simpa only [AV.same] using h))) | (simp [AV.same] at h)
  | .sl n a t, b, h => by
    cases b <;> first
      | (simp only [AV.same, Bool.and_eq_true] at h
         rw [Nat.eq_of_beq_eq_true h.1, tsame_eq h.2.1, AV.sames_eq a _ h.2.2])
      | (simp [AV.same] at h)
  | .mpx, b, h => by cases b <;> first | rfl | (simp [AV.same] at h)
  | .ptr _ _, b, h => by simp [AV.same] at h
  | .eptr _, b, h => by simp [AV.same] at h
  | .hsl _ _ _ _, b, h => by simp [AV.same] at h
  | .mp _, b, h => by simp [AV.same] at h
  | .fn _ _ _, b, h => by simp [AV.same] at h
  | .yld _, b, h => by simp [AV.same] at h
  | .iface _ _, b, h => by simp [AV.same] at h
  | .msl _ _ _ _, b, h => by simp [AV.same] at h
  | .mptr _ _ _, b, h => by simp [AV.same] at h
theorem AV.sames_eq : ∀ (a b : List AV), AV.sames a b = true → a = b
 | [], [], _ => rfl
 | [], _ :: _, h => by simp [AV.sames] at h
 | _ :: _, [], h => by simp [AV.sames] at h
 | a :: l, b :: l', h => by
  simp only [AV.sames, Bool.and_eq_true] at h
  rw [AV.same_eq a b h.1, AV.sames_eq l l' h.2]
end
noncomputable def ev (K : Know) (f : FuncId) (args : List AV) : CR := (evN Tryz.prog K 60).1 f args .nil 0
structure TopRow where
 f : FuncId
 args : List AV
 v : AV
noncomputable def toldRows (l : List TopRow) : CallT := fun f args t n =>
 List.rec (.fail "row") (fun r _ ih => bif Nat.beq r.f f && AV.sames (AV.forgets args) r.args then .ret r.v t n noLo else ih) l
def RowsRight (l : List TopRow) : Prop := ∀ r ∈ l, ∀ H, ACall Tryz.prog r.f r.args H (.ret r.v) H
theorem toldRows_right : ∀ {l : List TopRow}, RowsRight l → SoundC Tryz.prog (toldRows l)
 | [], _ => fun _ _ _ _ => trivial
 | r :: l, h => by
  intro f args t n
  show CRok Tryz.prog f args t n (bif Nat.beq r.f f && AV.sames (AV.forgets args) r.args then .ret r.v t n noLo else toldRows l f args t n)
  cases hb : Nat.beq r.f f && AV.sames (AV.forgets args) r.args with
  | false => exact toldRows_right (fun r' hr => h r' (by simp [hr])) f args t n
  | true =>
   rw [Bool.and_eq_true] at hb
   have e1 := Nat.eq_of_beq_eq_true hb.1
   have e2 := AV.sames_eq _ _ hb.2
   intro H hH
   refine ⟨H, hH, ?_, Keep.refl _ _⟩
   have := h r (by simp) H
   rw [e1, ← e2] at this
   exact this.forget_args
noncomputable def kTold (f : FuncId) : Option (CallT → CallT) := bif Nat.beq f 124 then some tryT else none
noncomputable def kK : Know := ⟨fun f => Nat.beq f 78, fun f => Nat.beq f 109 || Nat.beq f 60, kTold⟩
theorem mixed : Tryz.prog.follows .mixedOrders = true := by kernel_rfl
theorem kTold_right {f : FuncId} {T : CallT → CallT} (h : kTold f = some T) {call : CallT} (hc : SoundC Tryz.prog call) (args : List AV) (t : Trie Blk) (n : Nat) : CRok Tryz.prog f args t n (T call f args t n) := by
 unfold kTold at h
 cases h1 : Nat.beq f 124 with
 | true => rw [h1, cond_true] at h; cases h; rw [Nat.eq_of_beq_eq_true h1]; exact tryT_right call hc args t n
 | false => rw [h1, cond_false] at h; cases h
theorem kK_right : kK.Right Tryz.prog := fun _ _ h _ hc args t n => kTold_right h hc args t n
end Go.Vm

namespace Go.Vm
open Go.Proofs
def freezeRow (g : Nat → Option Blk) (id gen len sz : Nat) : AV :=
 match g id with
 | some (.mrow gen' cells) => bif Nat.beq gen' gen && Nat.ble (len * sz) cells.length then .sl len (AV.forgets (cells.take (len * sz))) .unk else .msl id gen len sz
 | _ => .msl id gen len sz
mutual
def AV.freeze (g : Nat → Option Blk) : AV → AV
 | .lit v => .lit v
 | .agg cells => .agg (AV.freezes g cells)
 | .tup vs => .tup (AV.freezes g vs)
 | .ptr id off => .ptr id off
 | .eptr cells => .eptr (AV.freezes g cells)
 | .sl len cells tail => .sl len (AV.freezes g cells) tail.forget
 | .hsl id off len cap => .hsl id off len cap
 | .mp _ => .mpx
 | .fn f first captured => .fn f (AV.freezes g first) (AV.freezes g captured)
 | .yld id => .yld id
 | .iface t v => .iface t (AV.freeze g v)
 | .msl id gen len sz => freezeRow g id gen len sz
 | .mptr id gen off => .mptr id gen off
 | .mpx => .mpx
def AV.freezes (g : Nat → Option Blk) : List AV → List AV
 | [] => []
 | a :: xs => AV.freeze g a :: AV.freezes g xs
end
theorem AV.freezes_length (g : Nat → Option Blk) : ∀ l : List AV, (AV.freezes g l).length = l.length
 | [] => rfl
 | a :: l => by simp [AV.freezes, AV.freezes_length g l]
theorem Tail.forget_rel [Outer] {S S' : Sit} {tail : Tail} {base : Option Addr} {len cap n m : Nat} (h : TailRel S tail base len cap n) : TailRel S' tail.forget base len cap m := by
 cases tail with
 | unk => trivial
 | full => exact h
 | own id g sz => trivial
theorem Fix.cut0 [Outer] {S : Sit} {b lim : Nat} (h : Fix S b lim) : Fix ⟨S.H.take 0, cutι S.ι 0, S.w⟩ b lim := by
 obtain ⟨C, t, f, h1, h2, _, h4⟩ := h
 exact ⟨C, t, f, h1, h2, fun id wm e => by simp [cutι] at e, h4⟩
section
variable [Outer] {S : Sit} {g : Nat → Option Blk}
mutual
theorem VRel.freeze (hR : Rel S) (hg : ∀ id B, g id = some B → S.H[id]? = some B) : ∀ (a : AV) (c : Value), VRel S a c → (a.freeze g).under 0 → VRel ⟨S.H.take 0, cutι S.ι 0, S.w⟩ (a.freeze g) c
 | .lit v, c, x, _ => by
  simp only [VRel, AV.freeze] at x ⊢
  exact x
 | .agg cells, c, x, hu => by
  simp only [VRel, AV.freeze, AV.under] at x hu ⊢
  obtain ⟨C, hc, hr⟩ := x
  exact ⟨C, hc, VRels.freeze hR hg cells _ hr hu⟩
 | .tup vs, c, x, hu => by
  simp only [VRel, AV.freeze, AV.under] at x hu ⊢
  obtain ⟨C, hc, hr⟩ := x
  exact ⟨C, hc, VRels.freeze hR hg vs _ hr hu⟩
 | .ptr id off, c, x, hu => by simp only [AV.freeze, AV.under] at hu; omega
 | .eptr cells, c, x, hu => by
  simp only [VRel, AV.freeze, AV.under] at x hu ⊢
  obtain ⟨b, o, hc, hf, hr⟩ := x
  rw [AV.freezes_length]
  exact ⟨b, o, hc, hf.cut0, VRow.freeze hR hg b cells o hr hu⟩
 | .sl len cells tail, c, x, hu => by
  simp only [VRel, AV.freeze, AV.under] at x hu ⊢
  obtain ⟨base, cap, hc, hle, hcells, ht⟩ := x
  rw [AV.freezes_length]
  refine ⟨base, cap, hc, hle, ?_, Tail.forget_rel ht⟩
  rcases hcells with hcells | ⟨b, o, hb', hf, hr⟩
  ·exact .inl (by rw [hcells]; rfl)
  ·exact .inr ⟨b, o, hb', hf.cut0, VRow.freeze hR hg b cells o hr hu.1⟩
 | .hsl id off len cap, c, x, hu => by simp only [AV.freeze, AV.under] at hu; omega
 | .mp id, c, x, _ => by
  simp only [VRel, AV.freeze] at x ⊢
  obtain ⟨b, wm, _, _, hc⟩ := x
  exact ⟨_, hc⟩
 | .fn f first captured, c, x, hu => by
  simp only [VRel, AV.freeze, AV.under] at x hu ⊢
  obtain ⟨F, C, hc, h1, h2⟩ := x
  exact ⟨F, C, hc, VRels.freeze hR hg first _ h1 hu.1, VRels.freeze hR hg captured _ h2 hu.2⟩
 | .yld id, c, x, hu => by simp only [AV.freeze, AV.under] at hu; omega
 | .iface t v, c, x, hu => by
  simp only [VRel, AV.freeze, AV.under] at x hu ⊢
  obtain ⟨y, hc, hr⟩ := x
  exact ⟨y, hc, VRel.freeze hR hg v y hr hu⟩
 | .msl id gen len sz, c, x, hu => by
  simp only [AV.freeze] at hu ⊢
  unfold freezeRow at hu ⊢
  split at hu
  ·rename_i gen' cells hgi
   cases hb : Nat.beq gen' gen && Nat.ble (len * sz) cells.length with
   | false =>
    rw [hb] at hu
    simp only [cond_false, AV.under] at hu
    omega
   | true =>
    rw [hb] at hu
    simp only [cond_true, AV.under] at hu ⊢
    rw [Bool.and_eq_true] at hb
    have e1 := Nat.eq_of_beq_eq_true hb.1
    have e2 := Nat.le_of_ble_eq_true hb.2
    subst e1
    simp only [VRel] at x ⊢
    obtain ⟨base, cap, hc, hle, hsr⟩ := x
    rcases hsr with ⟨b, rfl, B, g0, hB, hm, hle2, hk⟩ | ⟨rfl, rfl, _⟩
    case inr =>
     obtain rfl : len = 0 := by omega
     exact ⟨_, 0, hc, Nat.le_refl _, .inl (by simp [AV.forgets]), trivial⟩
    have hB' := hg _ _ hgi
    rw [hB'] at hB; cases hB
    simp only [Blk.mgen, Option.some.injEq] at hm
    obtain ⟨b', wm, C, t, hi, hC, hbb, hsz⟩ := hk hm.symm ⟨_, rfl⟩
    subst hbb
    obtain ⟨B, hB2, hrel⟩ := hR.blk id b' wm hi
    rw [hB'] at hB2; cases hB2
    obtain ⟨C', t', hC', hcells⟩ := hrel
    rw [hC] at hC'; cases hC'
    have hlc : (AV.forgets (cells.take (len * sz))).length = len * sz := by
     rw [AV.forgets_length, List.length_take]; omega
    have hsz2 : len * sz ≤ C.size := Nat.le_trans (Nat.mul_le_mul_right _ hle) hsz
    refine ⟨_, cap, hc, hle, .inr ⟨b', 0, rfl, ?_, ?_⟩, trivial⟩
    ·refine ⟨C, t, (0, 0), hC, by rw [hlc]; omega, fun id wm e => by simp [cutι] at e, fun y hy => ?_⟩
     exact absurd hi ((hR.out b' y hy).2 id wm)
    ·have h1 : VRels S cells (C.toList.take cells.length) := hcells
     have hlen : cells.length = (C.toList.take cells.length).length := VRels.length h1
     have h2 : VRels S (cells.take (len * sz)) ((C.toList.take cells.length).take (len * sz)) := VRels.take _ h1
     have h3 := VRels.cut (n := 0) _ _ hu.1 (VRels.forget _ _ h2)
     refine VRow.of_vals b' h3 fun i v hv => ?_
     rw [List.take_take, List.getElem?_take] at hv
     split at hv
     ·rw [cell_eq]
      show (match S.w.heap[b']? with | some (.cells c _ _) => c[0 + i]? | _ => none) = _
      rw [hC]
      simpa using hv
     ·cases hv
  ·rename_i hne
   simp only [AV.under] at hu
   omega
 | .mptr id gen off, c, x, hu => by simp only [AV.freeze, AV.under] at hu; omega
 | .mpx, c, x, _ => by
  simp only [VRel, AV.freeze] at x ⊢
  exact x
theorem VRels.freeze (hR : Rel S) (hg : ∀ id B, g id = some B → S.H[id]? = some B) : ∀ (xs : List AV) (cs : List Value), VRels S xs cs → AV.unders 0 (AV.freezes g xs) → VRels ⟨S.H.take 0, cutι S.ι 0, S.w⟩ (AV.freezes g xs) cs
 | [], [], _, _ => by simp [VRels, AV.freezes]
 | [], _ :: _, x, _ => by simp [VRels] at x
 | _ :: _, [], x, _ => by simp [VRels] at x
 | a :: xs, c :: cs, x, hu => by
  simp only [VRels, AV.freezes, AV.unders] at x hu ⊢
  exact ⟨VRel.freeze hR hg a c x.1 hu.1, VRels.freeze hR hg xs cs x.2 hu.2⟩
theorem VRow.freeze (hR : Rel S) (hg : ∀ id B, g id = some B → S.H[id]? = some B) (b : Nat) : ∀ (xs : List AV) (o : Nat), VRow S b o xs → AV.unders 0 (AV.freezes g xs) → VRow ⟨S.H.take 0, cutι S.ι 0, S.w⟩ b o (AV.freezes g xs)
 | [], o, _, _ => by simp [VRow, AV.freezes]
 | a :: xs, o, x, hu => by
  simp only [VRow, AV.freezes, AV.unders] at x hu ⊢
  obtain ⟨⟨c, hc, hr⟩, x2⟩ := x
  exact ⟨⟨c, hc, VRel.freeze hR hg a c hr hu.1⟩, VRow.freeze hR hg b xs (o + 1) x2 hu.2⟩
end
end
theorem ACall.freeze0 {P : Program} {f : FuncId} {args : List AV} {H' : List Blk} {v : AV} {g : Nat → Option Blk} (h : ACall P f args [] (.ret v) H') (hg : ∀ id B, g id = some B → H'[id]? = some B)
  (ha : AV.unders 0 args) (hr : (v.freeze g).under 0) (H : List Blk) : ACall P f args H (.ret (v.freeze g)) H := by
 have h1 : ACall P f args [] (.ret (v.freeze g)) [] := by
  intro O ι w cs hR hargs
  refine (h O ι w cs hR hargs).mono ?_
  rintro e w' ⟨ι', hend, hR', hev, hnon⟩
  cases e with
  | panicked chain => exact hend.elim
  | outgrown => exact hend.elim
  | returned c =>
   have hev2 := hev.cut
   have hnon2 := hnon.cut
   refine ⟨cutι ι' 0, VRel.freeze hR' hg v c hend hr, ⟨fun id b wm e => by simp [cutι] at e, fun i j b wm wm' ei _ => by simp [cutι] at ei, fun b x e => ⟨(hR'.out b x e).1, fun i wm h => by simp [cutι] at h⟩⟩, hev2, hnon2⟩
 exact ACall.frame_nil (r := .ret (v.freeze g)) h1 ha hr H
theorem ACall.freeze {P : Program} {f : FuncId} {args : List AV} {H' : List Blk} {v : AV} {g : Nat → Option Blk} (h : ACall P f (AV.forgets args) [] (.ret v) H') (hg : ∀ id B, g id = some B → H'[id]? = some B)
  (ha : AV.unders 0 (AV.forgets args)) (hr : (v.freeze g).under 0) (H : List Blk) : ACall P f args H (.ret (v.freeze g)) H :=
 (h.freeze0 hg ha hr H).forget_args
noncomputable def topB (K : Know) (f : FuncId) (args : List AV) (v : AV) : Bool :=
 AV.undersB 0 (AV.forgets args) && (AV.underB 0 v && match ev K f (AV.forgets args) with
  | .ret v' t _ _ => AV.same (AV.freeze (get t) v') v
  | _ => false)
theorem top_right {K : Know} (hm : Tryz.prog.follows .mixedOrders = true) (hK : K.Right Tryz.prog) {f : FuncId} {args : List AV} {v : AV} (h : topB K f args v = true) (H : List Blk) : ACall Tryz.prog f args H (.ret v) H := by
 unfold topB at h
 rw [Bool.and_eq_true, Bool.and_eq_true] at h
 obtain ⟨h1, h2, h3⟩ := h
 have hs := (evN_sound hm hK 60).1 f (AV.forgets args) .nil 0
 unfold ev at h3
 generalize (evN Tryz.prog K 60).1 f (AV.forgets args) .nil 0 = r at hs h3
 cases r with
 | fail w => cases h3
 | pan => cases h3
 | ret v' t n lo =>
  simp only at h3
  have := AV.same_eq _ _ h3
  subst this
  obtain ⟨H', hH', hc, _⟩ := hs [] HT.nil
  exact hc.freeze hH'.blk (underB_iff.2 _ h1) (underB_iff.1 _ h2) H
end Go.Vm

namespace Go.Vm
open Go.Proofs
inductive If (p X Y : Prop) : Prop
 | mk (h1 : p → X) (h2 : ¬ p → Y)
inductive Side (p X Y : Prop) : Prop
 | mk (h : p) (k : X)
 | wr (k : Y)
inductive Ex {α : Type} (x : Option α) (K : α → Prop) : Prop
 | mk (r : α) (h : x = some r) (k : K r)
inductive CallG (P : Program) (f : FuncId) (args : List AV) (t : Trie Blk) (n : Nat) (K Kp : AV → Trie Blk → Nat → Nat → Prop) : Prop
 | mk (h : ∀ H, HT t n H → (∃ v t' n' l H', HT t' n' H' ∧ ACall P f args H (.ret v) H' ∧ Keep H H' l ∧ K v t' n' l) ∨ ∃ v t' n' l H', HT t' n' H' ∧ ACall P f args H (.pan v) H' ∧ Keep H H' l ∧ Kp v t' n' l)
theorem CallG.ret {P : Program} {f : FuncId} {args : List AV} {t : Trie Blk} {n : Nat} {K Kp : AV → Trie Blk → Nat → Nat → Prop} (h : ∀ H, HT t n H → ∃ v t' n' l H', HT t' n' H' ∧ ACall P f args H (.ret v) H' ∧ Keep H H' l ∧ K v t' n' l) : CallG P f args t n K Kp :=
 ⟨fun H hH => .inl (h H hH)⟩
inductive RoundG (P : Program) (id : Nat) (args : List AV) (t : Trie Blk) (n : Nat) (K : AV → Trie Blk → Nat → Nat → Prop) : Prop
 | mk (h : ∀ H, HT t n H → ∃ v t' n' l H', HT t' n' H' ∧ ARound P id args H (.ret v) H' ∧ Keep H H' l ∧ K v t' n' l)
abbrev PanK := AV → Trie AV → Trie Blk → Nat → Nat → Prop
noncomputable section
def NowR {α : Type} (x : Option α) (K : α → Prop) : Prop := Option.rec False (fun r => K r) x
theorem NowR.ex {α : Type} {x : Option α} {K : α → Prop} (h : NowR x K) : ∃ r, x = some r ∧ K r := by
 cases x with
 | none => exact h.elim
 | some r => exact ⟨r, rfl, h⟩
def fitsK (k : IntKind) (n : Int) : Prop := k.wrap n = n
def gInt (op : BinOp) (k : IntKind) (a b : Int) (K : AV → Prop) : Prop := match op with
 | .add => Side (fitsK k (a + b)) (K (.lit (.int k (a + b)))) (K (.lit (.int k (k.wrap (a + b)))))
 | .sub => Side (fitsK k (a - b)) (K (.lit (.int k (a - b)))) (K (.lit (.int k (k.wrap (a - b)))))
 | .mul => Side (fitsK k (a * b)) (K (.lit (.int k (a * b)))) (K (.lit (.int k (k.wrap (a * b)))))
 | .eql => If (a = b) (K (.lit (.bool true))) (K (.lit (.bool false)))
 | .neq => If (a = b) (K (.lit (.bool false))) (K (.lit (.bool true)))
 | .lss => If (a < b) (K (.lit (.bool true))) (K (.lit (.bool false)))
 | .leq => If (a ≤ b) (K (.lit (.bool true))) (K (.lit (.bool false)))
 | .gtr => If (b < a) (K (.lit (.bool true))) (K (.lit (.bool false)))
 | .geq => If (b ≤ a) (K (.lit (.bool true))) (K (.lit (.bool false)))
 | _ => NowR (binInt op k a b) fun v => K (.lit v)
theorem gInt_ex {op : BinOp} {k : IntKind} {a b : Int} {K : AV → Prop} (h : gInt op k a b K) : ∃ v, binInt op k a b = some v ∧ K (.lit v) := by
 unfold gInt at h
 have dec : ∀ (p : Prop) [Decidable p] (X Y : Prop), If p X Y → (p ∧ X) ∨ (¬ p ∧ Y) := fun p _ X Y h => by
  obtain ⟨h1, h2⟩ := h
  by_cases hp : p
  ·exact .inl ⟨hp, h1 hp⟩
  ·exact .inr ⟨hp, h2 hp⟩
 split at h
 ·rcases h with ⟨h1, h2⟩ | h3
  ·exact ⟨_, rfl, by show K (.lit (.int k (k.wrap (a + b)))); rw [h1]; exact h2⟩
  ·exact ⟨_, rfl, h3⟩
 ·rcases h with ⟨h1, h2⟩ | h3
  ·exact ⟨_, rfl, by show K (.lit (.int k (k.wrap (a - b)))); rw [h1]; exact h2⟩
  ·exact ⟨_, rfl, h3⟩
 ·rcases h with ⟨h1, h2⟩ | h3
  ·exact ⟨_, rfl, by show K (.lit (.int k (k.wrap (a * b)))); rw [h1]; exact h2⟩
  ·exact ⟨_, rfl, h3⟩
 ·rcases dec _ _ _ h with ⟨hp, hx⟩ | ⟨hp, hx⟩
  ·exact ⟨_, rfl, by simpa [hp] using hx⟩
  ·exact ⟨_, rfl, by show K (.lit (.bool (a == b))); rw [beq_false_of_ne hp]; exact hx⟩
 ·rcases dec _ _ _ h with ⟨hp, hx⟩ | ⟨hp, hx⟩
  ·exact ⟨_, rfl, by simpa [hp] using hx⟩
  ·exact ⟨_, rfl, by show K (.lit (.bool (!(a == b)))); rw [beq_false_of_ne hp]; exact hx⟩
 ·rcases dec _ _ _ h with ⟨hp, hx⟩ | ⟨hp, hx⟩
  ·exact ⟨_, rfl, by simpa [hp] using hx⟩
  ·exact ⟨_, rfl, by simpa [hp] using hx⟩
 ·rcases dec _ _ _ h with ⟨hp, hx⟩ | ⟨hp, hx⟩
  ·exact ⟨_, rfl, by simpa [hp] using hx⟩
  ·exact ⟨_, rfl, by simpa [hp] using hx⟩
 ·rcases dec _ _ _ h with ⟨hp, hx⟩ | ⟨hp, hx⟩
  ·exact ⟨_, rfl, by simpa [hp] using hx⟩
  ·exact ⟨_, rfl, by simpa [hp] using hx⟩
 ·rcases dec _ _ _ h with ⟨hp, hx⟩ | ⟨hp, hx⟩
  ·exact ⟨_, rfl, by simpa [hp] using hx⟩
  ·exact ⟨_, rfl, by simpa [hp] using hx⟩
 ·exact h.ex
def avInt (a : AV) : Option (IntKind × Int) := match a with
 | .lit (.int k n) => some (k, n)
 | _ => none
def ksameB (a b : IntKind) : Bool := match a, b with
 | .i64, .i64 => true
 | .i32, .i32 => true
 | .u8, .u8 => true
 | _, _ => false
def isShift (op : BinOp) : Bool := match op with
 | .shl => true
 | .shr => true
 | _ => false
def gBin (P : Program) (op : BinOp) (t : TypeId) (x y : AV) (K : AV → Prop) : Prop :=
 match avInt x, avInt y with
 | some (k, a), some (k', b) => bif ksameB k k' && !isShift op then gInt op k a b K else NowR (binB P op t x y) K
 | _, _ => NowR (binB P op t x y) K
theorem ksameB_eq {a b : IntKind} (h : ksameB a b = true) : a = b := by
 cases a <;> cases b <;> first | rfl | cases h
theorem avInt_eq {a : AV} {k : IntKind} {n : Int} (h : avInt a = some (k, n)) : a = .lit (.int k n) := by
 unfold avInt at h
 split at h
 ·cases h; rfl
 ·cases h
theorem gBin_ex {P : Program} {op : BinOp} {t : TypeId} {x y : AV} {K : AV → Prop} (h : gBin P op t x y K) : ∃ v, binB P op t x y = some v ∧ K v := by
 unfold gBin at h
 split at h
 ·rename_i k a k' b hx hy
  cases hb : ksameB k k' && !isShift op with
  | false => rw [hb, cond_false] at h; exact h.ex
  | true =>
   rw [hb, cond_true] at h
   rw [Bool.and_eq_true] at hb
   have e1 := ksameB_eq hb.1
   subst e1
   have e2 := avInt_eq hx
   have e3 := avInt_eq hy
   subst e2 e3
   obtain ⟨v, hv, hk⟩ := gInt_ex h
   refine ⟨.lit v, ?_, hk⟩
   unfold binB binA
   have : binLit P op t (.int k a) (.int k b) = some v := by
    unfold binLit
    cases op <;> first | (simp [isShift] at hb; done) | (simp only [if_true]; exact hv)
   simp only [this, Option.map_some]
 ·exact h.ex
abbrev GArm := Program → Bool → (Nat → Option Blk) → Nat → (Operand → Option AV) → Oper → (DR → Prop) → Prop
def gNow : GArm := fun P m g n ρ o K => NowR (aopF P m g n ρ o) K
def gEx : GArm := fun P m g n ρ o K => Ex (aopF P m g n ρ o) K
def gLoad : TypeId → Operand → GArm := fun t x P m g n ρ o K => match ρ x with
 | some (.eptr cells) => Ex (loadA P t cells) fun v => K (.val v .same)
 | some (.mptr id gen off) => Ex (loadT P g t (.mptr id gen off)) fun v => K (.val v .same)
 | _ => gNow P m g n ρ o K
def gStoreM : TypeId → Operand → Operand → GArm := fun _ x _ P m g n ρ o K => match ρ x with
 | some (.mptr _ _ _) => gEx P m g n ρ o K
 | _ => gNow P m g n ρ o K
def gBinOp : BinOp → TypeId → Operand → Operand → TypeId → GArm := fun op t x y _ P _ _ _ ρ _ K => match ρ x, ρ y with
 | some a, some b => gBin P op t a b fun v => K (.val v .same)
 | _, _ => False
def gIndexAddr : TypeId → Operand → Operand → GArm := fun t x i P m g n ρ o K => match ρ x, ρ i with
 | some (.sl len cells tl), some b => Ex (indexOp P t (.sl len cells tl) b) fun v => K (.val v .same)
 | some (.msl id gen len sz), some b => Ex (indexOp P t (.msl id gen len sz) b) fun v => K (.val v .same)
 | _, _ => gNow P m g n ρ o K
def isBuilt (c : Callee) : Bool := match c with
 | .builtin .append => true
 | .builtin .max => true
 | .builtin .min => true
 | _ => false
def gCall : Call → GArm := fun c P m g n ρ o K => bif isBuilt c.callee then gEx P m g n ρ o K else gNow P m g n ρ o K
def gArms (op : Op) : GArm :=
 Op.rec (motive := fun _ => GArm) (fun _ => gNow) (fun _ => gNow) (fun _ _ _ => gNow) (fun _ => gNow) (fun _ _ => gNow) (fun _ _ => gNow) (fun _ _ _ => gNow) (fun _ _ _ _ => gEx) gLoad gStoreM (fun _ => gNow) (fun _ => gNow) (fun _ => gNow) gBinOp (fun _ _ _ => gNow)
  (fun _ _ _ => gNow) (fun _ _ => gNow) (fun _ _ => gNow) (fun _ _ _ => gNow) (fun _ _ => gNow) (fun _ _ => gNow) (fun _ _ _ => gNow) (fun _ _ _ _ _ => gEx) (fun _ _ _ => gNow) (fun _ _ _ => gNow) gIndexAddr (fun _ _ _ => gEx) (fun _ _ _ _ => gEx) (fun _ _ _ _ => gEx)
  (fun _ _ _ => gNow) (fun _ _ _ _ => gNow) (fun _ _ => gNow) (fun _ _ => gNow) (fun _ => gNow) (fun _ _ _ _ => gNow) (fun _ _ => gNow) gCall (fun _ => gNow) (fun _ => gNow) (fun _ => gNow) (fun _ _ => gNow) (fun _ _ _ => gNow) (fun _ _ => gNow) op
def gAop : GArm := fun P m g n ρ o K => gArms o.op P m g n ρ o K
theorem Ex.ex {α : Type} {x : Option α} {K : α → Prop} (h : Ex x K) : ∃ r, x = some r ∧ K r := by
 obtain ⟨r, h, k⟩ := h
 exact ⟨r, h, k⟩
theorem gAop_ex {P : Program} {m : Bool} {g : Nat → Option Blk} {n : Nat} {ρ : Operand → Option AV} {o : Oper} {K : DR → Prop} (h : gAop P m g n ρ o K) : ∃ r, aopT P m g n ρ o = some r ∧ K r := by
 rw [← aopF_fun]
 obtain ⟨dst, op, ty, pos, after, guard⟩ := o
 unfold gAop at h
 cases op with
 | load t x =>
  have h' : gLoad t x P m g n ρ ⟨dst, .load t x, ty, pos, after, guard⟩ K := h
  unfold gLoad at h'
  split at h'
  ·rename_i cells hx
   obtain ⟨v, hv, hk⟩ := h'.ex
   refine ⟨_, ?_, hk⟩
   show sameR (onAV (fun a => loadT P g t a) (ρ x)) = _
   rw [hx]
   show sameR (loadA P t cells) = _
   rw [hv]; rfl
  ·rename_i id gen off hx
   obtain ⟨v, hv, hk⟩ := h'.ex
   refine ⟨_, ?_, hk⟩
   show sameR (onAV (fun a => loadT P g t a) (ρ x)) = _
   rw [hx]
   show sameR (loadT P g t (.mptr id gen off)) = _
   rw [hv]; rfl
  ·exact NowR.ex h'
 | store t x y =>
  have h' : gStoreM t x y P m g n ρ ⟨dst, .store t x y, ty, pos, after, guard⟩ K := h
  unfold gStoreM at h'
  split at h'
  ·exact Ex.ex h'
  ·exact NowR.ex h'
 | binOp op t x y z =>
  have h' : gBinOp op t x y z P m g n ρ ⟨dst, .binOp op t x y z, ty, pos, after, guard⟩ K := h
  unfold gBinOp at h'
  split at h'
  ·rename_i a b hx hy
   obtain ⟨v, hv, hk⟩ := gBin_ex h'
   refine ⟨_, ?_, hk⟩
   show sameR (onAV (fun a => onAV (fun b => binB P op t a b) (ρ y)) (ρ x)) = _
   rw [hx, hy]
   show sameR (binB P op t a b) = _
   rw [hv]; rfl
  ·exact h'.elim
 | indexAddr t x i =>
  have h' : gIndexAddr t x i P m g n ρ ⟨dst, .indexAddr t x i, ty, pos, after, guard⟩ K := h
  unfold gIndexAddr at h'
  split at h'
  ·rename_i len cells tl b hx hy
   obtain ⟨v, hv, hk⟩ := h'.ex
   refine ⟨_, ?_, hk⟩
   show sameR (onAV (fun a => onAV (fun b => indexOp P t a b) (ρ i)) (ρ x)) = _
   rw [hx, hy]
   show sameR (indexOp P t (.sl len cells tl) b) = _
   rw [hv]; rfl
  ·rename_i id gen len sz b hx hy
   obtain ⟨v, hv, hk⟩ := h'.ex
   refine ⟨_, ?_, hk⟩
   show sameR (onAV (fun a => onAV (fun b => indexOp P t a b) (ρ i)) (ρ x)) = _
   rw [hx, hy]
   show sameR (indexOp P t (.msl id gen len sz) b) = _
   rw [hv]; rfl
  ·exact NowR.ex h'
 | call c =>
  have h' : gCall c P m g n ρ ⟨dst, .call c, ty, pos, after, guard⟩ K := h
  unfold gCall at h'
  cases hb : isBuilt c.callee with
  | true => rw [hb] at h'; exact Ex.ex h'
  | false => rw [hb] at h'; exact NowR.ex h'
 | slice t x lo hi mx => exact Ex.ex h
 | index t x i => exact Ex.ex h
 | lookup t x k b => exact Ex.ex h
 | mapUpdate t x k y => exact Ex.ex h
 | insert t x k y => exact Ex.ex h
 | _ => exact NowR.ex h
def gOp (P : Program) (m : Bool) (k : Nat) (ops : Array Oper) (o : Oper) (vars : Trie AV) (t : Trie Blk) (n lo : Nat) (Kp : PanK) (K : Trie AV → Trie Blk → Nat → Nat → Prop) : Prop :=
 match wantF ops vars o with
 | none => False
 | some false => putT k False o.dst (.lit undef) vars fun vars' => K vars' t n lo
 | some true => gAop P m (get t) n (evalT vars) o fun r => match r with
  | .val v .same => putT k False o.dst v vars fun vars' => K vars' t n lo
  | .val v (.push B) => putT k False o.dst v vars fun vars' => K vars' (set t n B) (Nat.add n 1) lo
  | .val v (.set id B) => putT k False o.dst v vars fun vars' => lowT lo id fun lo' => K vars' (set t id B) n lo'
  | .call f args => bif callable P f then CallG P f args t n (fun v t' n' l => putT k False o.dst v vars fun vars' => lowT lo l fun lo' => K vars' t' n' lo') (fun v t' n' l => lowT lo l fun lo' => Kp v vars t' n' lo') else False
  | .pan v => Kp v vars t n lo
  | .round id args => RoundG P id args t n (fun v t' n' l => putT k False o.dst v vars fun vars' => lowT lo l fun lo' => K vars' t' n' lo')
theorem gOp_spec {P : Program} {m : Bool} {k : Nat} {d : List Nat} {ops : Array Oper} {o : Oper} {vars : Trie AV} {t : Trie Blk} {n lo : Nat} {Kp : PanK} {K : Trie AV → Trie Blk → Nat → Nat → Prop} {H : List Blk} (hH : HT t n H) (h : gOp P m k ops o vars t n lo Kp K) :
  (∃ vars' t' n' lo' H', HT t' n' H' ∧ Keep H H' lo' ∧ lo' ≤ lo ∧ One P m ops o ⟨k, vars, H, d⟩ ⟨k, vars', H', d⟩ ∧ K vars' t' n' lo') ∨
   ∃ v t' n' lo' H', HT t' n' H' ∧ Keep H H' lo' ∧ lo' ≤ lo ∧ (∀ i, ops[i]? = some o → PanOne P ops i ⟨k, vars, H, d⟩ v ⟨k, vars, H', d⟩) ∧ Kp v vars t' n' lo' := by
 unfold gOp at h
 rw [wantF_fun] at h
 have put : ∀ {v : AV} {c : Trie AV → Prop}, putT k False o.dst v vars c → ∃ vars', (∀ H' : List Blk, ∀ H0 d0, putA ⟨k, vars, H0, d0⟩ o.dst v H' = some ⟨k, vars', H', d0⟩) ∧ c vars' := by
  intro v c hp
  unfold putT at hp
  split at hp
  ·rename_i hd; exact ⟨vars, fun H' H0 d0 => by rw [hd]; rfl, hp⟩
  ·rename_i s hd
   cases hb : Nat.blt s k with
   | false => rw [hb] at hp; exact hp.elim
   | true =>
    rw [hb] at hp
    exact ⟨set vars s v, fun H' H0 d0 => by rw [hd]; exact putA_some (σ := ⟨k, vars, H0, d0⟩) (Nat.le_of_ble_eq_true hb), hp⟩
 have low : ∀ {id : Nat} {c : Nat → Prop}, lowT lo id c → ∃ l, l ≤ lo ∧ l ≤ id ∧ c l := by
  intro id c hp
  unfold lowT at hp
  cases hb : Nat.ble lo id with
  | true => rw [hb] at hp; exact ⟨lo, Nat.le_refl _, Nat.le_of_ble_eq_true hb, hp⟩
  | false =>
   rw [hb] at hp
   refine ⟨id, ?_, Nat.le_refl _, hp⟩
   rcases Nat.lt_or_ge id lo with h | h
   ·omega
   ·rw [Nat.ble_eq_true_of_le h] at hb; cases hb
 cases hw : wantedA ops vars o with
 | none => rw [hw] at h; exact h.elim
 | some b =>
 rw [hw] at h
 cases b with
 | false =>
  obtain ⟨vars', hp, hk⟩ := put h
  exact .inl ⟨vars', t, n, lo, H, hH, Keep.refl _ _, Nat.le_refl _, .skip hw (hp H H d), hk⟩
 | true =>
 obtain ⟨r, ha, hk⟩ := gAop_ex h
 obtain ⟨ha', hokD⟩ := aopT_sound (H := H) hH.blk hH.len ha
 rw [evalT_eq k vars H d] at ha'
 cases r with
 | val v dl =>
  cases dl with
  | same =>
   obtain ⟨vars', hp, hk⟩ := put hk
   exact .inl ⟨vars', t, n, lo, H, hH, Keep.refl _ _, Nat.le_refl _, .does hw ha' (.inl rfl) (fun _ h => h) (hp H H d), hk⟩
  | push B =>
   obtain ⟨vars', hp, hk⟩ := put hk
   exact .inl ⟨vars', _, _, lo, H ++ [B], hH.push B, Keep.append _ _ _, Nat.le_refl _, .does hw ha' (.inl rfl) (keepsD_append _ _) (hp _ H d), hk⟩
  | set id B =>
   obtain ⟨vars', hp, hk⟩ := put hk
   obtain ⟨l, h1, h2, hk⟩ := low hk
   obtain ⟨B0, hB0, hd0, _⟩ := hokD
   have hlt : id < n := by rw [← hH.len]; exact (List.getElem?_eq_some_iff.1 hB0).1
   have hkp : Keep H (H.set id B) id := Keep.set hB0 hd0
   exact .inl ⟨vars', _, _, l, H.set id B, hH.set hlt B, hkp.mono h2, h1, .does hw ha' (.inl rfl) hkp.marks (hp _ H d), hk⟩
 | call f args =>
  simp only at hk
  cases hcal : callable P f with
  | false => rw [hcal] at hk; exact hk.elim
  | true =>
  rw [hcal, cond_true] at hk
  obtain ⟨hk⟩ := hk
  rcases hk H hH with ⟨v, t', n', l, H', hH', hcall, hkp, hk⟩ | ⟨v, t', n', l, H', hH', hcall, hkp, hk⟩
  ·obtain ⟨vars', hp, hk⟩ := put hk
   obtain ⟨lo', h1, h2, hk⟩ := low hk
   exact .inl ⟨vars', _, _, lo', H', hH', hkp.mono h2, h1, .does hw ha' (.inr (.inl ⟨f, args, rfl, hcal, hcall⟩)) hkp.marks (hp _ H d), hk⟩
  ·obtain ⟨lo', h1, h2, hk⟩ := low hk
   exact .inr ⟨v, _, _, lo', H', hH', hkp.mono h2, h1, fun i ho => .call ho hw ha' hcal hcall hkp.marks, hk⟩
 | round id args =>
  obtain ⟨hk⟩ := hk
  obtain ⟨v, t', n', l, H', hH', hround, hkp, hk⟩ := hk H hH
  obtain ⟨vars', hp, hk⟩ := put hk
  obtain ⟨lo', h1, h2, hk⟩ := low hk
  exact .inl ⟨vars', _, _, lo', H', hH', hkp.mono h2, h1, .does hw ha' (.inr (.inr ⟨id, args, rfl, hround⟩)) hkp.marks (hp _ H d), hk⟩
 | pan v => exact .inr ⟨v, t, n, lo, H, hH, Keep.refl _ _, Nat.le_refl _, fun i ho => .op ho hw ha', hk⟩
def gOps (P : Program) (m : Bool) (k : Nat) (ops : Array Oper) (Kp : PanK) (l : List Oper) : Trie AV → Trie Blk → Nat → Nat → (Trie AV → Trie Blk → Nat → Nat → Prop) → Prop :=
 List.rec (fun vars t n lo K => K vars t n lo) (fun o _ ih vars t n lo K => gOp P m k ops o vars t n lo Kp fun vars' t' n' lo' => ih vars' t' n' lo' K) l
theorem gOps_spec {P : Program} {m : Bool} {k : Nat} {d : List Nat} {ops : Array Oper} {Kp : PanK} {K : Trie AV → Trie Blk → Nat → Nat → Prop} {H0 : List Blk} : ∀ (l : List Oper) (i : Nat), (∀ j, l[j]? = ops[i + j]?) → ∀ vars t n lo H, HT t n H → Keep H0 H lo → gOps P m k ops Kp l vars t n lo K →
  (∃ vars' t' n' lo' H', HT t' n' H' ∧ Keep H0 H' lo' ∧ APath P ops (List.range' i l.length) ⟨k, vars, H, d⟩ ⟨k, vars', H', d⟩ ∧ K vars' t' n' lo') ∨
   ∃ v vars' t' n' lo' H', HT t' n' H' ∧ Keep H0 H' lo' ∧ APanics P ops (List.range' i l.length) ⟨k, vars, H, d⟩ v ⟨k, vars', H', d⟩ ∧ Kp v vars' t' n' lo'
 | [], _, _, vars, t, n, lo, H, hH, hk, h => .inl ⟨vars, t, n, lo, H, hH, hk, .nil, h⟩
 | o :: l, i, hl, vars, t, n, lo, H, hH, hk, h => by
  have ho : ops[i]? = some o := by have := hl 0; simpa using this.symm
  have hl' : ∀ j, l[j]? = ops[i + 1 + j]? := fun j => by have := hl (j + 1); simpa [Nat.add_assoc, Nat.add_comm 1 j] using this
  have h' : gOp P m k ops o vars t n lo Kp (fun vars' t' n' lo' => gOps P m k ops Kp l vars' t' n' lo' K) := h
  rcases gOp_spec (d := d) hH h' with ⟨vars1, t1, n1, lo1, H1, hH1, hk1, hlo, h1, hK⟩ | ⟨v, t1, n1, lo1, H1, hH1, hk1, hlo, h1, hK⟩
  ·rcases gOps_spec l (i + 1) hl' vars1 t1 n1 lo1 H1 hH1 (hk.trans hk1 hlo (Nat.le_refl _)) hK with ⟨vars2, t2, n2, lo2, H2, hH2, hk2, h2, hK2⟩ | ⟨v, vars2, t2, n2, lo2, H2, hH2, hk2, h2, hK2⟩
   ·exact .inl ⟨vars2, t2, n2, lo2, H2, hH2, hk2, .cons (h1.step ho) h2, hK2⟩
   ·exact .inr ⟨v, vars2, t2, n2, lo2, H2, hH2, hk2, .cons (h1.step ho) h2, hK2⟩
  ·exact .inr ⟨v, vars, t1, n1, lo1, H1, hH1, hk.trans hk1 hlo (Nat.le_refl _), (h1 i ho).all, hK⟩
end
end Go.Vm

namespace Go.Vm
open Go.Proofs
inductive PickW (K : List Nat → Prop) : Prop
 | mk (W : List Nat) (k : K W)
noncomputable section
def isAppend (o : Oper) : Bool := match o.op with
 | .call c => match c.callee with
  | .builtin .append => true
  | _ => false
 | _ => false
abbrev SegK := Nat → Trie Blk → Nat → Trie AV → Trie Blk → Nat → Nat → (Trie AV → Trie Blk → Nat → Nat → Prop) → Prop
def gEff (P : Program) (m : Bool) (k : Nat) (ops : Array Oper) (o : Oper) (vars : Trie AV) (t : Trie Blk) (n lo : Nat) (go : Trie AV → Trie Blk → Nat → Nat → Prop) : Prop :=
 bif isAppend o then match wantF ops vars o with
  | none => False
  | some false => putT k False o.dst (.lit undef) vars fun vars' => go vars' t n lo
  | some true => gAop P m (get t) n (evalT vars) o fun r => match r with
   | .val v (.set id (.row g)) => putT k False o.dst v vars fun vars' => lowT lo id fun lo' => go vars' (set t id (.row g)) n lo'
   | .val v (.push B) => putT k False o.dst v vars fun vars' => go vars' (set t n B) (Nat.add n 1) lo
   | .val v .same => putT k False o.dst v vars fun vars' => go vars' t n lo
   | _ => False
 else gOp P m k ops o vars t n noLo (fun _ _ _ _ _ => False) fun vars' t' n' l1 => bif Nat.ble n l1 then go vars' t' n' lo else False
def gPlain (P : Program) (m : Bool) (k : Nat) (ops : Array Oper) (W : List Nat) (o : Oper) (tb : Trie Blk) (nb : Nat) (vars : Trie AV) (go : Trie AV → Prop) : Prop := match wantF ops vars o with
 | none => False
 | some false => putT k False o.dst (.lit undef) vars go
 | some true => gAop P m (hideT (some W) tb) nb (evalT vars) o fun r => match r with
  | .val v .same => putT k False o.dst v vars go
  | _ => False
def gLay (P : Program) (k : Nat) (ops : Array Oper) (o : Oper) (id : Nat) (vars : Trie AV) (go : Trie AV → Prop) : Prop := match wantF ops vars o with
 | none => False
 | some false => putT k False o.dst (.lit undef) vars go
 | some true => match layB P o with
  | some _ => putT k False o.dst (layV o id) vars go
  | none => False
def gStore (P : Program) (m : Bool) (k : Nat) (ops : Array Oper) (W : List Nat) (o : Oper) (vars : Trie AV) (t : Trie Blk) (n lo : Nat) (go : Trie AV → Trie Blk → Nat → Nat → Prop) : Prop := match wantF ops vars o with
 | some true => gAop P m (get t) n (evalT vars) o fun r => match r with
  | .val v (.set id B) => bif memN W id then putT k False o.dst v vars fun vars' => lowT lo id fun lo' => go vars' (set t id B) n lo' else False
  | _ => False
 | _ => False
def gSeg (P : Program) (m : Bool) (k : Nat) (ops : Array Oper) (mask n0 : Nat) (W : List Nat) (Kp : PanK) (l : List Oper) : SegK :=
 List.rec (fun _ _ _ vars t n lo K => K vars t n lo)
  (fun o rest ih i tb nb vars t n lo K =>
   bif Nat.testBit mask i then
    gOp P m k ops o vars t n noLo (fun v vars' t' n' l1 => lowT lo l1 fun lo' => Kp v vars' t' n' lo') fun vars' t' n' l1 => bif noLay P rest || Nat.ble n l1 then lowT lo l1 fun lo' => ih (Nat.add i 1) t' n' vars' t' n' lo' K else False
   else match okind o with
   | .plain => gPlain P m k ops W o tb nb vars fun vars' => ih (Nat.add i 1) tb nb vars' t n lo K
   | .lay => gLay P k ops o (n0 + i) vars fun vars' => ih (Nat.add i 1) tb nb vars' t n lo K
   | .eff => gEff P m k ops o vars t n lo fun vars' t' n' lo' => ih (Nat.add i 1) tb nb vars' t' n' lo' K
   | .store => gStore P m k ops W o vars t n lo fun vars' t' n' lo' => ih (Nat.add i 1) tb nb vars' t' n' lo' K) l
theorem put_ex {k : Nat} {dst : Option Tmp} {v : AV} {vars : Trie AV} {c : Trie AV → Prop} (hp : putT k False dst v vars c) : ∃ vars', (∀ H' H0 d0, putA ⟨k, vars, H0, d0⟩ dst v H' = some ⟨k, vars', H', d0⟩) ∧ c vars' := by
 unfold putT at hp
 split at hp
 ·exact ⟨vars, fun H' H0 d0 => rfl, hp⟩
 ·rename_i s
  cases hb : Nat.blt s k with
  | false => rw [hb] at hp; exact hp.elim
  | true =>
   rw [hb] at hp
   exact ⟨set vars s v, fun H' H0 d0 => putA_some (σ := ⟨k, vars, H0, d0⟩) (Nat.le_of_ble_eq_true hb), hp⟩
theorem low_ex {lo id : Nat} {c : Nat → Prop} (hp : lowT lo id c) : ∃ l, l ≤ lo ∧ l ≤ id ∧ c l := by
 unfold lowT at hp
 cases hb : Nat.ble lo id with
 | true => rw [hb] at hp; exact ⟨lo, Nat.le_refl _, Nat.le_of_ble_eq_true hb, hp⟩
 | false =>
  rw [hb] at hp
  refine ⟨id, ?_, Nat.le_refl _, hp⟩
  rcases Nat.lt_or_ge id lo with h | h
  ·omega
  ·rw [Nat.ble_eq_true_of_le h] at hb; cases hb
section
variable {P : Program} {m : Bool} {k : Nat} {d : List Nat} {ops : Array Oper} {mask n0 : Nat} {W : List Nat} {H0 : List Blk}
def SegOk (P : Program) (k : Nat) (d : List Nat) (ops : Array Oper) (mask n0 : Nat) (W : List Nat) (H0 : List Blk) (is : List Nat) (tb : Trie Blk) (vars : Trie AV) (H : List Blk) (Kp : PanK) (K : Trie AV → Trie Blk → Nat → Nat → Prop) : Prop :=
 (∃ vars' t' n' lo' H', HT t' n' H' ∧ Keep H0 H' lo' ∧ K vars' t' n' lo' ∧
  ∃ Hs' : List (List Blk), (∀ H1 ∈ Hs', Ag W tb H1) ∧ ∀ Hs, (∀ H1 ∈ Hs', H1 ∈ Hs) → (∀ H1 ∈ Hs, Ag W tb H1) → DPath P ops (alAt P n0 ops) mask Hs is ⟨k, vars, H, d⟩ ⟨k, vars', H', d⟩) ∨
 ∃ v vars' t' n' lo' H', HT t' n' H' ∧ Keep H0 H' lo' ∧ Kp v vars' t' n' lo' ∧
  ∃ Hs' : List (List Blk), (∀ H1 ∈ Hs', Ag W tb H1) ∧ ∀ Hs, (∀ H1 ∈ Hs', H1 ∈ Hs) → (∀ H1 ∈ Hs, Ag W tb H1) → DPan P ops (alAt P n0 ops) mask Hs is ⟨k, vars, H, d⟩ v ⟨k, vars', H', d⟩
theorem SegOk.cons {i : Nat} {is : List Nat} {tb : Trie Blk} {vars vars1 : Trie AV} {H H1 : List Blk} {Kp : PanK} {K : Trie AV → Trie Blk → Nat → Nat → Prop} (hm : mask.testBit i = false) (hag : Ag W tb H1)
  (hs : ∀ Hs, H1 ∈ Hs ∨ HLe H H1 → (∀ H2 ∈ Hs, Ag W tb H2) → DStep P ops (alAt P n0 ops) Hs i ⟨k, vars, H, d⟩ ⟨k, vars1, H1, d⟩)
  (h : SegOk P k d ops mask n0 W H0 is tb vars1 H1 Kp K) : SegOk P k d ops mask n0 W H0 (i :: is) tb vars H Kp K := by
 have more : ∀ {Hs' : List (List Blk)}, (∀ H2 ∈ Hs', Ag W tb H2) → ∀ H2 ∈ H1 :: Hs', Ag W tb H2 := fun q1 H2 h => by
  rcases List.mem_cons.1 h with rfl | h
  ·exact hag
  ·exact q1 H2 h
 rcases h with ⟨vars', t', n', lo', H', hH', hk', hK, Hs', q1, q2⟩ | ⟨v, vars', t', n', lo', H', hH', hk', hK, Hs', q1, q2⟩
 ·exact .inl ⟨vars', t', n', lo', H', hH', hk', hK, H1 :: Hs', more q1, fun Hs h1 h2 => .cons hm (hs Hs (.inl (h1 _ (by simp))) h2) (q2 Hs (fun H2 h => h1 H2 (by simp [h])) h2)⟩
 ·exact .inr ⟨v, vars', t', n', lo', H', hH', hk', hK, H1 :: Hs', more q1, fun Hs h1 h2 => .cons hm (hs Hs (.inl (h1 _ (by simp))) h2) (q2 Hs (fun H2 h => h1 H2 (by simp [h])) h2)⟩
theorem gPlain_ex {o : Oper} {i : Nat} {tb : Trie Blk} {nb : Nat} {vars : Trie AV} {go : Trie AV → Prop} {H : List Blk} (ho : ops[i]? = some o) (hok : okind o = .plain) (hag : Ag W tb H) (h : gPlain P m k ops W o tb nb vars go) :
  ∃ vars', go vars' ∧ ∀ Hs, (∀ H2 ∈ Hs, Ag W tb H2) → DStep P ops (alAt P n0 ops) Hs i ⟨k, vars, H, d⟩ ⟨k, vars', H, d⟩ := by
 unfold gPlain at h
 rw [wantF_fun] at h
 cases hw : wantedA ops vars o with
 | none => rw [hw] at h; exact h.elim
 | some b =>
 rw [hw] at h
 cases b with
 | false =>
  obtain ⟨vars', hp, hk⟩ := put_ex h
  exact ⟨vars', hk, fun _ _ => ⟨o, _, H, ho, .skip hw, hp H H d⟩⟩
 | true =>
  obtain ⟨r, ha, hk⟩ := gAop_ex h
  cases r with
  | val v dl =>
   cases dl with
   | same =>
    obtain ⟨vars', hp, hk⟩ := put_ex hk
    have key : ∀ H1, Ag W tb H1 → aop P m H1 (St.eval ⟨k, vars, H, d⟩) o = some (.val v H1) := fun H1 h1 => by
     have := (aopT_sound (H := H1) h1 rfl (aopT_same H1.length hok ha)).1
     rw [evalT_eq k vars H d] at this
     exact this
    exact ⟨vars', hk, fun Hs hall => ⟨o, v, H, ho, .plain hok hw (key H hag) (fun H1 h1 => key H1 (hall H1 h1)), hp H H d⟩⟩
   | _ => exact hk.elim
  | _ => exact hk.elim
theorem gLay_ex {o : Oper} {i : Nat} {vars : Trie AV} {go : Trie AV → Prop} {H : List Blk} (ho : ops[i]? = some o) (hok : okind o = .lay) (h : gLay P k ops o (n0 + i) vars go) :
  ∃ vars', go vars' ∧ ∀ Hs, DStep P ops (alAt P n0 ops) Hs i ⟨k, vars, H, d⟩ ⟨k, vars', H, d⟩ := by
 unfold gLay at h
 rw [wantF_fun] at h
 cases hw : wantedA ops vars o with
 | none => rw [hw] at h; exact h.elim
 | some b =>
 rw [hw] at h
 cases b with
 | false =>
  obtain ⟨vars', hp, hk⟩ := put_ex h
  exact ⟨vars', hk, fun _ => ⟨o, _, H, ho, .skip hw, hp H H d⟩⟩
 | true =>
  simp only at h
  cases hB : layB P o with
  | none => rw [hB] at h; exact h.elim
  | some B =>
   rw [hB] at h
   obtain ⟨vars', hp, hk⟩ := put_ex h
   exact ⟨vars', hk, fun _ => ⟨o, layV o (n0 + i), H, ho, .lay hok hw hB (by simp [alAt, ho, hB]), hp H H d⟩⟩
theorem gEff_ex {o : Oper} {i : Nat} {vars : Trie AV} {t : Trie Blk} {n lo : Nat} {go : Trie AV → Trie Blk → Nat → Nat → Prop} {H : List Blk} (ho : ops[i]? = some o) (hok : okind o = .eff) (hH : HT t n H) (h : gEff P m k ops o vars t n lo go) :
  ∃ vars' t' n' lo' H', HT t' n' H' ∧ Keep H H' lo' ∧ lo' ≤ lo ∧ HLe H H' ∧ go vars' t' n' lo' ∧ ∀ Hs, DStep P ops (alAt P n0 ops) Hs i ⟨k, vars, H, d⟩ ⟨k, vars', H', d⟩ := by
 unfold gEff at h
 cases happ : isAppend o with
 | false =>
  rw [happ, cond_false] at h
  obtain ⟨vars', t', n', l1, H', hH', hk', hl1, h1, hK⟩ := (gOp_spec (d := d) hH h).resolve_right (fun ⟨_, _, _, _, _, _, _, _, _, e⟩ => e)
  cases hcond : Nat.ble n l1 with
  | false => rw [hcond] at hK; exact hK.elim
  | true =>
   rw [hcond, cond_true] at hK
   have hle1 := Nat.le_of_ble_eq_true hcond
   have hle2 : HLe H H' := HLe_of_keep hk' (by rw [hH.len]; exact hle1)
   have hk2 : Keep H H' lo := ⟨hk'.le, fun id _ hlt => hk'.low id (by have := hH.len; omega) hlt, hk'.marks⟩
   refine ⟨vars', t', n', lo, H', hH', hk2, Nat.le_refl _, hle2, hK, fun Hs => ?_⟩
   cases h1 with
   | skip hw hp => exact ⟨o, _, _, ho, .skip hw, hp⟩
   | does hw ha hr' hd hp =>
    rename_i r v H1
    have e := (putA_H hp).1
    have e' : H' = H1 := e
    subst e'
    exact ⟨o, v, _, ho, .eff hok hw ha hr' hle2, hp⟩
 | true =>
  rw [happ, cond_true, wantF_fun] at h
  cases hw : wantedA ops vars o with
  | none => rw [hw] at h; exact h.elim
  | some b =>
  rw [hw] at h
  cases b with
  | false =>
   obtain ⟨vars', hp, hk⟩ := put_ex h
   exact ⟨vars', t, n, lo, H, hH, Keep.refl _ _, Nat.le_refl _, HLe.refl _, hk, fun _ => ⟨o, _, H, ho, .skip hw, hp H H d⟩⟩
  | true =>
   obtain ⟨r, ha, hk⟩ := gAop_ex h
   obtain ⟨ha', hokD⟩ := aopT_sound (H := H) hH.blk hH.len ha
   rw [evalT_eq k vars H d] at ha'
   cases r with
   | val v dl =>
    cases dl with
    | same =>
     obtain ⟨vars', hp, hk⟩ := put_ex hk
     exact ⟨vars', t, n, lo, H, hH, Keep.refl _ _, Nat.le_refl _, HLe.refl _, hk, fun _ => ⟨o, v, H, ho, .eff hok hw ha' (.inl rfl) (HLe.refl _), hp H H d⟩⟩
    | push B =>
     obtain ⟨vars', hp, hk⟩ := put_ex hk
     have hle : HLe H (H ++ [B]) := HLe_of_keep (Keep.append H [B] H.length) (Nat.le_refl _)
     exact ⟨vars', _, _, lo, H ++ [B], hH.push B, Keep.append _ _ _, Nat.le_refl _, hle, hk, fun _ => ⟨o, v, _, ho, .eff hok hw ha' (.inl rfl) hle, hp _ H d⟩⟩
    | set id B =>
     cases B with
     | row g =>
      obtain ⟨vars', hp, hk⟩ := put_ex hk
      obtain ⟨l, h1, h2, hk⟩ := low_ex hk
      obtain ⟨B0, hB0, hd0, hloose⟩ := hokD
      have hlt : id < n := by rw [← hH.len]; exact (List.getElem?_eq_some_iff.1 hB0).1
      have hk' : Keep H (H.set id (.row g)) id := Keep.set hB0 hd0
      have hle2 : HLe H (H.set id (.row g)) := fun j B hB hl => by
       rw [List.getElem?_set_ne]
       ·exact hB
       ·rintro rfl; rw [hB0] at hB; cases hB; rw [hloose rfl] at hl; cases hl
      exact ⟨vars', _, _, l, _, hH.set hlt (.row g), hk'.mono h2, h1, hle2, hk, fun _ => ⟨o, v, _, ho, .eff hok hw ha' (.inl rfl) hle2, hp _ H d⟩⟩
     | _ => exact hk.elim
   | _ => exact hk.elim
theorem gStore_ex {o : Oper} {i : Nat} {tb : Trie Blk} {vars : Trie AV} {t : Trie Blk} {n lo : Nat} {go : Trie AV → Trie Blk → Nat → Nat → Prop} {H : List Blk} (ho : ops[i]? = some o) (hok : okind o = .store) (hH : HT t n H) (hag : Ag W tb H)
  (h : gStore P m k ops W o vars t n lo go) :
  ∃ vars' t' lo' H', HT t' n H' ∧ Keep H H' lo' ∧ lo' ≤ lo ∧ Ag W tb H' ∧ go vars' t' n lo' ∧ ∀ Hs, H' ∈ Hs → DStep P ops (alAt P n0 ops) Hs i ⟨k, vars, H, d⟩ ⟨k, vars', H', d⟩ := by
 unfold gStore at h
 rw [wantF_fun] at h
 split at h
 case h_2 => exact h.elim
 rename_i hw
 obtain ⟨r, ha, hk⟩ := gAop_ex h
 obtain ⟨ha', hokD⟩ := aopT_sound (H := H) hH.blk hH.len ha
 rw [evalT_eq k vars H d] at ha'
 cases r with
 | val v dl =>
  cases dl with
  | set id B =>
   simp only at hk
   cases hw2 : memN W id with
   | false => rw [hw2] at hk; exact hk.elim
   | true =>
    rw [hw2, cond_true] at hk
    obtain ⟨vars', hp, hk⟩ := put_ex hk
    obtain ⟨l, h1, h2, hk⟩ := low_ex hk
    obtain ⟨B0, hB0, hd0, hloose⟩ := hokD
    have hlt : id < n := by rw [← hH.len]; exact (List.getElem?_eq_some_iff.1 hB0).1
    have hk' : Keep H (H.set id B) id := Keep.set hB0 hd0
    have hag' : Ag W tb (H.set id B) := fun j Bj hj => by
     have hx := hideT_get hj
     rw [List.getElem?_set_ne]
     ·exact hag j Bj hj
     ·rintro rfl
      rw [hw2] at hx; cases hx.2.2
    exact ⟨vars', _, l, _, hH.set hlt B, hk'.mono h2, h1, hag', hk, fun Hs hHs => ⟨o, v, _, ho, .store hok hw ha' ⟨_, hHs, HLe.refl _⟩ hk'.marks, hp _ H d⟩⟩
  | _ => exact hk.elim
 | _ => exact hk.elim
theorem gSeg_spec {Kp : PanK} {K : Trie AV → Trie Blk → Nat → Nat → Prop} : ∀ (l : List Oper) (i : Nat), (∀ j, l[j]? = ops[i + j]?) → ∀ tb nb vars t n lo H, Ag W tb H → HT t n H → n0 + ops.size ≤ n → Keep H0 H lo → gSeg P m k ops mask n0 W Kp l i tb nb vars t n lo K →
    SegOk P k d ops mask n0 W H0 (List.range' i l.length) tb vars H Kp K
  | [], i, _, tb, nb, vars, t, n, lo, H, _, hH, _, hk, h => .inl ⟨vars, t, n, lo, H, hH, hk, h, [], (fun _ h => by cases h), fun _ _ _ => .nil⟩
  | o :: l, i, hl, tb, nb, vars, t, n, lo, H, hag, hH, hn0, hk, h => by
    have ho : ops[i]? = some o := by have := hl 0; simpa using this.symm
    have hl' : ∀ j, l[j]? = ops[i + 1 + j]? := fun j => by have := hl (j + 1); simpa [Nat.add_assoc, Nat.add_comm 1 j] using this
    have h' : (bif Nat.testBit mask i then
        gOp P m k ops o vars t n noLo (fun v vars' t' n' l1 => lowT lo l1 fun lo' => Kp v vars' t' n' lo') fun vars' t' n' l1 => bif noLay P l || Nat.ble n l1 then lowT lo l1 fun lo' => gSeg P m k ops mask n0 W Kp l (i + 1) t' n' vars' t' n' lo' K else False
      else match okind o with
      | .plain => gPlain P m k ops W o tb nb vars fun vars' => gSeg P m k ops mask n0 W Kp l (i + 1) tb nb vars' t n lo K
      | .lay => gLay P k ops o (n0 + i) vars fun vars' => gSeg P m k ops mask n0 W Kp l (i + 1) tb nb vars' t n lo K
      | .eff => gEff P m k ops o vars t n lo fun vars' t' n' lo' => gSeg P m k ops mask n0 W Kp l (i + 1) tb nb vars' t' n' lo' K
      | .store => gStore P m k ops W o vars t n lo fun vars' t' n' lo' => gSeg P m k ops mask n0 W Kp l (i + 1) tb nb vars' t' n' lo' K) := h
    clear h
    cases hm : Nat.testBit mask i with
    | true =>
      rw [hm, cond_true] at h'
      rcases gOp_spec (d := d) hH h' with ⟨vars', t', n', l1, H', hH', hk', _, h1, hK⟩ | ⟨v, t', n', l1, H', hH', hk', _, h1, hK⟩
      rotate_left
      · obtain ⟨lo', h2, h3, hK⟩ := low_ex hK
        exact .inr ⟨v, vars, t', n', lo', H', hH', hk.trans hk' h2 h3, hK, [], (fun _ h => by cases h), fun Hs _ _ => .pan hm (h1 i ho)⟩
      cases hcond : (noLay P l || Nat.ble n l1) with
      | false => rw [hcond] at hK; exact hK.elim
      | true =>
      rw [hcond, cond_true] at hK
      obtain ⟨lo', h2, h3, hK⟩ := low_ex hK
      have hf : ∀ j ∈ List.range' (i + 1) l.length, ∀ id, alAt P n0 ops j = some id → (⟨k, vars', H', d⟩ : St).H[id]? = (⟨k, vars, H, d⟩ : St).H[id]? := fun j hj id hal => by
        have hal' := alAt_spec hal
        rw [Bool.or_eq_true] at hcond
        rcases hcond with hcond | hcond
        · exfalso
          unfold noLay at hcond
          rw [List.all_eq_true] at hcond
          rw [List.mem_range'_1] at hj
          have hj2 : l[j - (i + 1)]? = ops[j]? := by rw [hl']; congr 1; omega
          unfold alAt at hal
          split at hal
          · rename_i oj hoj
            rw [hoj] at hj2
            have := hcond oj (List.mem_of_getElem? hj2)
            split at hal
            · rename_i B hB; rw [hB] at this; simp at this
            · cases hal
          · cases hal
        · have hle1 := Nat.le_of_ble_eq_true hcond
          show H'[id]? = H[id]?
          exact hk'.low id (by omega) (by rw [hH.len]; omega)
      have more : ∀ {Hs' : List (List Blk)}, (∀ H1 ∈ Hs', Ag W t' H1) → ∀ H1 ∈ H' :: Hs', Ag W t' H1 := fun q1 H1 h => by
        rcases List.mem_cons.1 h with rfl | h
        · exact Ag.of hH'
        · exact q1 H1 h
      rcases gSeg_spec l (i + 1) hl' t' n' vars' t' n' lo' H' (Ag.of hH') hH' (by have := hk'.le; have := hH.len; have := hH'.len; omega) (hk.trans hk' h2 h3) hK with ⟨vars2, t2, n2, lo2, H2, a, b, c, Hs', q1, q2⟩ | ⟨v, vars2, t2, n2, lo2, H2, a, b, c, Hs', q1, q2⟩
      · exact .inl ⟨vars2, t2, n2, lo2, H2, a, b, c, [], (fun _ h => by cases h), fun Hs _ _ => .barrier (Hs' := H' :: Hs') hm (h1.step ho) hf ⟨H', by simp, HLe.refl _⟩
          (q2 (H' :: Hs') (fun H1 h => by simp [h]) (more q1))⟩
      · exact .inr ⟨v, vars2, t2, n2, lo2, H2, a, b, c, [], (fun _ h => by cases h), fun Hs _ _ => .barrier (Hs' := H' :: Hs') hm (h1.step ho) hf ⟨H', by simp, HLe.refl _⟩
          (q2 (H' :: Hs') (fun H1 h => by simp [h]) (more q1))⟩
    | false =>
      rw [hm, cond_false] at h'
      cases hok : okind o with
      | plain =>
        rw [hok] at h'
        obtain ⟨vars', hK, hs⟩ := gPlain_ex (d := d) (n0 := n0) ho hok hag h'
        exact SegOk.cons hm hag (fun Hs _ hall => hs Hs hall) (gSeg_spec l (i + 1) hl' tb nb vars' t n lo H hag hH hn0 hk hK)
      | lay =>
        rw [hok] at h'
        obtain ⟨vars', hK, hs⟩ := gLay_ex (d := d) (n0 := n0) (H := H) ho hok h'
        exact SegOk.cons hm hag (fun Hs _ _ => hs Hs) (gSeg_spec l (i + 1) hl' tb nb vars' t n lo H hag hH hn0 hk hK)
      | eff =>
        rw [hok] at h'
        obtain ⟨vars', t', n', lo', H', hH', hk', hlo, hle, hK, hs⟩ := gEff_ex (d := d) (n0 := n0) ho hok hH h'
        exact SegOk.cons hm (hag.le hle) (fun Hs _ _ => hs Hs) (gSeg_spec l (i + 1) hl' tb nb vars' t' n' lo' H' (hag.le hle) hH' (by have := hk'.le; have := hH.len; have := hH'.len; omega) (hk.trans hk' hlo (Nat.le_refl _)) hK)
      | store =>
        rw [hok] at h'
        obtain ⟨vars', t', lo', H', hH', hk', hlo, hag', hK, hs⟩ := gStore_ex (d := d) (n0 := n0) ho hok hH hag h'
        have more : ∀ {Hs' : List (List Blk)}, (∀ H1 ∈ Hs', Ag W tb H1) → ∀ H1 ∈ H' :: Hs', Ag W tb H1 := fun q1 H1 h => by
          rcases List.mem_cons.1 h with rfl | h
          · exact hag'
          · exact q1 H1 h
        rcases gSeg_spec l (i + 1) hl' tb nb vars' t' n lo' H' hag' hH' hn0 (hk.trans hk' hlo (Nat.le_refl _)) hK with ⟨vars2, t2, n2, lo2, H2, a, b, c, Hs', q1, q2⟩ | ⟨v, vars2, t2, n2, lo2, H2, a, b, c, Hs', q1, q2⟩
        · exact .inl ⟨vars2, t2, n2, lo2, H2, a, b, c, H' :: Hs', more q1, fun Hs h1 h2 => .cons hm (hs Hs (h1 _ (by simp))) (q2 Hs (fun H1 h => h1 H1 (by simp [h])) h2)⟩
        · exact .inr ⟨v, vars2, t2, n2, lo2, H2, a, b, c, H' :: Hs', more q1, fun Hs h1 h2 => .cons hm (hs Hs (h1 _ (by simp))) (q2 Hs (fun H1 h => h1 H1 (by simp [h])) h2)⟩
def hoistG (P : Program) (l : List Oper) : Nat → Trie Blk → Trie Blk :=
 List.rec (fun _ t => t) (fun o _ ih j t => ih (Nat.succ j) (set t j (match layB P o with | some B => B | none => .defd))) l
theorem hoistG_sound : ∀ (l : List Oper) (j : Nat) (t : Trie Blk) (H : List Blk), HT t j H → HT (hoistG P l j t) (j + l.length) (H ++ l.map fun o => (layB P o).getD .defd)
 | [], j, t, H, h => by
  have e : H ++ ([] : List Oper).map (fun o => (layB P o).getD .defd) = H := by simp
  rw [e]; exact h
 | o :: l, j, t, H, h => by
  have e : j + (o :: l).length = j + 1 + l.length := by simp; omega
  rw [e]
  show HT (hoistG P l (j + 1) (set t j (match layB P o with | some B => B | none => .defd))) _ _
  have e2 : (match layB P o with | some B => B | none => .defd) = (layB P o).getD .defd := by cases layB P o <;> rfl
  rw [e2]
  have := hoistG_sound l (j + 1) (set t j ((layB P o).getD .defd)) (H ++ [(layB P o).getD .defd]) (h.push _)
  simpa using this
def gDraw (P : Program) (m : Bool) (k : Nat) (ops : Array Oper) (vars : Trie AV) (t : Trie Blk) (n lo : Nat) (Kp : PanK) (K : Trie AV → Trie Blk → Nat → Nat → Prop) : Prop :=
 bif drawOk (maskOf ops) ops then
  bif hasStore (maskOf ops) ops.toList 0 then PickW fun W => gSeg P m k ops (maskOf ops) n W Kp ops.toList 0 (hoistG P ops.toList n t) (n + ops.size) vars (hoistG P ops.toList n t) (n + ops.size) lo K
  else gSeg P m k ops (maskOf ops) n [] Kp ops.toList 0 (hoistG P ops.toList n t) (n + ops.size) vars (hoistG P ops.toList n t) (n + ops.size) lo K
 else False
theorem gDraw_spec {vars : Trie AV} {t : Trie Blk} {n lo id : Nat} {H : List Blk} {ro : Option Nat} {Kp : PanK} {K : Trie AV → Trie Blk → Nat → Nat → Prop} (hm : P.follows .mixedOrders = true) (hH : HT t n H) (hk : Keep H0 H lo) (h : gDraw P m k ops vars t n lo Kp K) :
    (∃ vars' t' n' lo' H', HT t' n' H' ∧ Keep H0 H' lo' ∧ Run P ro (.region id ops true) ⟨k, vars, H, d⟩ .normal ⟨k, vars', H', d⟩ ∧ K vars' t' n' lo') ∨
      ∃ v vars' t' n' lo' H', HT t' n' H' ∧ Keep H0 H' lo' ∧ Run P ro (.region id ops true) ⟨k, vars, H, d⟩ (.pan v) ⟨k, vars', H', d⟩ ∧ Kp v vars' t' n' lo' := by
  unfold gDraw at h
  cases hd : drawOk (maskOf ops) ops with
  | false => rw [hd] at h; exact h.elim
  | true =>
  rw [hd, cond_true] at h
  have key : ∀ W, gSeg P m k ops (maskOf ops) n W Kp ops.toList 0 (hoistG P ops.toList n t) (n + ops.size) vars (hoistG P ops.toList n t) (n + ops.size) lo K →
      (∃ vars' t' n' lo' H', HT t' n' H' ∧ Keep H0 H' lo' ∧ Run P ro (.region id ops true) ⟨k, vars, H, d⟩ .normal ⟨k, vars', H', d⟩ ∧ K vars' t' n' lo') ∨
      ∃ v vars' t' n' lo' H', HT t' n' H' ∧ Keep H0 H' lo' ∧ Run P ro (.region id ops true) ⟨k, vars, H, d⟩ (.pan v) ⟨k, vars', H', d⟩ ∧ Kp v vars' t' n' lo' := by
    intro W h
    have hH1 : HT (hoistG P ops.toList n t) (n + ops.size) (H ++ hoisted P ops) := by
      have := hoistG_sound (P := P) ops.toList n t H hH
      simpa [hoisted] using this
    have more : ∀ {Hs' : List (List Blk)}, (∀ H1 ∈ Hs', Ag W (hoistG P ops.toList n t) H1) → ∀ H1 ∈ (H ++ hoisted P ops) :: Hs', Ag W (hoistG P ops.toList n t) H1 := fun q1 H1 h => by
      rcases List.mem_cons.1 h with rfl | h
      · exact Ag.of hH1
      · exact q1 H1 h
    rcases gSeg_spec (d := d) (H0 := H0) ops.toList 0 (fun j => by simp) (hoistG P ops.toList n t) (n + ops.size) vars (hoistG P ops.toList n t) (n + ops.size) lo
      (H ++ hoisted P ops) (Ag.of hH1) hH1 (Nat.le_refl _) (hk.trans (Keep.append H _ lo) (Nat.le_refl _) (Nat.le_refl _)) h with ⟨vars', t', n', lo', H', a, b, c, Hs', q1, q2⟩ | ⟨v, vars', t', n', lo', H', a, b, c, Hs', q1, q2⟩
    · refine .inl ⟨vars', t', n', lo', H', a, b, ?_, c⟩
      refine Run.region_draw (Hs := (H ++ hoisted P ops) :: Hs') hm hd (by simp) ?_
      have := q2 ((H ++ hoisted P ops) :: Hs') (fun H1 h => by simp [h]) (more q1)
      simp only [hH.len]
      simpa [List.range_eq_range'] using this
    · refine .inr ⟨v, vars', t', n', lo', H', a, b, ?_, c⟩
      refine Run.region_draw_pan (Hs := (H ++ hoisted P ops) :: Hs') hm hd (by simp) ?_
      have := q2 ((H ++ hoisted P ops) :: Hs') (fun H1 h => by simp [h]) (more q1)
      simp only [hH.len]
      simpa [List.range_eq_range'] using this
  cases hst : hasStore (maskOf ops) ops.toList 0 with
  | false => rw [hst] at h; exact key [] h
  | true =>
    rw [hst, cond_true] at h
    obtain ⟨W, h⟩ := h
    exact key W h
end
end
end Go.Vm

namespace Go.Vm
open Go.Proofs
abbrev CodeQ := AExit → ES → Nat → Prop
def WR (P : Program) (ro : Option Nat) (c : Code) (k : Nat) (vars : Trie AV) (t : Trie Blk) (n : Nat) (d : List Nat) (lo : Nat) (Q : CodeQ) : Prop :=
 ∀ H H0, HT t n H → Keep H0 H lo → ∃ x e lo' H', HT e.t e.n H' ∧ Keep H0 H' lo' ∧ Run P ro c ⟨k, vars, H, d⟩ x ⟨k, e.vars, H', e.defs⟩ ∧ Q x e lo'
def WI (P : Program) (ro : Option Nat) (c : Code) (k : Nat) (vars : Trie AV) (t : Trie Blk) (n : Nat) (d : List Nat) (lo : Nat) (Q : CodeQ) : Prop :=
 ∀ H H0, HT t n H → Keep H0 H lo → ∃ x e lo' H', HT e.t e.n H' ∧ Keep H0 H' lo' ∧ InL P ro c ⟨k, vars, H, d⟩ x ⟨k, e.vars, H', e.defs⟩ ∧ Q x e lo'
inductive LoopG (P : Program) (ro : Option Nat) (c : Code) (k : Nat) (vars : Trie AV) (t : Trie Blk) (n : Nat) (d : List Nat) (lo : Nat) (Q : CodeQ) : Prop
 | mk (h : WI P ro c k vars t n d lo Q)
inductive RangeG (P : Program) (ro : Option Nat) (c : Code) (k : Nat) (vars : Trie AV) (t : Trie Blk) (n : Nat) (d : List Nat) (lo : Nat) (Q : CodeQ) : Prop
 | mk (h : WR P ro c k vars t n d lo Q)
inductive IfB (b : Bool) (X Y : Prop) : Prop
 | mk (h1 : b = true → X) (h2 : b = false → Y)
noncomputable section
def gCode (P : Program) (m : Bool) (k : Nat) (ro : Option Nat) (c : Code) : Trie AV → Trie Blk → Nat → List Nat → Nat → CodeQ → Prop :=
 Code.rec (motive := fun _ => Trie AV → Trie Blk → Nat → List Nat → Nat → CodeQ → Prop)
  (fun vars t n d lo Q => Q .normal ⟨vars, t, n, d⟩ lo)
  (fun _ ops draw vars t n d lo Q => match draw with
   | true => gDraw P m k ops vars t n lo (fun v vars' t' n' lo' => Q (.pan v) ⟨vars', t', n', d⟩ lo') fun vars' t' n' lo' => Q .normal ⟨vars', t', n', d⟩ lo'
   | false => gOps P m k ops (fun v vars' t' n' lo' => Q (.pan v) ⟨vars', t', n', d⟩ lo') ops.toList vars t n lo fun vars' t' n' lo' => Q .normal ⟨vars', t', n', d⟩ lo')
  (fun _ _ iha ihb vars t n d lo Q => iha vars t n d lo fun x e lo' => ES.rec (motive := fun _ => Prop) (fun vars1 t1 n1 d1 => match x with
   | .normal => ihb vars1 t1 n1 d1 lo' Q
   | x => Q x ⟨vars1, t1, n1, d1⟩ lo') e)
  (fun c _ _ iha ihb vars t n d lo Q => match evalT vars c with
   | some (.lit (.bool b)) => IfB b (iha vars t n d lo Q) (ihb vars t n d lo Q)
   | _ => False)
  (fun i _ ih vars t n d lo Q => ih vars t n d lo fun x e lo' => match x with
   | .exit j => bif Nat.beq i j then Q .normal e lo' else Q (.exit j) e lo'
   | x => Q x e lo')
  (fun c _ vars t n d lo Q => LoopG P ro c k vars t n d lo Q)
  (fun g ps assign body _ _ vars t n d lo Q => RangeG P ro (.rangeFunc g ps assign body) k vars t n d lo Q)
  (fun i vars t n d lo Q => Q (.exit i) ⟨vars, t, n, d⟩ lo)
  (fun _ ih vars t n d lo Q => ih vars t n d lo Q)
  (fun _ vars t n d lo Q => Q .normal ⟨vars, t, n, d⟩ lo)
  (fun _ _ _ _ _ _ _ => False)
  (fun vars t n d lo Q => Q .ret ⟨vars, t, n, d⟩ lo)
  (fun _ _ _ _ _ _ _ => False)
  c
theorem gCode_spec {P : Program} {m : Bool} {k : Nat} {ro : Option Nat} (hm : P.follows .mixedOrders = true) : ∀ (c : Code) vars t n d lo (Q : CodeQ), gCode P m k ro c vars t n d lo Q → WR P ro c k vars t n d lo Q := by
 intro c
 induction c with
 | skip => intro vars t n d lo Q h H H0 hH hk; exact ⟨.normal, ⟨vars, t, n, d⟩, lo, H, hH, hk, .skip, h⟩
 | region id ops draw =>
  intro vars t n d lo Q h H H0 hH hk
  cases draw with
  | true =>
   rcases gDraw_spec (d := d) (id := id) (ro := ro) hm hH hk h with ⟨vars', t', n', lo', H', a, b, c, q⟩ | ⟨v, vars', t', n', lo', H', a, b, c, q⟩
   ·exact ⟨.normal, ⟨vars', t', n', d⟩, lo', H', a, b, c, q⟩
   ·exact ⟨.pan v, ⟨vars', t', n', d⟩, lo', H', a, b, c, q⟩
  | false =>
   rcases gOps_spec (d := d) (ops := ops) ops.toList 0 (fun j => by simp) vars t n lo H hH hk h with ⟨vars', t', n', lo', H', a, b, c, q⟩ | ⟨v, vars', t', n', lo', H', a, b, c, q⟩
   ·exact ⟨.normal, ⟨vars', t', n', d⟩, lo', H', a, b, Run.region (by simpa [List.range_eq_range'] using c), q⟩
   ·exact ⟨.pan v, ⟨vars', t', n', d⟩, lo', H', a, b, Run.region_pan (by simpa [List.range_eq_range'] using c), q⟩
 | seq a b iha ihb =>
  intro vars t n d lo Q h H H0 hH hk
  obtain ⟨x, ⟨vars1, t1, n1, d1⟩, lo1, H1, hH1, hk1, r1, q⟩ := iha vars t n d lo _ h H H0 hH hk
  cases x with
  | normal =>
   obtain ⟨x, e2, lo2, H2, hH2, hk2, r2, q2⟩ := ihb vars1 t1 n1 d1 lo1 Q q H1 H0 hH1 hk1
   exact ⟨x, e2, lo2, H2, hH2, hk2, .seq r1 r2, q2⟩
  | _ => exact ⟨_, ⟨vars1, t1, n1, d1⟩, lo1, H1, hH1, hk1, .seq_out r1 rfl, q⟩
 | cond c a b iha ihb =>
  intro vars t n d lo Q h H H0 hH hk
  have h' : (match evalT vars c with | some (.lit (.bool b')) => IfB b' (gCode P m k ro a vars t n d lo Q) (gCode P m k ro b vars t n d lo Q) | _ => False) := h
  clear h
  split at h'
  ·rename_i b' he
   rw [evalT_eq k vars H d] at he
   obtain ⟨h1, h2⟩ := h'
   cases b' with
   | true =>
    obtain ⟨x, e, lo1, H1, hH1, hk1, r1, q⟩ := iha vars t n d lo Q (h1 rfl) H H0 hH hk
    exact ⟨x, e, lo1, H1, hH1, hk1, .cond he r1, q⟩
   | false =>
    obtain ⟨x, e, lo1, H1, hH1, hk1, r1, q⟩ := ihb vars t n d lo Q (h2 rfl) H H0 hH hk
    exact ⟨x, e, lo1, H1, hH1, hk1, .cond he r1, q⟩
  ·exact h'.elim
 | block i c ih =>
  intro vars t n d lo Q h H H0 hH hk
  obtain ⟨x, e, lo1, H1, hH1, hk1, r1, q⟩ := ih vars t n d lo _ h H H0 hH hk
  cases x with
  | normal => exact ⟨.normal, e, lo1, H1, hH1, hk1, .block r1 (.inl rfl), q⟩
  | exit j =>
   simp only at q
   cases hb : Nat.beq i j with
   | true =>
    rw [hb, cond_true] at q
    have := Nat.eq_of_beq_eq_true hb
    subst this
    exact ⟨.normal, e, lo1, H1, hH1, hk1, .block r1 (.inr rfl), q⟩
   | false =>
    rw [hb, cond_false] at q
    refine ⟨.exit j, e, lo1, H1, hH1, hk1, .block_out r1 ?_, q⟩
    have : j ≠ i := by rintro rfl; rw [Nat.beq_refl] at hb; cases hb
    simp [AExit.passes, this]
  | ret => exact ⟨.ret, e, lo1, H1, hH1, hk1, .block_out r1 rfl, q⟩
  | pan v => exact ⟨.pan v, e, lo1, H1, hH1, hk1, .block_out r1 rfl, q⟩
 | loop c ih =>
  intro vars t n d lo Q h H H0 hH hk
  obtain ⟨h⟩ := h
  obtain ⟨x, e, lo', H', a, b, r, q⟩ := h H H0 hH hk
  exact ⟨x, e, lo', H', a, b, .loop r, q⟩
 | rangeFunc g ps assign body _ _ =>
  intro vars t n d lo Q h
  obtain ⟨h⟩ := h
  exact h
 | exit i => intro vars t n d lo Q h H H0 hH hk; exact ⟨.exit i, ⟨vars, t, n, d⟩, lo, H, hH, hk, .exit, h⟩
 | scope c ih =>
  intro vars t n d lo Q h H H0 hH hk
  obtain ⟨x, e, lo1, H1, hH1, hk1, r1, q⟩ := ih vars t n d lo Q h H H0 hH hk
  exact ⟨x, e, lo1, H1, hH1, hk1, .scope r1, q⟩
 | label l => intro vars t n d lo Q h H H0 hH hk; exact ⟨.normal, ⟨vars, t, n, d⟩, lo, H, hH, hk, .label, h⟩
 | goto l => intro vars t n d lo Q h; exact h.elim
 | ret => intro vars t n d lo Q h H H0 hH hk; exact ⟨.ret, ⟨vars, t, n, d⟩, lo, H, hH, hk, .ret, h⟩
 | refuse w => intro vars t n d lo Q h; exact h.elim
theorem LoopG.round {P : Program} {m : Bool} {k : Nat} {ro : Option Nat} {c : Code} (hm : P.follows .mixedOrders = true) {vars : Trie AV} {t : Trie Blk} {n lo : Nat} {d : List Nat} {Q : CodeQ}
  (h : gCode P m k ro c vars t n d lo fun x e lo' => ES.rec (motive := fun _ => Prop) (fun vars1 t1 n1 d1 => match x with
   | .normal => LoopG P ro c k vars1 t1 n1 d1 lo' Q
   | x => Q x ⟨vars1, t1, n1, d1⟩ lo') e) : LoopG P ro c k vars t n d lo Q := by
 refine ⟨fun H H0 hH hk => ?_⟩
 obtain ⟨x, ⟨vars1, t1, n1, d1⟩, lo', H', a, b, r, q⟩ := gCode_spec hm c _ _ _ _ _ _ h H H0 hH hk
 cases x with
 | normal =>
  obtain ⟨q⟩ := q
  obtain ⟨x, e2, lo2, H2, a2, b2, r2, q2⟩ := q H' H0 a b
  exact ⟨x, e2, lo2, H2, a2, b2, .go r r2, q2⟩
 | exit i => exact ⟨_, ⟨vars1, t1, n1, d1⟩, lo', H', a, b, .out r rfl, q⟩
 | ret => exact ⟨_, ⟨vars1, t1, n1, d1⟩, lo', H', a, b, .out r rfl, q⟩
 | pan v => exact ⟨_, ⟨vars1, t1, n1, d1⟩, lo', H', a, b, .out r rfl, q⟩
inductive FinG (P : Program) (rs : List ResultVar) (e : ES) (v : AV) : Prop
 | mk (vs : List AV) (h : resT P (get e.t) e.vars rs = some vs) (hd : e.defs = []) (hv : AV.freeze (get e.t) (resV vs) = v)
theorem fn_rule {P : Program} {m : Bool} {f : FuncId} {fn : Func} {c : Code} {args : List AV} {v : AV} (hm : P.follows .mixedOrders = true) (hf : P.funcs[f]? = some fn) (hb : fn.body = some c) (hn : args.length ≤ fn.ntmps)
  (ha : AV.unders 0 args) (hv : v.under 0)
  (h : gCode P m fn.ntmps none c (initVars 0 args) .nil 0 [] noLo fun x e _ => (x = .ret ∨ x = .normal) ∧ FinG P fn.results.toList e v) (H : List Blk) : ACall P f args H (.ret v) H := by
 obtain ⟨x, e, lo, H', hH', hk', hrun, hx, vs, hres, hd, hfr⟩ := gCode_spec hm c _ _ _ _ _ _ h [] [] HT.nil (Keep.refl _ _)
 have hcr : ACall P f args [] (.ret (resV vs)) H' := by
  rw [hd] at hrun
  exact ACall.intro_marks hf hb hn hrun hx List.nodup_nil (resT_sound hH' hres)
 subst hfr
 exact hcr.freeze0 hH'.blk ha hv H
end
end Go.Vm

namespace Go.Vm
open Go.Proofs
noncomputable def ofL {α : Type} (l : List (Nat × α)) : Trie α := List.rec .nil (fun p _ ih => set ih p.1 p.2) l
theorem get_ofL {α : Type} : ∀ {l : List (Nat × α)} {s : Nat} {v : α}, get (ofL l) s = some v → (s, v) ∈ l
 | [], s, v, h => by
  have h' : get (.nil : Trie α) s = some v := h
  rw [get_nil] at h'; cases h'
 | p :: l, s, v, h => by
  have h' : get (set (ofL l) p.1 p.2) s = some v := h
  by_cases e : p.1 = s
  ·subst e
   rw [get_set_same] at h'; cases h'; exact List.mem_cons_self
  ·rw [get_set_other _ _ _ _ e] at h'
   exact List.mem_cons_of_mem _ (get_ofL h')
def WeakH (H : List Blk) (v v' : AV) : Prop := ∀ (_ : Outer) ι w c, VRel ⟨H, ι, w⟩ v c → VRel ⟨H, ι, w⟩ v' c
def Weak (t : Trie Blk) (v v' : AV) : Prop := ∀ n H, HT t n H → WeakH H v v'
theorem Weak.refl (t : Trie Blk) (v : AV) : Weak t v v := fun _ _ _ _ _ _ _ h => h
theorem Weak.tail (t : Trie Blk) (len : Nat) (cells : List AV) (tl : Tail) : Weak t (.sl len cells tl) (.sl len cells .unk) := fun _ _ _ _ _ _ _ h => by
 simp only [VRel] at h ⊢
 obtain ⟨base, cap, hc, hle, hcells, _⟩ := h
 exact ⟨base, cap, hc, hle, hcells, trivial⟩
theorem Weak.own {t : Trie Blk} {r g : Nat} (sz : Nat) (hr : get t r = some (.row g)) : Weak t (.lit (.slice none 0 0)) (.sl 0 [] (.own r g sz)) := fun _ _ hH _ _ _ _ h => by
 simp only [VRel] at h ⊢
 refine ⟨none, 0, h, Nat.le_refl _, .inl trivial, ?_⟩
 exact ⟨by simp, g, hH.blk _ _ hr, Nat.le_refl _, fun _ => .inl rfl⟩
theorem Run.back {P : Program} {ro : Option Nat} {c : Code} {k : Nat} {V0 V1 V2 : Trie AV} {H H1 : List Blk} {d d1 : List Nat} (h : Run P ro c ⟨k, V0, H, d⟩ .normal ⟨k, V1, H1, d1⟩) (hd : (d1.filter fun i => Nat.blt i H.length) = d)
  (hv : ∀ s v, get V2 s = some v → ∃ v1, get V1 s = some v1 ∧ WeakH H1 v1 v ∧ v.under H.length) (hchg : ∀ id, id < H.length → H1[id]? = H[id]? ∨ ∃ B, H1[id]? = some B ∧ B.under H.length) : Run P ro c ⟨k, V0, H, d⟩ .normal ⟨k, V2, H1.take H.length, d⟩ := by
 intro O ι a w cro hro hs
 refine wpIn_mono (h O ι a w cro hro hs) ?_
 rintro e1 a1 w1 ⟨ι1, hx, hs1, hev, hnon⟩
 cases e1 with
 | normal =>
  refine ⟨cutι ι1 H.length, trivial, ⟨Rel.back hs.rel hs1.rel hev hnon hchg, hs1.size, fun s v hg => ?_, by have := DefRel.cut (n := H.length) hs1.rel hs1.defs; rw [hd] at this; exact this⟩, hev.cut, hnon.cut⟩
  obtain ⟨v1, hg1, hw, hu⟩ := hv s v hg
  obtain ⟨c, hc, hr⟩ := hs1.vars s v1 hg1
  exact ⟨c, hc, VRel.cut (S := ⟨H1, ι1, w1⟩) v c hu (hw O ι1 w1 c hr)⟩
 | _ => exact hx.elim
theorem InL.fewer {P : Program} {ro : Option Nat} {c : Code} {k : Nat} {V V0 : Trie AV} {H : List Blk} {d : List Nat} {x : AExit} {σ' : St} (h : InL P ro c ⟨k, V0, H, d⟩ x σ') (hv : ∀ s v, get V0 s = some v → ∃ v1, get V s = some v1 ∧ WeakH H v1 v) : InL P ro c ⟨k, V, H, d⟩ x σ' := by
 intro O ι a w cro hro hs
 refine h O ι a w cro hro ⟨hs.rel, hs.size, fun s v hg => ?_, hs.defs⟩
 obtain ⟨v1, hg1, hw⟩ := hv s v hg
 obtain ⟨c, hc, hr⟩ := hs.vars s v1 hg1
 exact ⟨c, hc, hw O ι w c hr⟩
def RoundQ {α : Type} (S : α → List (Nat × AV)) (T : α → List (Nat × Blk)) (μ : α → Nat) (L n : Nat) (d : List Nat) (Q : CodeQ) (a : α) : CodeQ := fun x e lo' => match x with
 | .normal => L ≤ lo' ∧ (e.defs.filter fun i => Nat.blt i n) = d ∧ ∃ a', μ a' < μ a ∧ (∀ p ∈ S a', ∃ v, get e.vars p.1 = some v ∧ Weak e.t v p.2 ∧ p.2.under n) ∧ (∀ p ∈ T a', get e.t p.1 = some p.2 ∧ p.1 < n) ∧ ∀ id, lo' ≤ id → id < n → ∃ B, get e.t id = some B ∧ B.under n
 | x => L ≤ lo' ∧ Q x e L
theorem loop_rule0 {P : Program} {m : Bool} {k : Nat} {ro : Option Nat} {c : Code} {α : Type} (hm : P.follows .mixedOrders = true) {vars : Trie AV} {t : Trie Blk} {n lo : Nat} {d : List Nat} {Q : CodeQ}
  (S : α → List (Nat × AV)) (T : α → List (Nat × Blk)) (μ : α → Nat) (L : Nat) (a0 : α) (hlo : L ≤ lo) (hv : ∀ p ∈ S a0, ∃ v, get vars p.1 = some v ∧ Weak t v p.2) (ht : ∀ p ∈ T a0, get t p.1 = some p.2)
  (R : α → CodeQ) (hR : ∀ a x e lo', R a x e lo' → RoundQ S T μ L n d Q a x e lo')
  (body : ∀ a, gCode P m k ro c (ofL (S a)) (ofL (T a)) n d noLo (R a)) : LoopG P ro c k vars t n d lo Q := by
 have key : ∀ j a, μ a = j → ∀ H H0, HT (ofL (T a)) n H → Keep H0 H L → ∃ x e lo' H', HT e.t e.n H' ∧ Keep H0 H' lo' ∧ InL P ro c ⟨k, ofL (S a), H, d⟩ x ⟨k, e.vars, H', e.defs⟩ ∧ Q x e lo' := by
  intro j
  induction j using Nat.strongRecOn with
  | _ j ih =>
  intro a hj H H0 hH hk
  obtain ⟨x, e, lo', H1, hH1, hk1, hrun, hq⟩ := gCode_spec hm c _ _ _ _ _ _ (body a) H H hH (Keep.refl _ _)
  have hq := hR _ _ _ _ hq
  cases x with
  | normal =>
   obtain ⟨hL, hd, a', hμ, hS, hT, hB⟩ := hq
   have hlen := hH.len
   have hchg : ∀ id, id < H.length → H1[id]? = H[id]? ∨ ∃ B, H1[id]? = some B ∧ B.under H.length := by
    intro id hlt
    rcases Nat.lt_or_ge id lo' with h | h
    ·exact .inl (hk1.low id h hlt)
    ·obtain ⟨B, hB1, hB2⟩ := hB id h (by omega)
     exact .inr ⟨B, hH1.blk _ _ hB1, by rw [hlen]; exact hB2⟩
   have hback := hrun.back (V2 := ofL (S a')) (by rw [hlen]; exact hd) (fun s v hg => by
    obtain ⟨v1, h1, h2, h3⟩ := hS _ (get_ofL hg)
    exact ⟨v1, h1, h2 _ _ hH1, by rw [hlen]; exact h3⟩) hchg
   have hle := hk1.le
   have hH2 : HT (ofL (T a')) n (H1.take H.length) := by
    refine ⟨by rw [List.length_take]; omega, fun id B hg => ?_⟩
    obtain ⟨h1, h2⟩ := hT _ (get_ofL hg)
    rw [List.getElem?_take_of_lt (by omega)]
    exact hH1.blk _ _ h1
   have hk2 : Keep H (H1.take H.length) L := by
    refine ⟨by rw [List.length_take]; omega, fun id h1 h2 => ?_, fun id hid => ?_⟩
    ·rw [List.getElem?_take_of_lt h2]; exact hk1.low id (by omega) h2
    ·have hlt := (List.getElem?_eq_some_iff.1 hid).1
     rw [List.getElem?_take_of_lt hlt]; exact hk1.marks id hid
   obtain ⟨x, e2, lo2, H2, hH3, hk3, hin, hq2⟩ := ih (μ a') (by omega) a' rfl (H1.take H.length) H0 hH2 (hk.trans hk2 (Nat.le_refl _) (Nat.le_refl _))
   exact ⟨x, e2, lo2, H2, hH3, hk3, .go hback hin, hq2⟩
  | exit i => exact ⟨_, e, L, H1, hH1, hk.trans hk1 (Nat.le_refl _) hq.1, .out hrun rfl, hq.2⟩
  | ret => exact ⟨_, e, L, H1, hH1, hk.trans hk1 (Nat.le_refl _) hq.1, .out hrun rfl, hq.2⟩
  | pan v => exact ⟨_, e, L, H1, hH1, hk.trans hk1 (Nat.le_refl _) hq.1, .out hrun rfl, hq.2⟩
 refine ⟨fun H H0 hH hk => ?_⟩
 obtain ⟨x, e, lo', H', h1, h2, h3, h4⟩ := key _ a0 rfl H H0 ⟨hH.len, fun id B hg => hH.blk _ _ (ht _ (get_ofL hg))⟩ (hk.mono hlo)
 exact ⟨x, e, lo', H', h1, h2, (h3.fewer fun s v hg => by
  obtain ⟨v1, g1, g2⟩ := hv _ (get_ofL hg)
  exact ⟨v1, g1, g2 _ _ hH⟩), h4⟩
def Slots (g : Nat → Option AV) (t : Trie Blk) (n : Nat) : List (Nat × AV) → Prop
 | [] => True
 | p :: l => (∃ v, g p.1 = some v ∧ Weak t v p.2 ∧ p.2.under n) ∧ Slots g t n l
def Blks (g : Nat → Option Blk) (n : Nat) : List (Nat × Blk) → Prop
 | [] => True
 | p :: l => (g p.1 = some p.2 ∧ p.1 < n) ∧ Blks g n l
def Dirty (g : Nat → Option Blk) (n : Nat) : List Nat → Prop
 | [] => True
 | i :: l => (∃ B, g i = some B ∧ B.under n) ∧ Dirty g n l
theorem wp {o : Option AV} {t : Trie Blk} {v : AV} {n : Nat} (h : o = some v) (hu : v.under n) : ∃ w, o = some w ∧ Weak t w v ∧ v.under n := ⟨v, h, Weak.refl _ _, hu⟩
theorem bk {o : Option Blk} {B : Blk} {i n : Nat} (h : o = some B) (h' : Nat.blt i n = true) : o = some B ∧ i < n := ⟨h, Nat.le_of_ble_eq_true h'⟩
theorem ifY {X Y : Prop} (h : X) : IfB true X Y := ⟨fun _ => h, fun e => (by cases e)⟩
theorem ifN {X Y : Prop} (h : Y) : IfB false X Y := ⟨fun e => (by cases e), fun _ => h⟩
theorem Slots.mem {g : Nat → Option AV} {t : Trie Blk} {n : Nat} : ∀ {l : List (Nat × AV)}, Slots g t n l → ∀ p ∈ l, ∃ v, g p.1 = some v ∧ Weak t v p.2 ∧ p.2.under n
 | [], _, _, h => by cases h
 | q :: l, hs, p, h => by
  rcases List.mem_cons.1 h with rfl | h
  ·exact hs.1
  ·exact Slots.mem hs.2 p h
theorem Blks.mem {g : Nat → Option Blk} {n : Nat} : ∀ {l : List (Nat × Blk)}, Blks g n l → ∀ p ∈ l, g p.1 = some p.2 ∧ p.1 < n
 | [], _, _, h => by cases h
 | q :: l, hs, p, h => by
  rcases List.mem_cons.1 h with rfl | h
  ·exact hs.1
  ·exact Blks.mem hs.2 p h
theorem Dirty.mem {g : Nat → Option Blk} {n : Nat} : ∀ {l : List Nat}, Dirty g n l → ∀ i ∈ l, ∃ B, g i = some B ∧ B.under n
 | [], _, _, h => by cases h
 | q :: l, hs, p, h => by
  rcases List.mem_cons.1 h with rfl | h
  ·exact hs.1
  ·exact Dirty.mem hs.2 p h
def RoundR {α : Type} (S : α → List (Nat × AV)) (T : α → List (Nat × Blk)) (μ : α → Nat) (L n : Nat) (d : List Nat) (Q : CodeQ) (a : α) : CodeQ := fun x e lo' => match x with
 | .normal => L ≤ lo' ∧ (e.defs.filter fun i => Nat.blt i n) = d ∧ ∃ a', μ a' < μ a ∧ Slots (get e.vars) e.t n (S a') ∧ Blks (get e.t) n (T a') ∧ Dirty (get e.t) n (List.range' lo' (n - lo'))
 | x => L ≤ lo' ∧ Q x e L
theorem loop_r {P : Program} {m : Bool} {k : Nat} {ro : Option Nat} {c : Code} {α : Type} (hm : P.follows .mixedOrders = true) {vars : Trie AV} {t : Trie Blk} {n lo : Nat} {d : List Nat} {Q : CodeQ}
  (S : α → List (Nat × AV)) (T : α → List (Nat × Blk)) (μ : α → Nat) (L : Nat) (a0 : α) (hlo : L ≤ lo) (hv : Slots (get vars) t noLo (S a0)) (ht : Blks (get t) noLo (T a0))
  (body : ∀ a, gCode P m k ro c (ofL (S a)) (ofL (T a)) n d noLo (RoundR S T μ L n d Q a)) : LoopG P ro c k vars t n d lo Q := by
 refine loop_rule0 hm S T μ L a0 hlo (fun p hp => ?_) (fun p hp => (ht.mem p hp).1) _ (fun a x e lo' h => ?_) body
 ·obtain ⟨v, h1, h2, _⟩ := hv.mem p hp
  exact ⟨v, h1, h2⟩
 ·cases x with
  | normal =>
   obtain ⟨h1, h2, a', h3, h4, h5, h6⟩ := h
   refine ⟨h1, h2, a', h3, h4.mem, h5.mem, fun id g1 g2 => h6.mem id ?_⟩
   rw [List.mem_range'_1]; omega
  | _ => exact h
def RoundU (S : Nat → List (Nat × AV)) (T : Nat → List (Nat × Blk)) (I : Nat → Prop) (N L n : Nat) (d : List Nat) (Q : CodeQ) (r : Nat) : CodeQ := fun x e lo' => match x with
 | .normal => L ≤ lo' ∧ (e.defs.filter fun i => Nat.blt i n) = d ∧ r < N ∧ I (r + 1) ∧ Slots (get e.vars) e.t n (S (r + 1)) ∧ Blks (get e.t) n (T (r + 1)) ∧ Dirty (get e.t) n (List.range' lo' (n - lo'))
 | x => L ≤ lo' ∧ Q x e L
theorem loop_up {P : Program} {m : Bool} {k : Nat} {ro : Option Nat} {c : Code} (hm : P.follows .mixedOrders = true) {vars : Trie AV} {t : Trie Blk} {n lo : Nat} {d : List Nat} {Q : CodeQ}
  (S : Nat → List (Nat × AV)) (T : Nat → List (Nat × Blk)) (I : Nat → Prop) (N : Nat) (L : Nat) (hlo : L ≤ lo) (h0 : I 0) (hv : Slots (get vars) t noLo (S 0)) (ht : Blks (get t) noLo (T 0))
  (body : ∀ r, r ≤ N → I r → gCode P m k ro c (ofL (S r)) (ofL (T r)) n d noLo (RoundU S T I N L n d Q r)) : LoopG P ro c k vars t n d lo Q := by
 refine loop_rule0 (α := { r : Nat // r ≤ N ∧ I r }) hm (fun a => S a.1) (fun a => T a.1) (fun a => N - a.1) L ⟨0, Nat.zero_le _, h0⟩ hlo (fun p hp => ?_) (fun p hp => (ht.mem p hp).1) (fun a => RoundU S T I N L n d Q a.1) (fun a x e lo' h => ?_) (fun a => body a.1 a.2.1 a.2.2)
 ·obtain ⟨v, h1, h2, _⟩ := hv.mem p hp
  exact ⟨v, h1, h2⟩
 ·cases x with
  | normal =>
   obtain ⟨h1, h2, h3, h4, h5, h6, h7⟩ := h
   refine ⟨h1, h2, ⟨a.1 + 1, h3, h4⟩, ?_, h5.mem, h6.mem, fun id g1 g2 => h7.mem id ?_⟩
   ·show N - (a.1 + 1) < N - a.1; omega
   ·rw [List.mem_range'_1]; omega
  | _ => exact h
theorem LoopG.at {P : Program} {ro : Option Nat} {c : Code} {k : Nat} {vars : Trie AV} {t : Trie Blk} {n n0 : Nat} {d : List Nat} {lo : Nat} {Q : CodeQ} (h : n = n0) (x : LoopG P ro c k vars t n0 d lo Q) : LoopG P ro c k vars t n d lo Q := by
 rw [h]; exact x
theorem InL.ghost {P : Program} {ro : Option Nat} {c : Code} {k : Nat} {V : Trie AV} {H : List Blk} {d : List Nat} {x : AExit} {σ' : St} (h : InL P ro c ⟨k, V, H ++ [.row 0], d⟩ x σ') : InL P ro c ⟨k, V, H, d⟩ x σ' := by
 intro O ι a w cro hro hs b kk cs hbro hb hr
 have hev : Ev ⟨H, ι, w⟩ ⟨H ++ [.row 0], ι, w⟩ := Ev.fresh hs.rel (w' := w) (H2 := [.row 0]) (fun _ _ => rfl) ⟨rfl, rfl⟩
 have hR : Rel ⟨H ++ [.row 0], ι, w⟩ := Rel.fresh hs.rel (w' := w) (H2 := [.row 0]) (fun _ _ => rfl) ⟨rfl, rfl⟩
 have hnon : Non ⟨H, ι, w⟩ ⟨H ++ [.row 0], ι, w⟩ := fun _ _ h => h
 obtain ⟨e', a', w', hp, harr⟩ := h O ι a w cro (hro.ev hev) ⟨hR, hs.size, hs.vars.ev hev, hs.defs.ev hev (keepsD_append _ _)⟩ b kk cs hbro hb hr
 exact ⟨e', a', w', Post.trans hev hnon _ _ _ hp, harr⟩
theorem LoopG.ghost {P : Program} {ro : Option Nat} {c : Code} {k : Nat} {vars : Trie AV} {t : Trie Blk} {n : Nat} {d : List Nat} {lo : Nat} {Q : CodeQ} (h : LoopG P ro c k vars (set t n (.row 0)) (n + 1) d lo Q) : LoopG P ro c k vars t n d lo Q := by
 obtain ⟨h⟩ := h
 refine ⟨fun H H0 hH hk => ?_⟩
 obtain ⟨x, e, lo', H', h1, h2, h3, h4⟩ := h (H ++ [.row 0]) H0 (hH.push _) (hk.trans (Keep.append H _ lo) (Nat.le_refl _) (Nat.le_refl _))
 exact ⟨x, e, lo', H', h1, h2, h3.ghost, h4⟩
end Go.Vm

namespace Go.Vm
open Go.Proofs
theorem CallG.pure {P : Program} {f : FuncId} {args : List AV} {t : Trie Blk} {n : Nat} {K Kp : AV → Trie Blk → Nat → Nat → Prop} (v : AV) (h : ∀ H, ACall P f args H (.ret v) H) (k : K v t n noLo) : CallG P f args t n K Kp :=
 .ret fun H hH => ⟨v, t, n, noLo, H, hH, h H, Keep.refl _ _, k⟩
inductive Weaks : List AV → List AV → Prop
 | nil : Weaks [] []
 | cons {a b : AV} {l l' : List AV} (h : ∀ H, WeakH H a b) (t : Weaks l l') : Weaks (a :: l) (b :: l')
theorem Weaks.rel [O : Outer] {H : List Blk} {ι : Nat → Option (Nat × Nat)} {w : World} {l l' : List AV} (h : Weaks l l') : ∀ {cs : List Value}, VRels ⟨H, ι, w⟩ l cs → VRels ⟨H, ι, w⟩ l' cs := by
 induction h with
 | nil => intro cs x; exact x
 | cons h _ ih =>
  intro cs x
  cases cs with
  | nil => simp [VRels] at x
  | cons c cs =>
   simp only [VRels] at x ⊢
   exact ⟨h H O ι w c x.1, ih x.2⟩
theorem CallG.weak {P : Program} {f : FuncId} {args args' : List AV} {t : Trie Blk} {n : Nat} {K Kp : AV → Trie Blk → Nat → Nat → Prop} (v : AV) (hw : Weaks args args') (h : ∀ H, ACall P f args' H (.ret v) H) (k : K v t n noLo) : CallG P f args t n K Kp :=
 .pure v (fun H O ι w cs hR hargs => h H O ι w cs hR (hw.rel hargs)) k
theorem WeakH.refl (v : AV) (H : List Blk) : WeakH H v v := fun _ _ _ _ h => h
theorem WeakH.tail (len : Nat) (cells : List AV) (tl : Tail) (H : List Blk) : WeakH H (.sl len cells tl) (.sl len cells .unk) := fun _ _ _ _ h => by
 simp only [VRel] at h ⊢
 obtain ⟨base, cap, hc, hle, hcells, _⟩ := h
 exact ⟨base, cap, hc, hle, hcells, trivial⟩
theorem WeakH.nil (H : List Blk) : WeakH H (.lit (.slice none 0 0)) (.sl 0 [] .unk) := fun _ _ _ _ h => by
 simp only [VRel] at h ⊢
 exact ⟨none, 0, h, Nat.le_refl _, .inl trivial, trivial⟩
end Go.Vm

namespace Go.Vm
def n' (i : Int) : AV := .lit (.int .i64 i)
def lu (l : List Int) : AV := .sl l.length (l.map n') .unk
end Go.Vm

namespace Go.Vm
open Go.Proofs
theorem indexOp_sl {P : Program} {t elem n len : Nat} {cells : List AV} {tl : Tail} {k : IntKind} {i : Int} (hu : P.underlying t = some (.slice elem)) (hs : tsz P elem = some n) (h : 0 ≤ i ∧ i < len ∧ i.toNat * n + n ≤ cells.length ∧ 0 < n) :
  indexOp P t (.sl len cells tl) (.lit (.int k i)) = some (.eptr ((cells.drop (i.toNat * n)).take n)) := by
 simp only [indexOp, hu, hs]
 rw [if_pos h]
abbrev Move := Int × Int
abbrev Vers := List (List Move)
def eMove (m : Move) : List AV := [n' m.1, n' m.2]
def eState (s : List Move) : AV := .sl s.length (s.flatMap eMove) .unk
def eStates (v : Vers) : AV := .sl v.length (v.map eState) .unk
def ePlayer (v : Vers) (s : Int) : AV := .agg [eStates v, n' s]
theorem flat_length : ∀ (s : List Move), (s.flatMap eMove).length = s.length * 2
 | [] => rfl
 | m :: s => by
  rw [List.flatMap_cons, List.length_append, flat_length s, List.length_cons]
  show 2 + s.length * 2 = _
  omega
theorem flat_at : ∀ {s : List Move} {j : Nat} {m : Move}, s[j]? = some m → ((s.flatMap eMove).drop (j * 2)).take 2 = eMove m
 | [], _, _, h => by simp at h
 | m :: s, 0, m', h => by
  simp at h; subst h
  rw [List.flatMap_cons]
  rfl
 | m :: s, j + 1, m', h => by
  have e : (j + 1) * 2 = j * 2 + 2 := by omega
  rw [List.flatMap_cons, e]
  show ((s.flatMap eMove).drop (j * 2)).take 2 = _
  exact flat_at (by simpa using h)
theorem map_at {α : Type} {f : α → AV} {l : List α} {j : Nat} {x : α} (h : l[j]? = some x) : ((l.map f).drop (j * 1)).take 1 = [f x] := by
 have hlt := (List.getElem?_eq_some_iff.1 h).1
 rw [Nat.mul_one, List.drop_eq_getElem_cons (by simpa using hlt)]
 simp [(List.getElem?_eq_some_iff.1 h).2]
theorem unders_map {α : Type} {f : α → AV} {n : Nat} (h : ∀ x, (f x).under n) (l : List α) : AV.unders n (l.map f) := by
 rw [AV.unders_mem]
 intro a ha
 obtain ⟨x, _, rfl⟩ := List.mem_map.1 ha
 exact h x
theorem unders_flat (n : Nat) : ∀ (s : List Move), AV.unders n (s.flatMap eMove)
 | [] => by simp [AV.unders]
 | m :: s => by
  show AV.unders n (n' m.1 :: n' m.2 :: s.flatMap eMove)
  simp only [AV.unders]
  exact ⟨trivial, trivial, unders_flat n s⟩
theorem under_state (n : Nat) (s : List Move) : (eState s).under n := by
 unfold eState
 simp only [AV.under]
 exact ⟨unders_flat n s, trivial⟩
theorem under_states (n : Nat) (v : Vers) : (eStates v).under n := by
 unfold eStates
 simp only [AV.under]
 exact ⟨unders_map (under_state n) v, trivial⟩
set_option maxRecDepth 100000 in
theorem c_leads {v : Vers} {i j : Nat} {s : List Move} {m : Move} (hs : v[i]? = some s) (hm : s[j]? = some m) (H : List Blk) : ACall Tryz.prog 162 [ePlayer v i, n' j] H (.ret (n' m.1)) H := by
 have hi := (List.getElem?_eq_some_iff.1 hs).1
 have hj := (List.getElem?_eq_some_iff.1 hm).1
 refine fn_rule (m := false) (fn := Tryz.f162) (c := (Tryz.f162.body).getD .skip) mixed (by kernel_rfl) (by kernel_rfl) (of_decide_eq_true (by kernel_rfl)) ?_ ?_ ?_ H
 ·simp only [ePlayer, AV.unders, AV.under, n', and_true]
  exact under_states 0 v
 ·simp [n', AV.under]
 ·refine Ex.mk (.eptr [eState s]) ?_ ?_
  ·refine (indexOp_sl (elem := 65) (n := 1) (by kernel_rfl) (by kernel_rfl) ⟨by omega, by omega, by simp; omega, by omega⟩).trans ?_
   rw [Int.toNat_natCast, map_at hs]
  refine Ex.mk (eState s) rfl ?_
  refine Ex.mk (.eptr (eMove m)) ?_ ?_
  ·refine (indexOp_sl (elem := 67) (n := 2) (by kernel_rfl) (by kernel_rfl) ⟨by omega, by omega, by rw [flat_length, Int.toNat_natCast]; omega, by omega⟩).trans ?_
   rw [Int.toNat_natCast, flat_at hm]
  refine Ex.mk (n' m.1) rfl ?_
  exact ⟨.inl rfl, FinG.mk _ rfl rfl rfl⟩
set_option maxRecDepth 100000 in
theorem c_sounds {v : Vers} {i j : Nat} {s : List Move} {m : Move} (hs : v[i]? = some s) (hm : s[j]? = some m) (H : List Blk) : ACall Tryz.prog 163 [ePlayer v i, n' j] H (.ret (n' m.2)) H := by
 have hi := (List.getElem?_eq_some_iff.1 hs).1
 have hj := (List.getElem?_eq_some_iff.1 hm).1
 refine fn_rule (m := false) (fn := Tryz.f163) (c := (Tryz.f163.body).getD .skip) mixed (by kernel_rfl) (by kernel_rfl) (of_decide_eq_true (by kernel_rfl)) ?_ ?_ ?_ H
 ·simp only [ePlayer, AV.unders, AV.under, n', and_true]
  exact under_states 0 v
 ·simp [n', AV.under]
 ·refine Ex.mk (.eptr [eState s]) ?_ ?_
  ·refine (indexOp_sl (elem := 65) (n := 1) (by kernel_rfl) (by kernel_rfl) ⟨by omega, by omega, by simp; omega, by omega⟩).trans ?_
   rw [Int.toNat_natCast, map_at hs]
  refine Ex.mk (eState s) rfl ?_
  refine Ex.mk (.eptr (eMove m)) ?_ ?_
  ·refine (indexOp_sl (elem := 67) (n := 2) (by kernel_rfl) (by kernel_rfl) ⟨by omega, by omega, by rw [flat_length, Int.toNat_natCast]; omega, by omega⟩).trans ?_
   rw [Int.toNat_natCast, flat_at hm]
  refine Ex.mk (n' m.2) rfl ?_
  exact ⟨.inl rfl, FinG.mk _ rfl rfl rfl⟩
end Go.Vm

namespace Go.Vm
open Go.Proofs
theorem freezes_map {α : Type} {g : Nat → Option Blk} {f : α → AV} (h : ∀ x, AV.freeze g (f x) = f x) : ∀ l : List α, AV.freezes g (l.map f) = l.map f
 | [] => rfl
 | x :: l => by
  show AV.freeze g (f x) :: AV.freezes g (l.map f) = _
  rw [h x, freezes_map h l]; rfl
theorem freezes_flat (g : Nat → Option Blk) : ∀ s : List Move, AV.freezes g (s.flatMap eMove) = s.flatMap eMove
 | [] => rfl
 | m :: s => by
  show n' m.1 :: n' m.2 :: AV.freezes g (s.flatMap eMove) = _
  rw [freezes_flat g s]; rfl
theorem freeze_state (g : Nat → Option Blk) (s : List Move) : AV.freeze g (eState s) = eState s := by
 show AV.sl s.length (AV.freezes g (s.flatMap eMove)) .unk = _
 rw [freezes_flat]; rfl
theorem freeze_states (g : Nat → Option Blk) (v : Vers) : AV.freeze g (eStates v) = eStates v := by
 show AV.sl v.length (AV.freezes g (v.map eState)) .unk = _
 rw [freezes_map (freeze_state g)]; rfl
set_option maxRecDepth 100000 in
theorem c_hears {v : Vers} {i j : Nat} {s : List Move} {m : Move} (hs : v[i]? = some s) (hm : s[j]? = some m) (H : List Blk) : ACall Tryz.prog 109 [ePlayer v i, n' j] H (.ret (.tup [ePlayer v m.1, n' m.2])) H := by
 refine fn_rule (m := false) (fn := Tryz.f109) (c := (Tryz.f109.body).getD .skip) mixed (by kernel_rfl) (by kernel_rfl) (of_decide_eq_true (by kernel_rfl)) ?_ ?_ ?_ H
 ·simp only [ePlayer, AV.unders, AV.under, n', and_true]
  exact under_states 0 v
 ·simp only [ePlayer, AV.unders, AV.under, n', and_true]
  exact under_states 0 v
 ·refine LoopG.round (m := false) mixed ?_
  refine If.mk (fun _ => ?_) (fun h => absurd (by decide) h)
  refine ifY ?_
  refine Ex.mk _ rfl ?_
  refine CallG.pure (n' m.1) (c_leads hs hm) ?_
  refine Side.mk (by unfold fitsK; kernel_rfl) ?_
  refine LoopG.round (m := false) mixed ?_
  refine If.mk (fun _ => ?_) (fun h => absurd (by decide) h)
  refine ifY ?_
  refine Ex.mk _ rfl ?_
  refine CallG.pure (n' m.2) (c_sounds hs hm) ?_
  refine Side.mk (by unfold fitsK; kernel_rfl) ?_
  refine LoopG.round (m := false) mixed ?_
  refine If.mk (fun h => absurd h (by decide)) (fun _ => ?_)
  refine ifN ?_
  refine PickW.mk [1] ?_
  refine ⟨.inl rfl, FinG.mk _ rfl rfl ?_⟩
  show AV.tup [.agg [AV.freeze _ (eStates v), n' m.1], n' m.2] = _
  rw [freeze_states]; rfl
end Go.Vm

namespace Go.Vm
open Go.Proofs
def VersOk (v : Vers) (k : Nat) : Prop := ∀ s ∈ v, s.length = k ∧ ∀ m ∈ s, 0 ≤ m.1 ∧ m.1 < v.length
def mv (v : Vers) (s c : Nat) : Move := (v.getD s []).getD c (0, 0)
def after (v : Vers) (s : Nat) : List Int → Nat
 | [] => s
 | c :: l => after v (mv v s c.toNat).1.toNat l
def plays (v : Vers) (s : Nat) : List Int → List Int
 | [] => []
 | c :: l => (mv v s c.toNat).2 :: plays v (mv v s c.toNat).1.toNat l
theorem mv_at {v : Vers} {k s c : Nat} (hv : VersOk v k) (hs : s < v.length) (hc : c < k) : ∃ x, v[s]? = some x ∧ x[c]? = some (mv v s c) ∧ (mv v s c).1.toNat < v.length ∧ (((mv v s c).1.toNat : Nat) : Int) = (mv v s c).1 := by
 have e1 : v[s]? = some v[s] := List.getElem?_eq_getElem hs
 obtain ⟨hl, hm⟩ := hv _ (List.getElem_mem hs)
 have hc' : c < (v[s]).length := by omega
 have e2 : (v[s])[c]? = some (v[s])[c] := List.getElem?_eq_getElem hc'
 have e3 : mv v s c = (v[s])[c] := by
  have e4 : v.getD s [] = v[s] := by simp [List.getD, e1]
  unfold mv
  rw [e4]
  simp [List.getD, e2]
 obtain ⟨h1, h2⟩ := hm _ (List.getElem_mem hc')
 refine ⟨_, e1, by rw [e3]; exact e2, ?_, ?_⟩
 ·rw [e3]; omega
 ·rw [e3]; omega
def eInts (l : List Int) : AV := .sl l.length (l.map n') .unk
def eVersion (v : Vers) : AV := .agg [eStates v]
def eVersions (l : List Vers) : AV := .sl l.length (l.map eStates) .unk
structure Book where
 cues : Int
 tunes : Int
 vs : List Vers
def eBook (b : Book) : AV := .agg [n' b.cues, n' b.tunes, eVersions b.vs]
abbrev Evening := List Int × List Int
theorem under_ints (n : Nat) (l : List Int) : AV.unders n (l.map n') := unders_map (fun _ => by simp only [n', AV.under]) l
theorem under_eInts (n : Nat) (l : List Int) : (eInts l).under n := by
 unfold eInts
 simp only [AV.under]
 exact ⟨under_ints n l, trivial⟩
theorem under_eVersion (n : Nat) (v : Vers) : (eVersion v).under n := by
 unfold eVersion
 simp only [AV.under, AV.unders]
 exact ⟨under_states n v, trivial⟩
theorem under_eVersions (n : Nat) (l : List Vers) : (eVersions l).under n := by
 unfold eVersions
 simp only [AV.under]
 exact ⟨unders_map (under_states n) l, trivial⟩
theorem under_eBook (n : Nat) (b : Book) : (eBook b).under n := by
 unfold eBook
 simp only [AV.under, AV.unders, n']
 exact ⟨trivial, trivial, under_eVersions n _, trivial⟩
theorem unders_append {n : Nat} {a b : List AV} (h1 : AV.unders n a) (h2 : AV.unders n b) : AV.unders n (a ++ b) := by
 rw [AV.unders_mem] at *
 intro x hx
 rcases List.mem_append.1 hx with h | h
 ·exact h1 x h
 ·exact h2 x h
theorem freeze_eInts (g : Nat → Option Blk) (l : List Int) : AV.freeze g (eInts l) = eInts l := by
 show AV.sl l.length (AV.freezes g (l.map n')) .unk = _
 rw [freezes_map (fun _ => rfl)]; rfl
end Go.Vm

namespace Go.Vm
open Go.Proofs
theorem ev_box [Outer] {H : List Blk} {ι : Nat → Option (Nat × Nat)} {w : World} {id : Nat} {cells cells' : List AV} {ty : TypeId} (hid : H[id]? = some (.box cells ty)) : Ev ⟨H, ι, w⟩ ⟨H.set id (.box cells' ty), ι, w⟩ := by
 have hlt : id < H.length := (List.getElem?_eq_some_iff.1 hid).1
 have other : ∀ {i : Nat} {B : Blk}, H[i]? = some B → (∀ c t, B ≠ .box c t) → (H.set id (.box cells' ty))[i]? = some B := by
  intro i B hB hne
  rw [List.getElem?_set_ne]
  ·exact hB
  ·rintro rfl
   rw [hid] at hB; cases hB; exact hne _ _ rfl
 refine ⟨fun i hn => ⟨?_, fun b wm h => ⟨wm, h⟩⟩, fun b lim hf => ⟨?_, fun _ _ => rfl⟩, fun i g0 h => ⟨g0, other h (fun _ _ => by simp), Nat.le_refl _, fun _ => ⟨rfl, fun _ _ C t _ h => ⟨C, t, h, rfl⟩⟩⟩,
  fun i g0 c0 h => ⟨_, g0, other h (fun _ _ => by simp), rfl, Nat.le_refl _, fun _ => ⟨⟨c0, rfl⟩, rfl, fun _ _ C t _ h => ⟨C, t, h, rfl⟩⟩⟩, fun _ _ _ => rfl, Rest.refl _, fun _ x => x⟩
 ·obtain ⟨B, hB, hr⟩ := hn
  by_cases hi : id = i
  ·subst hi
   exact ⟨.box cells' ty, by show (H.set id _)[id]? = _; rw [List.getElem?_set_self hlt], rfl⟩
  ·exact ⟨B, by show (H.set id _)[i]? = _; rw [List.getElem?_set_ne hi]; exact hB, hr⟩
 ·obtain ⟨C, t, f, h1, h2, h3, h4⟩ := hf
  refine ⟨C, t, f, h1, h2, fun i wm h => ?_, h4⟩
  obtain ⟨⟨g, hg⟩, hle⟩ := h3 i wm h
  exact ⟨⟨g, other hg (fun _ _ => by simp)⟩, hle⟩
theorem rel_box [Outer] {H : List Blk} {ι : Nat → Option (Nat × Nat)} {w : World} {id : Nat} {cells cells' : List AV} {ty : TypeId} (hR : Rel ⟨H, ι, w⟩) (hid : H[id]? = some (.box cells ty)) (hw : ∀ cs, VRels ⟨H, ι, w⟩ cells cs → VRels ⟨H, ι, w⟩ cells' cs) :
  Rel ⟨H.set id (.box cells' ty), ι, w⟩ := by
 have hev := ev_box (ι := ι) (w := w) (cells' := cells') hid
 have hlt : id < H.length := (List.getElem?_eq_some_iff.1 hid).1
 refine ⟨fun i b wm h => ?_, hR.inj, hR.out⟩
 obtain ⟨B, hB, hrel⟩ := hR.blk i b wm h
 by_cases hi : id = i
 ·subst hi
  have hB' : H[id]? = some B := hB
  rw [hid] at hB'; cases hB'
  obtain ⟨C, h1, h2⟩ := hrel
  exact ⟨.box cells' ty, by show (H.set id _)[id]? = _; rw [List.getElem?_set_self hlt], C, h1, (hw _ h2).ev hev⟩
 ·exact ⟨B, by show (H.set id _)[i]? = _; rw [List.getElem?_set_ne hi]; exact hB, hrel.ev hev rfl⟩
theorem InL.box {P : Program} {ro : Option Nat} {c : Code} {k : Nat} {V : Trie AV} {H : List Blk} {d : List Nat} {x : AExit} {σ' : St} {id : Nat} {cells cells' : List AV} {ty : TypeId} (hid : H[id]? = some (.box cells ty))
  (hw : ∀ (_ : Outer) ι w cs, VRels ⟨H, ι, w⟩ cells cs → VRels ⟨H, ι, w⟩ cells' cs) (h : InL P ro c ⟨k, V, H.set id (.box cells' ty), d⟩ x σ') : InL P ro c ⟨k, V, H, d⟩ x σ' := by
 intro O ι a w cro hro hs b kk cs hbro hb hr
 have hev : Ev ⟨H, ι, w⟩ ⟨H.set id (.box cells' ty), ι, w⟩ := ev_box hid
 have hR : Rel ⟨H.set id (.box cells' ty), ι, w⟩ := rel_box hs.rel hid (hw O ι w)
 have hnon : Non ⟨H, ι, w⟩ ⟨H.set id (.box cells' ty), ι, w⟩ := fun _ _ h => h
 obtain ⟨e', a', w', hp, harr⟩ := h O ι a w cro (hro.ev hev) ⟨hR, hs.size, hs.vars.ev hev, hs.defs.ev hev (Keep.set (B := .box cells' ty) hid (by simp)).marks⟩ b kk cs hbro hb hr
 exact ⟨e', a', w', Post.trans hev hnon _ _ _ hp, harr⟩
def Weaks' (t : Trie Blk) (cells cells' : List AV) : Prop := ∀ n H, HT t n H → ∀ (_ : Outer) ι w cs, VRels ⟨H, ι, w⟩ cells cs → VRels ⟨H, ι, w⟩ cells' cs
theorem Weaks'.nil (t : Trie Blk) : Weaks' t [] [] := fun _ _ _ _ _ _ _ h => h
theorem Weaks'.cons {t : Trie Blk} {a b : AV} {l l' : List AV} (h : Weak t a b) (hl : Weaks' t l l') : Weaks' t (a :: l) (b :: l') := fun n H hH O ι w cs x => by
 cases cs with
 | nil => simp [VRels] at x
 | cons c cs =>
  simp only [VRels] at x ⊢
  exact ⟨h n H hH O ι w c x.1, hl n H hH O ι w cs x.2⟩
theorem LoopG.box {P : Program} {ro : Option Nat} {c : Code} {k : Nat} {vars : Trie AV} {t : Trie Blk} {n : Nat} {d : List Nat} {lo : Nat} {Q : CodeQ} (id : Nat) {cells : List AV} (cells' : List AV) {ty : TypeId} (lo' : Nat) (hlo : lo' ≤ lo) (hlo2 : lo' ≤ id) (hg : get t id = some (.box cells ty)) (hw : Weaks' t cells cells')
  (h : LoopG P ro c k vars (set t id (.box cells' ty)) n d lo' Q) : LoopG P ro c k vars t n d lo Q := by
 obtain ⟨h⟩ := h
 refine ⟨fun H H0 hH hk => ?_⟩
 have hid := hH.blk _ _ hg
 obtain ⟨x, e, l2, H', h1, h2, h3, h4⟩ := h (H.set id (.box cells' ty)) H0 (hH.set (hH.lt hg) _) (hk.trans (Keep.set (B := .box cells' ty) hid (by simp)) hlo hlo2)
 exact ⟨x, e, l2, H', h1, h2, h3.box hid (fun O ι w => hw n H hH O ι w), h4⟩
theorem InL.weak_end {P : Program} {ro : Option Nat} {c : Code} {k : Nat} {V1 V2 : Trie AV} {σ : St} {H : List Blk} {d : List Nat} {x : AExit} (h : InL P ro c σ x ⟨k, V1, H, d⟩) (hv : ∀ s v, get V2 s = some v → ∃ v1, get V1 s = some v1 ∧ WeakH H v1 v) : InL P ro c σ x ⟨k, V2, H, d⟩ := by
 intro O ι a w cro hro hs b kk cs hbro hb hr
 obtain ⟨e', a', w', ⟨ι', hx, hs', hev, hnon⟩, harr⟩ := h O ι a w cro hro hs b kk cs hbro hb hr
 refine ⟨e', a', w', ⟨ι', ?_, ⟨hs'.rel, hs'.size, fun s v hg => ?_, hs'.defs⟩, hev, hnon⟩, harr⟩
 ·exact hx
 ·obtain ⟨v1, hg1, hw⟩ := hv s v hg
  obtain ⟨c, hc, hr⟩ := hs'.vars s v1 hg1
  exact ⟨c, hc, hw O ι' w' c hr⟩
def SlotsW (g : Nat → Option AV) (t : Trie Blk) : List (Nat × AV) → Prop
 | [] => True
 | p :: l => (∃ v, g p.1 = some v ∧ Weak t v p.2) ∧ SlotsW g t l
theorem SlotsW.mem {g : Nat → Option AV} {t : Trie Blk} : ∀ {l : List (Nat × AV)}, SlotsW g t l → ∀ p ∈ l, ∃ v, g p.1 = some v ∧ Weak t v p.2
 | [], _, _, h => by cases h
 | q :: l, hs, p, h => by
  rcases List.mem_cons.1 h with rfl | h
  ·exact hs.1
  ·exact SlotsW.mem hs.2 p h
theorem LoopG.after {P : Program} {ro : Option Nat} {c : Code} {k : Nat} {vars : Trie AV} {t : Trie Blk} {n : Nat} {d : List Nat} {lo : Nat} {Q : CodeQ}
  (h : LoopG P ro c k vars t n d lo fun x e lo' => Q x e lo' ∨ ∃ S', SlotsW (get e.vars) e.t S' ∧ Q x ⟨ofL S', e.t, e.n, e.defs⟩ lo') : LoopG P ro c k vars t n d lo Q := by
 obtain ⟨h⟩ := h
 refine ⟨fun H H0 hH hk => ?_⟩
 obtain ⟨x, e, lo', H', h1, h2, h3, h4⟩ := h H H0 hH hk
 rcases h4 with h4 | ⟨S', h5, h6⟩
 ·exact ⟨x, e, lo', H', h1, h2, h3, h4⟩
 ·refine ⟨x, ⟨ofL S', e.t, e.n, e.defs⟩, lo', H', h1, h2, h3.weak_end (fun s v hg => ?_), h6⟩
  obtain ⟨v1, g1, g2⟩ := h5.mem _ (get_ofL hg)
  exact ⟨v1, g1, g2 _ _ h1⟩
end Go.Vm

namespace Go.Vm
open Go.Proofs
mutual
def AV.flat : AV → Bool
 | .lit _ => true
 | .agg cells => AV.flats cells
 | .tup vs => AV.flats vs
 | .iface _ v => AV.flat v
 | _ => false
def AV.flats : List AV → Bool
 | [] => true
 | a :: xs => AV.flat a && AV.flats xs
end
mutual
theorem VRel.flat [Outer] {S S' : Sit} : ∀ (a : AV) (c : Value), a.flat = true → VRel S a c → VRel S' a c
 | .lit v, c, _, x => by simpa [VRel] using x
 | .agg cells, c, h, x => by
  simp only [VRel] at x ⊢
  obtain ⟨C, hc, hr⟩ := x
  exact ⟨C, hc, VRels.flat cells _ h hr⟩
 | .tup vs, c, h, x => by
  simp only [VRel] at x ⊢
  obtain ⟨C, hc, hr⟩ := x
  exact ⟨C, hc, VRels.flat vs _ h hr⟩
 | .iface t v, c, h, x => by
  simp only [VRel] at x ⊢
  obtain ⟨y, hc, hr⟩ := x
  exact ⟨y, hc, VRel.flat v y h hr⟩
 | .ptr .., _, h, _ => by cases h
 | .eptr _, _, h, _ => by cases h
 | .sl .., _, h, _ => by cases h
 | .hsl .., _, h, _ => by cases h
 | .mp _, _, h, _ => by cases h
 | .fn .., _, h, _ => by cases h
 | .yld _, _, h, _ => by cases h
 | .msl .., _, h, _ => by cases h
 | .mptr .., _, h, _ => by cases h
 | .mpx, _, h, _ => by cases h
theorem VRels.flat [Outer] {S S' : Sit} : ∀ (xs : List AV) (cs : List Value), AV.flats xs = true → VRels S xs cs → VRels S' xs cs
 | [], [], _, x => by simp [VRels]
 | [], _ :: _, _, x => by simp [VRels] at x
 | _ :: _, [], _, x => by simp [VRels] at x
 | a :: xs, c :: cs, h, x => by
  simp only [VRels] at x ⊢
  have h' : (AV.flat a && AV.flats xs) = true := h
  rw [Bool.and_eq_true] at h'
  exact ⟨VRel.flat a c h'.1 x.1, VRels.flat xs cs h'.2 x.2⟩
end
mutual
theorem AV.flat_under (n : Nat) : ∀ a : AV, a.flat = true → a.under n
 | .lit v, _ => by simp only [AV.under]
 | .agg cells, h => by simp only [AV.under]; exact AV.flats_under n cells h
 | .tup vs, h => by simp only [AV.under]; exact AV.flats_under n vs h
 | .iface t v, h => by simp only [AV.under]; exact AV.flat_under n v h
 | .ptr .., h => by cases h
 | .eptr _, h => by cases h
 | .sl .., h => by cases h
 | .hsl .., h => by cases h
 | .mp _, h => by cases h
 | .fn .., h => by cases h
 | .yld _, h => by cases h
 | .msl .., h => by cases h
 | .mptr .., h => by cases h
 | .mpx, h => by cases h
theorem AV.flats_under (n : Nat) : ∀ xs : List AV, AV.flats xs = true → AV.unders n xs
 | [], _ => by simp only [AV.unders]
 | a :: xs, h => by
  have h' : (AV.flat a && AV.flats xs) = true := h
  rw [Bool.and_eq_true] at h'
  simp only [AV.unders]
  exact ⟨AV.flat_under n a h'.1, AV.flats_under n xs h'.2⟩
end
theorem ACall.back {P : Program} {f : FuncId} {args : List AV} {H H' : List Blk} {v : AV} {lo : Nat} (h : ACall P f args H (.ret v) H') (hk : Keep H H' lo) (hlo : H.length ≤ lo) (hv : v.flat = true) : ACall P f args H (.ret v) H := by
 intro O ι w cs hR hargs
 have e : H'.take H.length = H := by
  refine List.ext_getElem? fun i => ?_
  by_cases hi : i < H.length
  ·rw [List.getElem?_take_of_lt hi]; exact hk.low i (by omega) hi
  ·rw [List.getElem?_eq_none (by rw [List.length_take]; omega), List.getElem?_eq_none (by omega)]
 refine (h O ι w cs hR hargs).mono ?_
 rintro e' w' ⟨ι', hend, hR', hev, hnon⟩
 cases e' with
 | panicked chain => exact hend.elim
 | outgrown => exact hend.elim
 | returned c =>
  have h1 := Rel.back hR hR' hev hnon (fun id hlt => .inl (hk.low id (Nat.lt_of_lt_of_le hlt hlo) hlt))
  have h2 := hev.cut (S := ⟨H, ι, w⟩)
  have h3 := hnon.cut (S := ⟨H, ι, w⟩)
  simp only [e] at h1 h2 h3
  exact ⟨cutι ι' H.length, VRel.flat v c hv hend, h1, h2, h3⟩
inductive FinF (P : Program) (rs : List ResultVar) (e : ES) (v : AV) : Prop
 | mk (vs : List AV) (h : resT P (get e.t) e.vars rs = some vs) (hd : e.defs = []) (hv : resV vs = v)
theorem FinF.bool {P : Program} {rs : List ResultVar} {e : ES} {p : Prop} [Decidable p] {b : Bool} (h : resT P (get e.t) e.vars rs = some [.lit (.bool b)]) (hd : e.defs = []) (hb : p ↔ b = true) : FinF P rs e (.lit (.bool (decide p))) := by
 refine ⟨_, h, hd, ?_⟩
 show AV.lit (.bool b) = _
 cases b with
 | true => rw [decide_eq_true (hb.2 rfl)]
 | false => rw [decide_eq_false (fun x => by cases hb.1 x)]
theorem fn_at {P : Program} {m : Bool} {f : FuncId} {fn : Func} {c : Code} {args : List AV} {v : AV} {t0 : Trie Blk} {n0 : Nat} (hm : P.follows .mixedOrders = true) (hf : P.funcs[f]? = some fn) (hb : fn.body = some c) (hn : args.length ≤ fn.ntmps)
  (hv : v.flat = true)
  (h : gCode P m fn.ntmps none c (initVars 0 args) t0 n0 [] noLo fun x e lo => (x = .ret ∨ x = .normal) ∧ n0 ≤ lo ∧ FinF P fn.results.toList e v) (H : List Blk) (hH : HT t0 n0 H) : ACall P f args H (.ret v) H := by
 obtain ⟨x, e, lo, H', hH', hk', hrun, hx, hlo, vs, hres, hd, hfr⟩ := gCode_spec hm c _ _ _ _ _ _ h H H hH (Keep.refl _ _)
 have hcr : ACall P f args H (.ret (resV vs)) H' := by
  rw [hd] at hrun
  exact ACall.intro_marks hf hb hn hrun hx List.nodup_nil (resT_sound hH' hres)
 subst hfr
 exact hcr.back hk' (by rw [hH.len]; exact hlo) hv
theorem fn_pre {P : Program} {m : Bool} {f : FuncId} {fn : Func} {c : Code} {args : List AV} {v : AV} {t0 : Trie Blk} {Hp : List Blk} {n0 : Nat} (hm : P.follows .mixedOrders = true) (hf : P.funcs[f]? = some fn) (hb : fn.body = some c) (hn : args.length ≤ fn.ntmps)
  (hH : HT t0 n0 Hp) (ha : AV.unders n0 args) (hp : ∀ B ∈ Hp, B.under n0) (hv : v.flat = true)
  (h : gCode P m fn.ntmps none c (initVars 0 args) t0 n0 [] noLo fun x e lo => (x = .ret ∨ x = .normal) ∧ n0 ≤ lo ∧ FinF P fn.results.toList e v) (H2 : List Blk) : ACall P f args (Hp ++ H2) (.ret v) (Hp ++ H2) := by
 have e := hH.len
 subst e
 exact (fn_at hm hf hb hn hv h Hp hH).frame rfl ha (AV.flat_under _ v hv) hp hp H2
theorem HT.sub {t : Trie Blk} {n : Nat} {H : List Blk} {L0 : List (Nat × Blk)} (hH : HT t n H) (h : Blks (get t) n L0) : HT (ofL L0) n H :=
 ⟨hH.len, fun _ _ hg => hH.blk _ _ (h.mem _ (get_ofL hg)).1⟩
theorem CallG.at {P : Program} {f : FuncId} {args : List AV} {t : Trie Blk} {n : Nat} {K Kp : AV → Trie Blk → Nat → Nat → Prop} (v : AV) (h : ∀ H, HT t n H → ACall P f args H (.ret v) H) (k : K v t n noLo) : CallG P f args t n K Kp :=
 .ret fun H hH => ⟨v, t, n, noLo, H, hH, h H hH, Keep.refl _ _, k⟩
theorem CallG.atB {P : Program} {f : FuncId} {args : List AV} {t : Trie Blk} {n : Nat} {K Kp : AV → Trie Blk → Nat → Nat → Prop} {p : Prop} [Decidable p] (h : ∀ H, HT t n H → ACall P f args H (.ret (.lit (.bool (decide p)))) H)
  (k1 : p → K (.lit (.bool true)) t n noLo) (k2 : ¬ p → K (.lit (.bool false)) t n noLo) : CallG P f args t n K Kp := by
 by_cases hp : p
 ·rw [decide_eq_true hp] at h; exact .at _ h (k1 hp)
 ·rw [decide_eq_false hp] at h; exact .at _ h (k2 hp)
mutual
theorem AV.under_mono {n n' : Nat} (hn : n ≤ n') : ∀ a : AV, a.under n → a.under n'
 | .lit v, _ => by simp only [AV.under]
 | .agg cells, h => by simp only [AV.under] at h ⊢; exact AV.unders_mono hn cells h
 | .tup vs, h => by simp only [AV.under] at h ⊢; exact AV.unders_mono hn vs h
 | .iface t v, h => by simp only [AV.under] at h ⊢; exact AV.under_mono hn v h
 | .ptr .., h => by simp only [AV.under] at h ⊢; omega
 | .eptr cells, h => by simp only [AV.under] at h ⊢; exact AV.unders_mono hn cells h
 | .sl _ cells tl, h => by
  simp only [AV.under] at h ⊢
  refine ⟨AV.unders_mono hn cells h.1, ?_⟩
  cases tl with
  | own id _ _ => exact Nat.lt_of_lt_of_le h.2 hn
  | _ => trivial
 | .hsl .., h => by simp only [AV.under] at h ⊢; omega
 | .mp _, h => by simp only [AV.under] at h ⊢; omega
 | .fn _ a b, h => by simp only [AV.under] at h ⊢; exact ⟨AV.unders_mono hn a h.1, AV.unders_mono hn b h.2⟩
 | .yld _, h => by simp only [AV.under] at h ⊢; omega
 | .msl .., h => by simp only [AV.under] at h ⊢; omega
 | .mptr .., h => by simp only [AV.under] at h ⊢; omega
 | .mpx, _ => by simp only [AV.under]
theorem AV.unders_mono {n n' : Nat} (hn : n ≤ n') : ∀ xs : List AV, AV.unders n xs → AV.unders n' xs
 | [], _ => by simp only [AV.unders]
 | a :: xs, h => by
  simp only [AV.unders] at h ⊢
  exact ⟨AV.under_mono hn a h.1, AV.unders_mono hn xs h.2⟩
end
theorem bif_mk {b : Bool} {X Y : Prop} (h : b = true) (k : X) : bif b then X else Y := by rw [h]; exact k
theorem Blks.mono {g : Nat → Option Blk} {n n' : Nat} (hn : n ≤ n') : ∀ {l : List (Nat × Blk)}, Blks g n l → Blks g n' l
 | [], _ => trivial
 | _ :: _, h => ⟨⟨h.1.1, Nat.lt_of_lt_of_le h.1.2 hn⟩, Blks.mono hn h.2⟩
theorem HT.first {t : Trie Blk} {n : Nat} {H : List Blk} {B : Blk} (hH : HT t n H) (h : get t 0 = some B) : ∃ H2, H = [B] ++ H2 := by
 have h0 := hH.blk _ _ h
 cases H with
 | nil => simp at h0
 | cons a H2 => simp at h0; subst h0; exact ⟨H2, rfl⟩
theorem HT.first2 {t : Trie Blk} {n : Nat} {H : List Blk} {B B' : Blk} (hH : HT t n H) (h : get t 0 = some B) (h' : get t 1 = some B') : ∃ H2, H = [B, B'] ++ H2 := by
 have h0 := hH.blk _ _ h
 have h1 := hH.blk _ _ h'
 match H, h0, h1 with
 | [], h0, _ => simp at h0
 | [_], _, h1 => simp at h1
 | a :: a' :: H2, h0, h1 => simp at h0 h1; subst h0 h1; exact ⟨H2, rfl⟩
end Go.Vm

namespace Go.Vm
open Go.Proofs
theorem c_in (a b c : Int) (H : List Blk) : ACall Tryz.prog 103 [n' a, n' b, n' c] H (.ret (.lit (.bool (decide (b ≤ a ∧ a ≤ c))))) H := by
 refine fn_rule (m := false) (fn := Tryz.f103) (c := (Tryz.f103.body).getD .skip) mixed (by kernel_rfl) (by kernel_rfl) (of_decide_eq_true (by kernel_rfl)) ?_ ?_ ?_ H
 ·simp [n', AV.unders, AV.under]
 ·simp [AV.under]
 ·refine If.mk (fun h => ?_) (fun h => ?_)
  ·refine If.mk (fun h2 => ?_) (fun h2 => ?_)
   ·refine ⟨.inl rfl, FinG.mk _ rfl rfl ?_⟩
    rw [decide_eq_true (And.intro h h2)]; rfl
   ·refine ⟨.inl rfl, FinG.mk _ rfl rfl ?_⟩
    rw [decide_eq_false (fun e => h2 e.2)]; rfl
  ·refine ⟨.inl rfl, FinG.mk _ rfl rfl ?_⟩
   rw [decide_eq_false (fun e => h e.1)]; rfl
end Go.Vm

namespace Go.Vm
open Go.Proofs
noncomputable def setL (t : Trie Blk) (l : List (Nat × Blk)) : Trie Blk := List.rec t (fun p _ ih => set ih p.1 p.2) l
theorem get_setL {t : Trie Blk} : ∀ {l : List (Nat × Blk)} {s : Nat} {v : Blk}, get (setL t l) s = some v → (s, v) ∈ l ∨ get t s = some v
 | [], _, _, h => .inr h
 | p :: l, s, v, h => by
  have h' : get (set (setL t l) p.1 p.2) s = some v := h
  by_cases e : p.1 = s
  ·subst e
   rw [get_set_same] at h'; cases h'; exact .inl List.mem_cons_self
  ·rw [get_set_other _ _ _ _ e] at h'
   rcases get_setL h' with h | h
   ·exact .inl (List.mem_cons_of_mem _ h)
   ·exact .inr h
theorem fn_new {P : Program} {m : Bool} {f : FuncId} {fn : Func} {c : Code} {args : List AV} {v : AV} {n0 n1 : Nat} {L1 : List (Nat × Blk)} (hm : P.follows .mixedOrders = true) (hf : P.funcs[f]? = some fn) (hb : fn.body = some c) (hn : args.length ≤ fn.ntmps)
  (h : gCode P m fn.ntmps none c (initVars 0 args) .nil n0 [] noLo fun x e lo => (x = .ret ∨ x = .normal) ∧ n0 ≤ lo ∧ e.n = n1 ∧ Blks (get e.t) n1 L1 ∧ FinF P fn.results.toList e v) {t : Trie Blk} (H : List Blk) (hH : HT t n0 H) :
  ∃ H', HT (setL t L1) n1 H' ∧ ACall P f args H (.ret v) H' ∧ Keep H H' noLo := by
 have hH0 : HT .nil n0 H := ⟨hH.len, fun id B hg => by rw [get_nil] at hg; cases hg⟩
 obtain ⟨x, e, lo, H', hH', hk', hrun, hx, hlo, hn1, hB, vs, hres, hd, hfr⟩ := gCode_spec hm c _ _ _ _ _ _ h H H hH0 (Keep.refl _ _)
 have hcr : ACall P f args H (.ret (resV vs)) H' := by
  rw [hd] at hrun
  exact ACall.intro_marks hf hb hn hrun hx List.nodup_nil (resT_sound hH' hres)
 subst hfr
 refine ⟨H', ⟨by rw [hH'.len]; exact hn1, fun j B' hg => ?_⟩, hcr, ⟨hk'.le, fun j _ hlt => hk'.low j (by have := hH.len; omega) hlt, hk'.marks⟩⟩
 rcases get_setL hg with h1 | h1
 ·exact hH'.blk _ _ (hB.mem _ h1).1
 ·have h2 := hH.blk _ _ h1
  have hlt := (List.getElem?_eq_some_iff.1 h2).1
  rw [hk'.low j (by have := hH.len; omega) hlt]
  exact h2
theorem CallG.new {P : Program} {f : FuncId} {args : List AV} {t : Trie Blk} {n n1 : Nat} {L1 : List (Nat × Blk)} {K Kp : AV → Trie Blk → Nat → Nat → Prop} (v : AV) (h : ∀ H, HT t n H → ∃ H', HT (setL t L1) n1 H' ∧ ACall P f args H (.ret v) H' ∧ Keep H H' noLo)
  (k : K v (setL t L1) n1 noLo) : CallG P f args t n K Kp :=
 .ret fun H hH => by
  obtain ⟨H', h1, h2, h3⟩ := h H hH
  exact ⟨v, setL t L1, n1, noLo, H', h1, h2, h3, k⟩
theorem CallG.inline {P : Program} {m : Bool} {f : FuncId} {fn : Func} {c : Code} {args : List AV} {t : Trie Blk} {n : Nat} {K Kp : AV → Trie Blk → Nat → Nat → Prop} (hm : P.follows .mixedOrders = true) (hf : P.funcs[f]? = some fn) (hb : fn.body = some c) (hn : args.length ≤ fn.ntmps)
  (h : gCode P m fn.ntmps none c (initVars 0 args) t n [] noLo fun x e lo => (x = .ret ∨ x = .normal) ∧ ∃ vs, resT P (get e.t) e.vars fn.results.toList = some vs ∧ e.defs = [] ∧ K (resV vs) e.t e.n lo) : CallG P f args t n K Kp := by
 refine .ret fun H hH => ?_
 obtain ⟨x, e, lo, H', hH', hk', hrun, hx, vs, hres, hd, hK⟩ := gCode_spec hm c _ _ _ _ _ _ h H H hH (Keep.refl _ _)
 rw [hd] at hrun
 exact ⟨resV vs, e.t, e.n, lo, H', hH', ACall.intro_marks hf hb hn hrun hx List.nodup_nil (resT_sound hH' hres), hk', hK⟩
end Go.Vm

namespace Go.Vm
open Go.Proofs
def nb (b : Bool) : AV := .lit (.bool b)
end Go.Vm
