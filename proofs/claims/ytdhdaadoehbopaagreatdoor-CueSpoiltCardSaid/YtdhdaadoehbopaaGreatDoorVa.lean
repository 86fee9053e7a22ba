/-
  The abstract machine over the model's calculus, on which this claim rests; no statement of the program is proved here. Conditions: none. (Values, operations.)
-/
import Derived.CallsIn
import Derived.Laws.Sem
import Derived.Laws.Entries
import Derived.Laws.StructEq
import Derived.Laws.BytesString
import Derived.Maps.Keyed
import Derived.WideKeyArr
import Derived.IntWalk

namespace Go.Vm
theorem map_some {α β : Type} {x : Option α} {f : α → β} {r : β} (h : x.map f = some r) : ∃ a, x = some a ∧ f a = r := by
 cases x with
 | none => simp at h
 | some a => simp at h; exact ⟨a, rfl, h⟩
theorem bind_some {α β : Type} {x : Option α} {f : α → Option β} {r : β} (h : x.bind f = some r) : ∃ a, x = some a ∧ f a = some r := by
 cases x with
 | none => simp at h
 | some a => simp at h; exact ⟨a, rfl, h⟩
inductive Tail where
 | unk
 | full
 | own (id gen sz : Nat)
inductive AV where
 | lit (v : Value)
 | agg (cells : List AV)
 | tup (vs : List AV)
 | ptr (id off : Nat)
 | eptr (cells : List AV)
 | sl (len : Nat) (cells : List AV) (tail : Tail)
 | hsl (id off len cap : Nat)
 | mp (id : Nat)
 | fn (f : Fn) (first captured : List AV)
 | yld (id : Nat)
 | iface (t : TypeId) (v : AV)
 | msl (id gen len sz : Nat)
 | mptr (id gen off : Nat)
 | mpx
 deriving Inhabited
inductive Trie (α : Type) where
 | nil
 | node (v : Option α) (l r : Trie α)
structure ALoop where
 state : LoopState
 pending : Option Code
 n : Nat
 vars : Trie AV
 params : Array Tmp
 assign : Code
 body : Code
 defers : Nat
inductive KeyShape where
 | int
 | arr (n : Nat)
inductive Blk where
 | box (cells : List AV) (t : TypeId)
 | row (gen : Nat)
 | mrow (gen : Nat) (cells : List AV)
 | map (sh : KeyShape) (es : List (Value × AV))
 | loop (l : ALoop)
 | defd
 | iterS (s : ByteArray) (pos : Nat)
 | spent
 | obj (o : Obj)
def Blk.isRow : Blk → Bool
 | .row _ => true
 | .mrow _ _ => true
 | _ => false
def Blk.mgen : Blk → Option Nat
 | .row g => some g
 | .mrow g _ => some g
 | _ => none
structure Sit where
 H : List Blk
 ι : Nat → Option (Nat × Nat)
 w : World
class Outer where
 out : Nat → Option (Option Nat)
instance (priority := low) : Outer := ⟨fun _ => none⟩
section
variable [Outer]
def Fix (S : Sit) (b lim : Nat) : Prop :=
 ∃ C t f, S.w.heap[b]? = some (.cells C t f) ∧ lim ≤ C.size ∧
  (∀ id wm, S.ι id = some (b, wm) → (∃ g, S.H[id]? = some (.row g)) ∧ lim ≤ wm) ∧ ∀ x, Outer.out b = some x → ∃ l, x = some l ∧ lim ≤ l
def TailRel (S : Sit) (tail : Tail) (base : Option Addr) (len cap n : Nat) : Prop :=
  match tail with
  | .unk => True
  | .full => cap = len
  | .own id g sz => n = len * sz ∧ ∃ g0, S.H[id]? = some (.row g0) ∧ g ≤ g0 ∧
      (g = g0 → cap = len ∨
        ∃ b o C t, base = some ⟨b, o, none⟩ ∧ S.ι id = some (b, o + n) ∧ S.w.heap[b]? = some (.cells C t (0, 0)) ∧ o + cap * sz ≤ C.size)
def MRef (S : Sit) (id gen : Nat) (K : Nat → Nat → Prop) : Prop :=
 ∃ B g, S.H[id]? = some B ∧ B.mgen = some g ∧ gen ≤ g ∧ (g = gen → (∃ c1, B = .mrow gen c1) → ∃ b wm C t, S.ι id = some (b, wm) ∧ S.w.heap[b]? = some (.cells C t (0, 0)) ∧ K b C.size)
def notRow (H : List Blk) (id : Nat) : Prop := ∃ B, H[id]? = some B ∧ B.isRow = false
mutual
def VRel (S : Sit) : AV → Value → Prop
  | .lit v, c => c = v
  | .agg cells, c => ∃ C : Array Value, c = .agg C ∧ VRels S cells C.toList
  | .tup vs, c => ∃ C : Array Value, c = .tuple C ∧ VRels S vs C.toList
  | .ptr id off, c => ∃ b wm, S.ι id = some (b, wm) ∧ notRow S.H id ∧ c = .pointer (some ⟨b, off, none⟩)
  | .eptr cells, c => ∃ b o, c = .pointer (some ⟨b, o, none⟩) ∧ Fix S b (o + cells.length) ∧ VRow S b o cells
  | .sl len cells tail, c => ∃ base cap, c = .slice base len cap ∧ len ≤ cap ∧
      (cells = [] ∨ ∃ b o, base = some ⟨b, o, none⟩ ∧ Fix S b (o + cells.length) ∧ VRow S b o cells) ∧
      TailRel S tail base len cap cells.length
  | .hsl id off len cap, c => ∃ b wm, S.ι id = some (b, wm) ∧ notRow S.H id ∧ c = .slice (some ⟨b, off, none⟩) len cap
  | .mp id, c => ∃ b wm, S.ι id = some (b, wm) ∧ notRow S.H id ∧ c = .map (some b)
  | .fn f first captured, c => ∃ F C : Array Value, c = .func f F C ∧ VRels S first F.toList ∧ VRels S captured C.toList
  | .yld id, c => ∃ b wm, S.ι id = some (b, wm) ∧ notRow S.H id ∧ c = .func (.yield b) #[] #[]
  | .iface t v, c => ∃ x, c = .iface t x ∧ VRel S v x
  | .msl id gen len sz, c => ∃ b cap, c = .slice (some ⟨b, 0, none⟩) len cap ∧ len ≤ cap ∧ MRef S id gen (fun b' n => b' = b ∧ cap * sz ≤ n)
  | .mptr id gen off, c => ∃ b o, c = .pointer (some ⟨b, o, none⟩) ∧ MRef S id gen (fun b' _ => b' = b ∧ o = off)
  | .mpx, c => ∃ b, c = .map b
def VRels (S : Sit) : List AV → List Value → Prop
 | [], [] => True
 | a :: as, c :: cs => VRel S a c ∧ VRels S as cs
 | _, _ => False
def VRow (S : Sit) (b : Nat) : Nat → List AV → Prop
 | _, [] => True
 | o, a :: as => (∃ c, S.w.cell? ⟨b, o, none⟩ = some c ∧ VRel S a c) ∧ VRow S b (o + 1) as
end
def Rest (w w' : World) : Prop := w'.os = w.os ∧ w'.output = w.output
omit [Outer] in
theorem Rest.refl (w : World) : Rest w w := ⟨rfl, rfl⟩
omit [Outer] in
theorem Rest.trans {w w' w'' : World} (h : Rest w w') (h' : Rest w' w'') : Rest w w'' := ⟨h'.1.trans h.1, h'.2.trans h.2⟩
structure Ev (S S' : Sit) : Prop where
 ptr : ∀ id, notRow S.H id → notRow S'.H id ∧ ∀ b wm, S.ι id = some (b, wm) → ∃ wm', S'.ι id = some (b, wm')
 fix : ∀ b lim, Fix S b lim → Fix S' b lim ∧ ∀ j, j < lim → S'.w.cell? ⟨b, j, none⟩ = S.w.cell? ⟨b, j, none⟩
 tok : ∀ id g0, S.H[id]? = some (.row g0) → ∃ g1, S'.H[id]? = some (.row g1) ∧ g0 ≤ g1 ∧
  (g1 = g0 → S'.ι id = S.ι id ∧ ∀ b wm C t, S.ι id = some (b, wm) → S.w.heap[b]? = some (.cells C t (0, 0)) →
   ∃ C' t', S'.w.heap[b]? = some (.cells C' t' (0, 0)) ∧ C'.size = C.size)
 mtok : ∀ id g0 c0, S.H[id]? = some (.mrow g0 c0) → ∃ B g1, S'.H[id]? = some B ∧ B.mgen = some g1 ∧ g0 ≤ g1 ∧
  (g1 = g0 → (∃ c1, B = .mrow g0 c1) ∧ S'.ι id = S.ι id ∧ ∀ b wm C t, S.ι id = some (b, wm) → S.w.heap[b]? = some (.cells C t (0, 0)) →
   ∃ C' t', S'.w.heap[b]? = some (.cells C' t' (0, 0)) ∧ C'.size = C.size)
 out : ∀ b x, Outer.out b = some x → S'.w.heap[b]? = S.w.heap[b]?
 rest : Rest S.w S'.w
def Non (S S' : Sit) : Prop := ∀ id, notRow S.H id → S.ι id = none → S'.ι id = none
theorem Ev.refl (S : Sit) : Ev S S where
 ptr := fun _ h => ⟨h, fun _ wm e => ⟨wm, e⟩⟩
 fix := fun _ _ h => ⟨h, fun _ _ => rfl⟩
 tok := fun _ g0 h => ⟨g0, h, Nat.le_refl _, fun _ => ⟨rfl, fun _ _ C t _ h => ⟨C, t, h, rfl⟩⟩⟩
 mtok := fun _ g0 c0 h => ⟨_, g0, h, rfl, Nat.le_refl _, fun _ => ⟨⟨c0, rfl⟩, rfl, fun _ _ C t _ h => ⟨C, t, h, rfl⟩⟩⟩
 out := fun _ _ _ => rfl
 rest := Rest.refl _
theorem Ev.trans {S S' S'' : Sit} (h : Ev S S') (h' : Ev S' S'') : Ev S S'' where
 ptr := fun id hn => by
  obtain ⟨a, e⟩ := h.ptr id hn
  obtain ⟨a', e'⟩ := h'.ptr id a
  refine ⟨a', fun b wm x => ?_⟩
  obtain ⟨wm', y⟩ := e b wm x
  exact e' b wm' y
 fix := fun b lim x => by
  obtain ⟨a, e⟩ := h.fix b lim x
  obtain ⟨a', e'⟩ := h'.fix b lim a
  exact ⟨a', fun j hj => (e' j hj).trans (e j hj)⟩
 tok := fun id g0 x => by
  obtain ⟨g1, a, hle, e⟩ := h.tok id g0 x
  obtain ⟨g2, a', hle', e'⟩ := h'.tok id g1 a
  refine ⟨g2, a', Nat.le_trans hle hle', fun hg => ?_⟩
  obtain rfl : g1 = g0 := by omega
  obtain ⟨e1, k1⟩ := e rfl
  obtain ⟨e2, k2⟩ := e' (by omega)
  refine ⟨e2.trans e1, fun b wm C t hi hC => ?_⟩
  obtain ⟨C', t', hC', hs⟩ := k1 b wm C t hi hC
  obtain ⟨C'', t'', hC'', hs'⟩ := k2 b wm C' t' (e1.trans hi) hC'
  exact ⟨C'', t'', hC'', hs'.trans hs⟩
 mtok := fun id g0 c0 x => by
  obtain ⟨B, g1, a, hm, hle, e⟩ := h.mtok id g0 c0 x
  cases B <;> simp only [Blk.mgen, reduceCtorEq, Option.some.injEq] at hm
  ·subst hm
   rename_i gr
   have hlt : g0 < gr := by
    rcases Nat.lt_or_ge g0 gr with h | h
    ·exact h
    ·obtain ⟨⟨c1, hc⟩, _⟩ := e (by omega); cases hc
   obtain ⟨g2, a', hle', _⟩ := h'.tok id gr a
   exact ⟨_, g2, a', rfl, by omega, fun hg => by omega⟩
  ·subst hm
   rename_i gr c1
   obtain ⟨B2, g2, a', hm2, hle', e'⟩ := h'.mtok id gr c1 a
   refine ⟨B2, g2, a', hm2, Nat.le_trans hle hle', fun hg => ?_⟩
   obtain rfl : gr = g0 := by omega
   obtain ⟨_, e1, k1⟩ := e rfl
   obtain ⟨hB2, e2, k2⟩ := e' (by omega)
   refine ⟨hB2, e2.trans e1, fun b wm C t hi hC => ?_⟩
   obtain ⟨C', t', hC', hs⟩ := k1 b wm C t hi hC
   obtain ⟨C'', t'', hC'', hs'⟩ := k2 b wm C' t' (e1.trans hi) hC'
   exact ⟨C'', t'', hC'', hs'.trans hs⟩
 out := fun b x e => (h'.out b x e).trans (h.out b x e)
 rest := h.rest.trans h'.rest
omit [Outer] in
theorem Non.refl (S : Sit) : Non S S := fun _ _ h => h
theorem Non.trans {S S' S'' : Sit} (e : Ev S S') (h : Non S S') (h' : Non S' S'') : Non S S'' := fun id hn x => h' id (e.ptr id hn).1 (h id hn x)
theorem TailRel.ev {S S' : Sit} (h : Ev S S') {tail : Tail} {base : Option Addr} {len cap n : Nat}
  (x : TailRel S tail base len cap n) : TailRel S' tail base len cap n := by
 cases tail with
 | unk => trivial
 | full => exact x
 | own id g sz =>
  obtain ⟨hn, g0, h0, hle, hx⟩ := x
  obtain ⟨g1, h1, hle1, e⟩ := h.tok id g0 h0
  refine ⟨hn, g1, h1, Nat.le_trans hle hle1, fun hg => ?_⟩
  obtain rfl : g = g0 := by omega
  obtain ⟨e1, k1⟩ := e hg.symm
  rcases hx rfl with a | ⟨b, o, C, t, hb, hi, hC, hs⟩
  ·exact .inl a
  ·obtain ⟨C', t', hC', hs'⟩ := k1 b _ C t hi hC
   exact .inr ⟨b, o, C', t', hb, by rw [e1]; exact hi, hC', by rw [hs']; exact hs⟩
theorem MRef.ev {S S' : Sit} (h : Ev S S') {id gen : Nat} {K : Nat → Nat → Prop} (x : MRef S id gen K) : MRef S' id gen K := by
 obtain ⟨B, g, hB, hm, hle, k⟩ := x
 cases B <;> simp only [Blk.mgen, reduceCtorEq, Option.some.injEq] at hm
 ·subst hm
  obtain ⟨g1, h1, hle1, _⟩ := h.tok id _ hB
  exact ⟨_, g1, h1, rfl, by omega, fun _ hc => by obtain ⟨c1, hc⟩ := hc; cases hc⟩
 ·subst hm
  rename_i gr c0
  obtain ⟨B', g1, h1, hm1, hle1, e⟩ := h.mtok id gr c0 hB
  refine ⟨B', g1, h1, hm1, by omega, fun hg hc => ?_⟩
  obtain rfl : gr = gen := by omega
  obtain ⟨_, e1, k1⟩ := e hg
  obtain ⟨b, wm, C, t, hi, hC, hK⟩ := k rfl ⟨c0, rfl⟩
  obtain ⟨C', t', hC', hs⟩ := k1 b wm C t hi hC
  exact ⟨b, wm, C', t', e1.trans hi, hC', by rw [hs]; exact hK⟩
mutual
theorem VRel.ev {S S' : Sit} (h : Ev S S') : ∀ (a : AV) (c : Value), VRel S a c → VRel S' a c
 | .lit v, c, x => by simpa [VRel] using x
 | .agg cells, c, x => by
  simp only [VRel] at x ⊢
  obtain ⟨C, hc, hr⟩ := x
  exact ⟨C, hc, VRels.ev h cells _ hr⟩
 | .tup vs, c, x => by
  simp only [VRel] at x ⊢
  obtain ⟨C, hc, hr⟩ := x
  exact ⟨C, hc, VRels.ev h vs _ hr⟩
 | .ptr id off, c, x => by
  simp only [VRel] at x ⊢
  obtain ⟨b, wm, hi, hn, hc⟩ := x
  obtain ⟨hn', e⟩ := h.ptr id hn
  obtain ⟨wm', e'⟩ := e b wm hi
  exact ⟨b, wm', e', hn', hc⟩
 | .eptr cells, c, x => by
  simp only [VRel] at x ⊢
  obtain ⟨b, o, hc, hf, hr⟩ := x
  obtain ⟨hf', e⟩ := h.fix _ _ hf
  exact ⟨b, o, hc, hf', VRow.ev h b cells o (o + cells.length) (Nat.le_refl _) e hr⟩
 | .sl len cells tail, c, x => by
  simp only [VRel] at x ⊢
  obtain ⟨base, cap, hc, hle, hcells, ht⟩ := x
  refine ⟨base, cap, hc, hle, ?_, ht.ev h⟩
  rcases hcells with hcells | ⟨b, o, hb, hf, hr⟩
  ·exact .inl hcells
  ·obtain ⟨hf', e⟩ := h.fix _ _ hf
   exact .inr ⟨b, o, hb, hf', VRow.ev h b cells o (o + cells.length) (Nat.le_refl _) e hr⟩
 | .hsl id off len cap, c, x => by
  simp only [VRel] at x ⊢
  obtain ⟨b, wm, hi, hn, hc⟩ := x
  obtain ⟨hn', e⟩ := h.ptr id hn
  obtain ⟨wm', e'⟩ := e b wm hi
  exact ⟨b, wm', e', hn', hc⟩
 | .mp id, c, x => by
  simp only [VRel] at x ⊢
  obtain ⟨b, wm, hi, hn, hc⟩ := x
  obtain ⟨hn', e⟩ := h.ptr id hn
  obtain ⟨wm', e'⟩ := e b wm hi
  exact ⟨b, wm', e', hn', hc⟩
 | .fn f first captured, c, x => by
  simp only [VRel] at x ⊢
  obtain ⟨F, C, hc, h1, h2⟩ := x
  exact ⟨F, C, hc, VRels.ev h first _ h1, VRels.ev h captured _ h2⟩
 | .yld id, c, x => by
  simp only [VRel] at x ⊢
  obtain ⟨b, wm, hi, hn, hc⟩ := x
  obtain ⟨hn', e⟩ := h.ptr id hn
  obtain ⟨wm', e'⟩ := e b wm hi
  exact ⟨b, wm', e', hn', hc⟩
 | .iface t v, c, x => by
  simp only [VRel] at x ⊢
  obtain ⟨y, hc, hr⟩ := x
  exact ⟨y, hc, VRel.ev h v y hr⟩
 | .msl id gen len sz, c, x => by
  simp only [VRel] at x ⊢
  obtain ⟨base, cap, hc, hle, hm⟩ := x
  exact ⟨base, cap, hc, hle, hm.ev h⟩
 | .mptr id gen off, c, x => by
  simp only [VRel] at x ⊢
  obtain ⟨b, o, hc, hm⟩ := x
  exact ⟨b, o, hc, hm.ev h⟩
 | .mpx, c, x => by
  simp only [VRel] at x ⊢
  exact x
theorem VRels.ev {S S' : Sit} (h : Ev S S') : ∀ (as : List AV) (cs : List Value), VRels S as cs → VRels S' as cs
 | [], [], x => by simp [VRels]
 | [], _ :: _, x => by simp [VRels] at x
 | _ :: _, [], x => by simp [VRels] at x
 | a :: as, c :: cs, x => by
  simp only [VRels] at x ⊢
  exact ⟨VRel.ev h a c x.1, VRels.ev h as cs x.2⟩
theorem VRow.ev {S S' : Sit} (h : Ev S S') (b : Nat) : ∀ (as : List AV) (o lim : Nat), o + as.length ≤ lim →
  (∀ j, j < lim → S'.w.cell? ⟨b, j, none⟩ = S.w.cell? ⟨b, j, none⟩) → VRow S b o as → VRow S' b o as
 | [], o, lim, _, _, _ => by simp [VRow]
 | a :: as, o, lim, hl, he, x => by
  simp only [VRow] at x ⊢
  obtain ⟨⟨c, hc, hr⟩, x2⟩ := x
  simp only [List.length_cons] at hl
  exact ⟨⟨c, by rw [he o (by omega)]; exact hc, VRel.ev h a c hr⟩, VRow.ev h b as (o + 1) lim (by omega) he x2⟩
end
end
end Go.Vm

namespace Go.Vm
theorem cell_eq (w : World) (b o : Nat) : w.cell? ⟨b, o, none⟩ = match w.heap[b]? with | some (.cells c _ _) => c[o]? | _ => none := by
 unfold World.cell?
 cases w.heap[b]? with
 | none => rfl
 | some o => cases o <;> rfl
inductive Path where
 | stop
 | lo (p : Path)
 | hi (p : Path)
noncomputable def pathN : Nat → Nat → Path :=
 Nat.rec (fun _ => .stop) (fun _ ih k => Nat.rec .stop (fun k' _ => Nat.rec (.lo (ih (Nat.shiftRight k' 1))) (fun _ _ => .hi (ih (Nat.shiftRight k' 1))) (Nat.land k' 1)) k)
noncomputable def pathOf (k : Nat) : Path := pathN k k
noncomputable def valT {α : Type} (t : Trie α) : Option α := Trie.rec none (fun v _ _ _ _ => v) t
noncomputable def leftT {α : Type} (t : Trie α) : Trie α := Trie.rec .nil (fun _ l _ _ _ => l) t
noncomputable def rightT {α : Type} (t : Trie α) : Trie α := Trie.rec .nil (fun _ _ r _ _ => r) t
noncomputable def getP {α : Type} (p : Path) : Trie α → Option α :=
 Path.rec valT (fun _ ih t => ih (leftT t)) (fun _ ih t => ih (rightT t)) p
noncomputable def setP {α : Type} (p : Path) : Trie α → α → Trie α :=
 Path.rec (fun t x => Trie.rec (.node (some x) .nil .nil) (fun _ l r _ _ => .node (some x) l r) t)
  (fun _ ih t x => Trie.rec (.node none (ih .nil x) .nil) (fun v l r _ _ => .node v (ih l x) r) t)
  (fun _ ih t x => Trie.rec (.node none .nil (ih .nil x)) (fun v l r _ _ => .node v l (ih r x)) t) p
noncomputable def get {α : Type} (t : Trie α) (k : Nat) : Option α := getP (pathOf k) t
noncomputable def set {α : Type} (t : Trie α) (k : Nat) (x : α) : Trie α := setP (pathOf k) t x
section
variable {α : Type}
theorem pathN_succ (n k : Nat) : pathN (n + 1) (k + 1) = if k % 2 = 0 then .lo (pathN n (k / 2)) else .hi (pathN n (k / 2)) := by
 show (Nat.rec (.lo (pathN n (Nat.shiftRight k 1))) (fun _ _ => .hi (pathN n (Nat.shiftRight k 1))) (Nat.land k 1) : Path) = _
 have e1 : Nat.land k 1 = k % 2 := Nat.and_one_is_mod k
 have e2 : Nat.shiftRight k 1 = k / 2 := rfl
 rw [e1, e2]
 rcases Nat.mod_two_eq_zero_or_one k with h | h <;> rw [h] <;> rfl
theorem pathN_zero (n : Nat) : pathN n 0 = .stop := by cases n <;> rfl
theorem pathN_fuel : ∀ (n m k : Nat), k ≤ n → k ≤ m → pathN n k = pathN m k
 | n, m, 0, _, _ => by rw [pathN_zero, pathN_zero]
 | n + 1, m + 1, k + 1, h, h' => by
  rw [pathN_succ, pathN_succ, pathN_fuel n m (k / 2) (by omega) (by omega)]
 | 0, _, k + 1, h, _ => by omega
 | _ + 1, 0, k + 1, _, h => by omega
theorem pathOf_zero : pathOf 0 = .stop := rfl
theorem pathOf_succ (k : Nat) : pathOf (k + 1) = if k % 2 = 0 then .lo (pathOf (k / 2)) else .hi (pathOf (k / 2)) := by
 unfold pathOf
 rw [pathN_succ, pathN_fuel k (k / 2) (k / 2) (by omega) (by omega)]
theorem pathOf_inj : ∀ (k j : Nat), pathOf k = pathOf j → k = j
 | 0, 0, _ => rfl
 | 0, j + 1, h => by rw [pathOf_zero, pathOf_succ] at h; split at h <;> cases h
 | k + 1, 0, h => by rw [pathOf_zero, pathOf_succ] at h; split at h <;> cases h
 | k + 1, j + 1, h => by
  rw [pathOf_succ, pathOf_succ] at h
  split at h <;> split at h
  ·have := pathOf_inj _ _ (Path.lo.inj h); omega
  ·cases h
  ·cases h
  ·have := pathOf_inj _ _ (Path.hi.inj h); omega
theorem getP_nil : ∀ (p : Path), getP p (.nil : Trie α) = none
 | .stop => rfl
 | .lo p => getP_nil p
 | .hi p => getP_nil p
theorem get_nil (k : Nat) : get (.nil : Trie α) k = none := getP_nil _
theorem get_node_zero (v : Option α) (l r : Trie α) : get (.node v l r) 0 = v := rfl
theorem get_node_succ (v : Option α) (l r : Trie α) (k : Nat) : get (.node v l r) (k + 1) = if k % 2 = 0 then get l (k / 2) else get r (k / 2) := by
 unfold get
 rw [pathOf_succ]
 split <;> rfl
theorem getP_setP_same : ∀ (p : Path) (t : Trie α) (x : α), getP p (setP p t x) = some x
 | .stop, t, x => by cases t <;> rfl
 | .lo p, t, x => by
  cases t with
  | nil => exact getP_setP_same p .nil x
  | node v l r => exact getP_setP_same p l x
 | .hi p, t, x => by
  cases t with
  | nil => exact getP_setP_same p .nil x
  | node v l r => exact getP_setP_same p r x
theorem getP_setP_other : ∀ (p q : Path) (t : Trie α) (x : α), p ≠ q → getP q (setP p t x) = getP q t
 | .stop, .stop, _, _, h => absurd rfl h
 | .stop, .lo q, t, x, _ => by cases t with | nil => exact (getP_nil q).trans (getP_nil q).symm | node v l r => rfl
 | .stop, .hi q, t, x, _ => by cases t with | nil => exact (getP_nil q).trans (getP_nil q).symm | node v l r => rfl
 | .lo p, .stop, t, x, _ => by cases t <;> rfl
 | .hi p, .stop, t, x, _ => by cases t <;> rfl
 | .lo p, .lo q, t, x, h => by
  have h' : p ≠ q := fun e => h (by rw [e])
  cases t with
  | nil => exact (getP_setP_other p q .nil x h').trans rfl
  | node v l r => exact getP_setP_other p q l x h'
 | .hi p, .hi q, t, x, h => by
  have h' : p ≠ q := fun e => h (by rw [e])
  cases t with
  | nil => exact (getP_setP_other p q .nil x h').trans rfl
  | node v l r => exact getP_setP_other p q r x h'
 | .lo p, .hi q, t, x, _ => by cases t <;> rfl
 | .hi p, .lo q, t, x, _ => by cases t <;> rfl
theorem get_set_same (l : Trie α) (k : Nat) (x : α) : get (set l k x) k = some x := getP_setP_same _ _ _
theorem get_set_other (l : Trie α) (k j : Nat) (x : α) (h : k ≠ j) : get (set l k x) j = get l j :=
 getP_setP_other _ _ _ _ fun e => h (pathOf_inj _ _ e)
end
section
variable [Outer]
def VarsRel (S : Sit) (vars : Trie AV) (tmps : Array Value) : Prop :=
 ∀ t v, get vars t = some v → ∃ c, tmps[t]? = some c ∧ VRel S v c
theorem VarsRel.ev {S S' : Sit} (h : Ev S S') {vars : Trie AV} {tmps : Array Value} (x : VarsRel S vars tmps) : VarsRel S' vars tmps := by
 intro t v hg
 obtain ⟨c, hc, hr⟩ := x t v hg
 exact ⟨c, hc, hr.ev h⟩
theorem VarsRel.set {S : Sit} {vars : Trie AV} {tmps : Array Value} (x : VarsRel S vars tmps) {k : Nat} {v : AV} {c : Value}
  (hk : k < tmps.size) (hv : VRel S v c) : VarsRel S (Vm.set vars k v) (tmps.setIfInBounds k c) := by
 intro t u hg
 by_cases h : k = t
 ·subst h
  rw [get_set_same] at hg
  cases hg
  exact ⟨c, by simp [hk], hv⟩
 ·rw [get_set_other _ _ _ _ h] at hg
  obtain ⟨c', hc', hr⟩ := x t u hg
  exact ⟨c', by simp [h, hc'], hr⟩
structure LRel (S : Sit) (l : ALoop) (L : Loop) : Prop where
 state : L.state = l.state
 pending : L.pending = l.pending
 params : L.params = l.params
 assign : L.assign = l.assign
 body : L.body = l.body
 size : L.tmps.size = l.n
 vars : VarsRel S l.vars L.tmps
 defers : ∃ wm, S.ι l.defers = some (L.defers, wm) ∧ notRow S.H l.defers
theorem LRel.ev {S S' : Sit} (h : Ev S S') {l : ALoop} {L : Loop} (x : LRel S l L) : LRel S' l L where
 state := x.state
 pending := x.pending
 params := x.params
 assign := x.assign
 body := x.body
 size := x.size
 vars := x.vars.ev h
 defers := by
  obtain ⟨wm, hi, hn⟩ := x.defers
  obtain ⟨hn', e⟩ := h.ptr _ hn
  obtain ⟨wm', e'⟩ := e _ _ hi
  exact ⟨wm', e', hn'⟩
def isI64 : Value → Bool
 | .int .i64 n => decide (-9223372036854775808 ≤ n) && decide (n ≤ 9223372036854775807)
 | _ => false
def shOk : KeyShape → Value → Bool
 | .int, v => isI64 v
 | .arr n, .agg C => C.toList.length == n && C.toList.all isI64
 | .arr _, _ => false
structure MRel (S : Sit) (sh : KeyShape) (es : List (Value × AV)) (E : Array MapEntry) (clock : Nat) : Prop where
 ents : ∃ es2 : List (Value × AV), es2.Perm es ∧ E.toList.map (·.key) = es2.map (·.1) ∧ VRels S (es2.map (·.2)) (E.toList.map (·.val))
 keys : ∀ p ∈ es, shOk sh p.1 = true
 nodup : (es.map (·.1)).Nodup
 stamps : (E.toList.map (·.born)).Nodup
 born : ∀ e ∈ E.toList, e.born < clock
theorem MRel.ev {S S' : Sit} (h : Ev S S') {sh : KeyShape} {es : List (Value × AV)} {E : Array MapEntry} {clock : Nat} (x : MRel S sh es E clock) : MRel S' sh es E clock where
 ents := by
  obtain ⟨es2, hp, h1, h2⟩ := x.ents
  exact ⟨es2, hp, h1, h2.ev h⟩
 keys := x.keys
 nodup := x.nodup
 stamps := x.stamps
 born := x.born
def BlkRel (S : Sit) (b wm : Nat) : Blk → Prop
 | .box cells t => ∃ C, S.w.heap[b]? = some (.cells C t (0, 0)) ∧ VRels S cells C.toList
 | .row _ => ∃ C t, S.w.heap[b]? = some (.cells C t (0, 0)) ∧ wm ≤ C.size
 | .mrow _ cells => ∃ C t, S.w.heap[b]? = some (.cells C t (0, 0)) ∧ VRels S cells (C.toList.take cells.length)
 | .map sh es => ∃ E clock, S.w.heap[b]? = some (.map E clock) ∧ MRel S sh es E clock
 | .loop l => ∃ L, S.w.heap[b]? = some (.loop L) ∧ LRel S l L
 | .defd => S.w.heap[b]? = some (.deferred (some []))
 | .iterS s pos => S.w.heap[b]? = some (.stringIter s pos)
 | .spent => ∃ o, S.w.heap[b]? = some o
 | .obj o => S.w.heap[b]? = some o
theorem BlkRel.ev {S S' : Sit} (h : Ev S S') {b wm : Nat} {B : Blk} (x : BlkRel S b wm B) (hb : S'.w.heap[b]? = S.w.heap[b]?) : BlkRel S' b wm B := by
 cases B with
 | box cells t => obtain ⟨C, h1, h2⟩ := x; exact ⟨C, hb.trans h1, h2.ev h⟩
 | row g => obtain ⟨C, t, h1, h2⟩ := x; exact ⟨C, t, hb.trans h1, h2⟩
 | mrow g cells => obtain ⟨C, t, h1, h2⟩ := x; exact ⟨C, t, hb.trans h1, h2.ev h⟩
 | map sh es => obtain ⟨E, c, h1, h2⟩ := x; exact ⟨E, c, hb.trans h1, h2.ev h⟩
 | loop l => obtain ⟨L, h1, h2⟩ := x; exact ⟨L, hb.trans h1, h2.ev h⟩
 | defd => exact hb.trans x
 | iterS s pos => exact hb.trans x
 | spent => obtain ⟨o, h1⟩ := x; exact ⟨o, hb.trans h1⟩
 | obj o => exact hb.trans x
structure Rel (S : Sit) : Prop where
 blk : ∀ id b wm, S.ι id = some (b, wm) → ∃ B, S.H[id]? = some B ∧ BlkRel S b wm B
 inj : ∀ i j b wm wm', S.ι i = some (b, wm) → S.ι j = some (b, wm') → i = j
 out : ∀ b x, Outer.out b = some x → b < S.w.heap.size ∧ ∀ id wm, S.ι id ≠ some (b, wm)
omit [Outer] in
theorem lt_of_same {w w' : World} {b : Nat} (h : w'.heap[b]? = w.heap[b]?) (hb : b < w.heap.size) : b < w'.heap.size := by
 have : w.heap[b]? = some w.heap[b] := by simp [hb]
 rw [this] at h
 exact (Array.getElem?_eq_some_iff.1 h).1
theorem Rel.lt {S : Sit} (h : Rel S) {id : Nat} {p : Nat × Nat} (hi : S.ι id = some p) : id < S.H.length := by
 obtain ⟨b, wm⟩ := p
 obtain ⟨B, hB, _⟩ := h.blk id b wm hi
 exact (List.getElem?_eq_some_iff.1 hB).1
theorem BlkRel.block {S : Sit} {b wm : Nat} {B : Blk} (x : BlkRel S b wm B) : b < S.w.heap.size := by
 have key : ∀ o, S.w.heap[b]? = some o → b < S.w.heap.size := fun o h => (Array.getElem?_eq_some_iff.1 h).1
 cases B with
 | box cells t => obtain ⟨C, h1, _⟩ := x; exact key _ h1
 | row g => obtain ⟨C, t, h1, _⟩ := x; exact key _ h1
 | mrow g cells => obtain ⟨C, t, h1, _⟩ := x; exact key _ h1
 | map sh es => obtain ⟨E, c, h1, _⟩ := x; exact key _ h1
 | loop l => obtain ⟨L, h1, _⟩ := x; exact key _ h1
 | defd => exact key _ x
 | iterS s pos => exact key _ x
 | spent => obtain ⟨o, h1⟩ := x; exact key _ h1
 | obj o => exact key _ x
theorem Rel.block {S : Sit} (h : Rel S) {id b wm : Nat} (hi : S.ι id = some (b, wm)) : b < S.w.heap.size := by
 obtain ⟨B, _, hr⟩ := h.blk id b wm hi
 exact hr.block
def upd (ι : Nat → Option (Nat × Nat)) (id : Nat) (p : Option (Nat × Nat)) : Nat → Option (Nat × Nat) := fun i => if i = id then p else ι i
omit [Outer] in
theorem upd_same (ι : Nat → Option (Nat × Nat)) (id : Nat) (p : Option (Nat × Nat)) : upd ι id p id = p := by simp [upd]
omit [Outer] in
theorem upd_other (ι : Nat → Option (Nat × Nat)) (id i : Nat) (p : Option (Nat × Nat)) (h : i ≠ id) : upd ι id p i = ι i := by simp [upd, h]
theorem Fix.lt {S : Sit} {b lim : Nat} (h : Fix S b lim) : b < S.w.heap.size := by
 obtain ⟨C, t, f, a, _⟩ := h
 exact (Array.getElem?_eq_some_iff.1 a).1
theorem Ev.grow {S : Sit} (hR : Rel S) {w' : World} {H2 : List Blk} {ι' : Nat → Option (Nat × Nat)}
  (hw : ∀ b, b < S.w.heap.size → w'.heap[b]? = S.w.heap[b]?)
  (hι : ∀ id, id < S.H.length → ι' id = S.ι id)
  (hnew : ∀ id b wm, S.H.length ≤ id → ι' id = some (b, wm) → S.w.heap.size ≤ b) (hos : Rest S.w w' := by exact ⟨rfl, rfl⟩) : Ev S ⟨S.H ++ H2, ι', w'⟩ where
 ptr := fun id h => by
  obtain ⟨B, hB, hr⟩ := h
  have hlt := (List.getElem?_eq_some_iff.1 hB).1
  refine ⟨⟨B, by show (S.H ++ H2)[id]? = _; rw [List.getElem?_append_left hlt]; exact hB, hr⟩, fun b wm e => ⟨wm, by show ι' id = _; rw [hι id hlt]; exact e⟩⟩
 fix := fun b lim h => by
  have hb := h.lt
  obtain ⟨C, t, f, a, hl, r, ro⟩ := h
  refine ⟨⟨C, t, f, by show w'.heap[b]? = _; rw [hw b hb]; exact a, hl, fun id wm e => ?_, ro⟩, fun j _ => ?_⟩
  ·have e' : ι' id = some (b, wm) := e
   by_cases hlt : id < S.H.length
   ·rw [hι id hlt] at e'
    obtain ⟨⟨g, hg⟩, hle⟩ := r id wm e'
    exact ⟨⟨g, by show (S.H ++ H2)[id]? = _; rw [List.getElem?_append_left hlt]; exact hg⟩, hle⟩
   ·exact absurd (hnew id b wm (by omega) e') (by omega)
  ·rw [cell_eq, cell_eq]; show (match w'.heap[b]? with | some (.cells c _ _) => c[j]? | _ => none) = _; rw [hw b hb]
 tok := fun id g0 h => by
  have hlt := (List.getElem?_eq_some_iff.1 h).1
  refine ⟨g0, by show (S.H ++ H2)[id]? = _; rw [List.getElem?_append_left hlt]; exact h, Nat.le_refl _, fun _ => ⟨hι id hlt, fun b wm C t hi hC => ⟨C, t, ?_, rfl⟩⟩⟩
  show w'.heap[b]? = _
  rw [hw b (hR.block hi)]; exact hC
 mtok := fun id g0 c0 h => by
  have hlt := (List.getElem?_eq_some_iff.1 h).1
  refine ⟨_, g0, by show (S.H ++ H2)[id]? = _; rw [List.getElem?_append_left hlt]; exact h, rfl, Nat.le_refl _, fun _ => ⟨⟨c0, rfl⟩, hι id hlt, fun b wm C t hi hC => ⟨C, t, ?_, rfl⟩⟩⟩
  show w'.heap[b]? = _
  rw [hw b (hR.block hi)]; exact hC
 out := fun b x e => hw b (hR.out b x e).1
 rest := hos
theorem Rel.grow {S : Sit} (hR : Rel S) {w' : World} {H2 : List Blk} {ι' : Nat → Option (Nat × Nat)}
  (hw : ∀ b, b < S.w.heap.size → w'.heap[b]? = S.w.heap[b]?)
  (hι : ∀ id, id < S.H.length → ι' id = S.ι id)
  (hnew : ∀ id b wm, S.H.length ≤ id → ι' id = some (b, wm) → S.w.heap.size ≤ b ∧ ∃ B, (S.H ++ H2)[id]? = some B ∧ BlkRel ⟨S.H ++ H2, ι', w'⟩ b wm B)
  (hinj : ∀ i j b wm wm', S.H.length ≤ i → S.H.length ≤ j → ι' i = some (b, wm) → ι' j = some (b, wm') → i = j) (hos : Rest S.w w' := by exact ⟨rfl, rfl⟩) : Rel ⟨S.H ++ H2, ι', w'⟩ where
 blk := fun id b wm e => by
  have e' : ι' id = some (b, wm) := e
  by_cases hlt : id < S.H.length
  ·rw [hι id hlt] at e'
   obtain ⟨B, hB, hr⟩ := hR.blk id b wm e'
   exact ⟨B, by show (S.H ++ H2)[id]? = _; rw [List.getElem?_append_left hlt]; exact hB,
    hr.ev (Ev.grow hR hw hι (fun id b wm hl he => (hnew id b wm hl he).1) hos) (hw b hr.block)⟩
  ·exact (hnew id b wm (by omega) e').2
 inj := fun i j b wm wm' hi hj => by
  have hi' : ι' i = some (b, wm) := hi
  have hj' : ι' j = some (b, wm') := hj
  by_cases h1 : i < S.H.length
  ·by_cases h2 : j < S.H.length
   ·rw [hι i h1] at hi'; rw [hι j h2] at hj'
    exact hR.inj i j b wm wm' hi' hj'
   ·rw [hι i h1] at hi'
    have := hR.block hi'
    exact absurd (hnew j b wm' (by omega) hj').1 (by omega)
  ·by_cases h2 : j < S.H.length
   ·rw [hι j h2] at hj'
    have := hR.block hj'
    exact absurd (hnew i b wm (by omega) hi').1 (by omega)
   ·exact hinj i j b wm wm' (by omega) (by omega) hi' hj'
 out := fun b x e => by
  obtain ⟨h1, h2⟩ := hR.out b x e
  refine ⟨lt_of_same (hw b h1) h1, fun id wm h => ?_⟩
  have h' : ι' id = some (b, wm) := h
  by_cases hlt : id < S.H.length
  ·rw [hι id hlt] at h'; exact h2 id wm h'
  ·exact absurd (hnew id b wm (by omega) h').1 (by omega)
theorem Ev.alloc {S : Sit} (hR : Rel S) {w' : World} {o : Obj} (B : Blk) (wm : Nat) (hw : w'.heap = S.w.heap.push o) (hos : Rest S.w w' := by exact ⟨rfl, rfl⟩) :
  Ev S ⟨S.H ++ [B], upd S.ι S.H.length (some (S.w.heap.size, wm)), w'⟩ :=
 Ev.grow hR (fun b hb => by rw [hw, Array.getElem?_push_lt hb]; simp [hb])
  (fun id hlt => upd_other _ _ _ _ (by omega)) (fun id b wm' hl e => by
   by_cases h : id = S.H.length
   ·subst h; rw [upd_same] at e; cases e; exact Nat.le_refl _
   ·rw [upd_other _ _ _ _ h] at e; exact absurd (hR.lt e) (by omega)) hos
theorem Rel.alloc {S : Sit} (hR : Rel S) {w' : World} {o : Obj} (B : Blk) (wm : Nat) (hw : w'.heap = S.w.heap.push o)
  (hB : BlkRel ⟨S.H ++ [B], upd S.ι S.H.length (some (S.w.heap.size, wm)), w'⟩ S.w.heap.size wm B) (hos : Rest S.w w' := by exact ⟨rfl, rfl⟩) :
  Rel ⟨S.H ++ [B], upd S.ι S.H.length (some (S.w.heap.size, wm)), w'⟩ :=
 Rel.grow hR (fun b hb => by rw [hw, Array.getElem?_push_lt hb]; simp [hb])
  (fun id hlt => upd_other _ _ _ _ (by omega)) (fun id b wm' hl e => by
   by_cases h : id = S.H.length
   ·subst h; rw [upd_same] at e; cases e
    exact ⟨Nat.le_refl _, B, by simp, hB⟩
   ·rw [upd_other _ _ _ _ h] at e; exact absurd (hR.lt e) (by omega))
  (fun i j b wm1 wm2 hi hj ei ej => by
   by_cases h : i = S.H.length
   ·by_cases h' : j = S.H.length
    ·omega
    ·rw [upd_other _ _ _ _ h'] at ej; exact absurd (hR.lt ej) (by omega)
   ·rw [upd_other _ _ _ _ h] at ei; exact absurd (hR.lt ei) (by omega)) hos
theorem Ev.fresh {S : Sit} (hR : Rel S) {w' : World} {H2 : List Blk} (hw : ∀ b, b < S.w.heap.size → w'.heap[b]? = S.w.heap[b]?) (hos : Rest S.w w' := by exact ⟨rfl, rfl⟩) : Ev S ⟨S.H ++ H2, S.ι, w'⟩ :=
 Ev.grow hR hw (fun _ _ => rfl) (fun id b wm hl e => absurd (hR.lt e) (by omega)) hos
theorem Rel.fresh {S : Sit} (hR : Rel S) {w' : World} {H2 : List Blk} (hw : ∀ b, b < S.w.heap.size → w'.heap[b]? = S.w.heap[b]?) (hos : Rest S.w w' := by exact ⟨rfl, rfl⟩) : Rel ⟨S.H ++ H2, S.ι, w'⟩ :=
 Rel.grow hR hw (fun _ _ => rfl) (fun id b wm hl e => absurd (hR.lt e) (by omega)) (fun i j b wm wm' hl _ e _ => absurd (hR.lt e) (by omega)) hos
omit [Outer] in
theorem heap_cell {w w' : World} {b : Nat} (h : w'.heap[b]? = w.heap[b]?) (j : Nat) : w'.cell? ⟨b, j, none⟩ = w.cell? ⟨b, j, none⟩ := by
 rw [cell_eq, cell_eq, h]
theorem Ev.write {S : Sit} (hR : Rel S) {w' : World} {id b wm : Nat} {B B' : Blk} (hi : S.ι id = some (b, wm)) (hB : S.H[id]? = some B)
  (hn : B.isRow = false) (hn' : B'.isRow = false) (hw : ∀ b', b' ≠ b → w'.heap[b']? = S.w.heap[b']?) (hos : Rest S.w w' := by exact ⟨rfl, rfl⟩) : Ev S ⟨S.H.set id B', S.ι, w'⟩ where
 ptr := fun i h => by
  refine ⟨?_, fun b wm e => ⟨wm, e⟩⟩
  obtain ⟨B0, h0, hr0⟩ := h
  have hlt := (List.getElem?_eq_some_iff.1 h0).1
  by_cases h : id = i
  ·subst h; exact ⟨B', by show (S.H.set id B')[id]? = _; simp [hlt], hn'⟩
  ·exact ⟨B0, by show (S.H.set id B')[i]? = _; rw [List.getElem?_set_ne h]; exact h0, hr0⟩
 fix := fun b0 lim h => by
  obtain ⟨C, t, f, a, hl, r, ro⟩ := h
  have hne : b0 ≠ b := by
   rintro rfl
   obtain ⟨⟨g, hg⟩, _⟩ := r id wm hi
   rw [hB] at hg; cases hg; simp [Blk.isRow] at hn
  refine ⟨⟨C, t, f, by show w'.heap[b0]? = _; rw [hw b0 hne]; exact a, hl, fun i wm' e => ?_, ro⟩, fun j _ => heap_cell (hw b0 hne) j⟩
  obtain ⟨⟨g, hg⟩, hle⟩ := r i wm' e
  refine ⟨⟨g, ?_⟩, hle⟩
  show (S.H.set id B')[i]? = _
  rw [List.getElem?_set_ne]
  ·exact hg
  ·rintro rfl; rw [hB] at hg; cases hg; simp [Blk.isRow] at hn
 tok := fun i g0 h => by
  have hne : id ≠ i := by rintro rfl; rw [hB] at h; cases h; simp [Blk.isRow] at hn
  refine ⟨g0, by show (S.H.set id B')[i]? = _; rw [List.getElem?_set_ne hne]; exact h, Nat.le_refl _, fun _ => ⟨rfl, fun b1 wm1 C t h1 hC => ⟨C, t, ?_, rfl⟩⟩⟩
  show w'.heap[b1]? = _
  rw [hw b1]
  ·exact hC
  ·rintro rfl; exact hne (hR.inj id i b1 wm wm1 hi h1)
 mtok := fun i g0 c0 h => by
  have hne : id ≠ i := by rintro rfl; rw [hB] at h; cases h; simp [Blk.isRow] at hn
  refine ⟨_, g0, by show (S.H.set id B')[i]? = _; rw [List.getElem?_set_ne hne]; exact h, rfl, Nat.le_refl _, fun _ => ⟨⟨c0, rfl⟩, rfl, fun b1 wm1 C t h1 hC => ⟨C, t, ?_, rfl⟩⟩⟩
  show w'.heap[b1]? = _
  rw [hw b1]
  ·exact hC
  ·rintro rfl; exact hne (hR.inj id i b1 wm wm1 hi h1)
 out := fun b0 x e => hw b0 fun h => (hR.out b0 x e).2 id wm (h ▸ hi)
 rest := hos
theorem Rel.write {S : Sit} (hR : Rel S) {w' : World} {id b wm : Nat} {B B' : Blk} (hi : S.ι id = some (b, wm)) (hB : S.H[id]? = some B)
  (hn : B.isRow = false) (hn' : B'.isRow = false) (hw : ∀ b', b' ≠ b → w'.heap[b']? = S.w.heap[b']?)
  (hB' : BlkRel ⟨S.H.set id B', S.ι, w'⟩ b wm B') (hos : Rest S.w w' := by exact ⟨rfl, rfl⟩) : Rel ⟨S.H.set id B', S.ι, w'⟩ where
 blk := fun i b1 wm1 e => by
  have e' : S.ι i = some (b1, wm1) := e
  by_cases h : i = id
  ·subst h
   rw [hi] at e'; cases e'
   exact ⟨B', by show (S.H.set i B')[i]? = _; simp [hR.lt hi], hB'⟩
  ·obtain ⟨B0, h0, hr⟩ := hR.blk i b1 wm1 e'
   refine ⟨B0, by show (S.H.set id B')[i]? = _; rw [List.getElem?_set_ne (Ne.symm h)]; exact h0, hr.ev (Ev.write hR hi hB hn hn' hw hos) (hw b1 ?_)⟩
   rintro rfl; exact h (hR.inj i id b1 wm1 wm e' hi)
 inj := hR.inj
 out := fun b0 x e => ⟨lt_of_same (hw b0 fun h => (hR.out b0 x e).2 id wm (h ▸ hi)) (hR.out b0 x e).1, (hR.out b0 x e).2⟩
theorem Ev.row {S : Sit} (hR : Rel S) {w' : World} {id g nb wm' : Nat} (hid : S.H[id]? = some (.row g))
  (hsame : ∀ b, (∀ wm, S.ι id ≠ some (b, wm)) → b < S.w.heap.size → w'.heap[b]? = S.w.heap[b]?)
  (hown : ∀ b wm, S.ι id = some (b, wm) → ∃ C C' t t', S.w.heap[b]? = some (.cells C t (0, 0)) ∧ w'.heap[b]? = some (.cells C' t' (0, 0)) ∧ C'.size = C.size ∧
   ∀ j, j < wm → C'[j]? = C[j]?)
  (hnb : (∃ wm, S.ι id = some (nb, wm) ∧ wm ≤ wm') ∨ S.w.heap.size ≤ nb) (hos : Rest S.w w' := by exact ⟨rfl, rfl⟩) :
  Ev S ⟨S.H.set id (.row (g + 1)), upd S.ι id (some (nb, wm')), w'⟩ where
 ptr := fun i h => by
  obtain ⟨B0, h0, hr0⟩ := h
  have hne : id ≠ i := by rintro rfl; rw [hid] at h0; cases h0; simp [Blk.isRow] at hr0
  exact ⟨⟨B0, by show (S.H.set id _)[i]? = _; rw [List.getElem?_set_ne hne]; exact h0, hr0⟩, fun b wm e => ⟨wm, by show upd _ _ _ i = _; rw [upd_other _ _ _ _ (Ne.symm hne)]; exact e⟩⟩
 fix := fun b lim h => by
  have hb := h.lt
  obtain ⟨C, t, f, a, hl, r, ro⟩ := h
  by_cases hx : ∃ wm, S.ι id = some (b, wm)
  ·obtain ⟨wm, hx⟩ := hx
   obtain ⟨C0, C', t0, t', h0, h', hs, hc⟩ := hown b wm hx
   rw [h0] at a; cases a
   have hlw := (r id wm hx).2
   refine ⟨⟨C', t', (0, 0), h', by omega, fun i wm1 e => ?_, ro⟩, fun j hj => ?_⟩
   ·by_cases hi : i = id
    ·subst hi
     have e' : some (nb, wm') = some (b, wm1) := by rw [← upd_same S.ι i (some (nb, wm'))]; exact e
     cases e'
     refine ⟨⟨g + 1, by show (S.H.set i _)[i]? = _; simp [hR.lt hx]⟩, ?_⟩
     rcases hnb with ⟨wm2, h2, hle⟩ | hlt
     ·rw [hx] at h2; cases h2; omega
     ·omega
    ·have e' : S.ι i = some (b, wm1) := by rw [← upd_other S.ι id i (some (nb, wm')) hi]; exact e
     exact absurd (hR.inj i id b wm1 wm e' hx) hi
   ·rw [cell_eq, cell_eq, h0]
    show (match w'.heap[b]? with | some (.cells c _ _) => c[j]? | _ => none) = _
    rw [h']; exact hc j (by omega)
  ·have hw := hsame b (fun wm e => hx ⟨wm, e⟩) hb
   refine ⟨⟨C, t, f, by show w'.heap[b]? = _; rw [hw]; exact a, hl, fun i wm1 e => ?_, ro⟩, fun j _ => heap_cell hw j⟩
   by_cases hi : i = id
   ·subst hi
    have e' : some (nb, wm') = some (b, wm1) := by rw [← upd_same S.ι i (some (nb, wm'))]; exact e
    cases e'
    rcases hnb with ⟨wm2, h2, hle⟩ | hlt
    ·exact absurd ⟨wm2, h2⟩ hx
    ·omega
   ·have e' : S.ι i = some (b, wm1) := by rw [← upd_other S.ι id i (some (nb, wm')) hi]; exact e
    obtain ⟨⟨g1, hg1⟩, hle⟩ := r i wm1 e'
    exact ⟨⟨g1, by show (S.H.set id _)[i]? = _; rw [List.getElem?_set_ne (Ne.symm hi)]; exact hg1⟩, hle⟩
 tok := fun i g0 h => by
  by_cases hi : i = id
  ·subst hi
   rw [hid] at h; cases h
   exact ⟨g + 1, by show (S.H.set i _)[i]? = _; simp [(List.getElem?_eq_some_iff.1 hid).1], by omega, fun e => by omega⟩
  ·refine ⟨g0, by show (S.H.set id _)[i]? = _; rw [List.getElem?_set_ne (Ne.symm hi)]; exact h, Nat.le_refl _, fun _ => ⟨upd_other _ _ _ _ hi, fun b1 wm1 C t h1 hC => ⟨C, t, ?_, rfl⟩⟩⟩
   show w'.heap[b1]? = _
   rw [hsame b1 (fun wm e => hi (hR.inj i id b1 wm1 wm h1 e)) (hR.block h1)]; exact hC
 mtok := fun i g0 c0 h => by
  have hi : i ≠ id := by rintro rfl; rw [hid] at h; cases h
  refine ⟨_, g0, by show (S.H.set id _)[i]? = _; rw [List.getElem?_set_ne (Ne.symm hi)]; exact h, rfl, Nat.le_refl _, fun _ => ⟨⟨c0, rfl⟩, upd_other _ _ _ _ hi, fun b1 wm1 C t h1 hC => ⟨C, t, ?_, rfl⟩⟩⟩
  show w'.heap[b1]? = _
  rw [hsame b1 (fun wm e => hi (hR.inj i id b1 wm1 wm h1 e)) (hR.block h1)]; exact hC
 out := fun b x e => hsame b (fun wm => (hR.out b x e).2 id wm) (hR.out b x e).1
 rest := hos
theorem Rel.row {S : Sit} (hR : Rel S) {w' : World} {id g nb wm' : Nat} (hid : S.H[id]? = some (.row g))
  (hsame : ∀ b, (∀ wm, S.ι id ≠ some (b, wm)) → b < S.w.heap.size → w'.heap[b]? = S.w.heap[b]?)
  (hown : ∀ b wm, S.ι id = some (b, wm) → ∃ C C' t t', S.w.heap[b]? = some (.cells C t (0, 0)) ∧ w'.heap[b]? = some (.cells C' t' (0, 0)) ∧ C'.size = C.size ∧
   ∀ j, j < wm → C'[j]? = C[j]?)
  (hnb : (∃ wm, S.ι id = some (nb, wm) ∧ wm ≤ wm') ∨ S.w.heap.size ≤ nb)
  (hnew : ∃ C t, w'.heap[nb]? = some (.cells C t (0, 0)) ∧ wm' ≤ C.size) (hos : Rest S.w w' := by exact ⟨rfl, rfl⟩) :
  Rel ⟨S.H.set id (.row (g + 1)), upd S.ι id (some (nb, wm')), w'⟩ where
 blk := fun i b1 wm1 e => by
  by_cases hi : i = id
  ·subst hi
   have e' : some (nb, wm') = some (b1, wm1) := by rw [← upd_same S.ι i (some (nb, wm'))]; exact e
   cases e'
   exact ⟨.row (g + 1), by show (S.H.set i _)[i]? = _; simp [(List.getElem?_eq_some_iff.1 hid).1], hnew⟩
  ·have e' : S.ι i = some (b1, wm1) := by rw [← upd_other S.ι id i (some (nb, wm')) hi]; exact e
   obtain ⟨B0, h0, hr⟩ := hR.blk i b1 wm1 e'
   exact ⟨B0, by show (S.H.set id _)[i]? = _; rw [List.getElem?_set_ne (Ne.symm hi)]; exact h0,
    hr.ev (Ev.row hR hid hsame hown hnb hos) (hsame b1 (fun wm e => hi (hR.inj i id b1 wm1 wm e' e)) (hR.block e'))⟩
 inj := fun i j b wm1 wm2 hi hj => by
  have key : ∀ j wm2, j ≠ id → upd S.ι id (some (nb, wm')) j = some (nb, wm2) → False := by
   intro j wm2 hj e
   rw [upd_other _ _ _ _ hj] at e
   rcases hnb with ⟨wm3, h3, _⟩ | hlt
   ·exact hj (hR.inj j id nb wm2 wm3 e h3)
   ·exact absurd (hR.block e) (by omega)
  have hi' : upd S.ι id (some (nb, wm')) i = some (b, wm1) := hi
  have hj' : upd S.ι id (some (nb, wm')) j = some (b, wm2) := hj
  by_cases h1 : i = id
  ·by_cases h2 : j = id
   ·rw [h1, h2]
   ·subst h1; rw [upd_same] at hi'; cases hi'
    exact (key j wm2 h2 hj').elim
  ·by_cases h2 : j = id
   ·subst h2; rw [upd_same] at hj'; cases hj'
    exact (key i wm1 h1 hi').elim
   ·rw [upd_other _ _ _ _ h1] at hi'; rw [upd_other _ _ _ _ h2] at hj'
    exact hR.inj i j b wm1 wm2 hi' hj'
 out := fun b x e => by
  obtain ⟨h1, h2⟩ := hR.out b x e
  refine ⟨lt_of_same (hsame b (fun wm => h2 id wm) h1) h1, fun i wm1 h => ?_⟩
  have h' : upd S.ι id (some (nb, wm')) i = some (b, wm1) := h
  by_cases hi : i = id
  ·subst hi; rw [upd_same] at h'; cases h'
   rcases hnb with ⟨wm2, h3, _⟩ | hlt
   ·exact h2 _ _ h3
   ·omega
  ·rw [upd_other _ _ _ _ hi] at h'; exact h2 _ _ h'
theorem Ev.mrow {S : Sit} (hR : Rel S) {w' : World} {id g g' : Nat} {c : List AV} {B' : Blk} {p : Option (Nat × Nat)} (hid : S.H[id]? = some (.mrow g c)) (hB' : B'.mgen = some g') (hg : g ≤ g')
  (hsame : ∀ b, (∀ wm, S.ι id ≠ some (b, wm)) → b < S.w.heap.size → w'.heap[b]? = S.w.heap[b]?)
  (hk : g' = g → (∃ c1, B' = .mrow g c1) ∧ p = S.ι id ∧ ∀ b wm C t, S.ι id = some (b, wm) → S.w.heap[b]? = some (.cells C t (0, 0)) → ∃ C' t', w'.heap[b]? = some (.cells C' t' (0, 0)) ∧ C'.size = C.size)
  (hnb : ∀ nb wm, p = some (nb, wm) → (∃ wm0, S.ι id = some (nb, wm0)) ∨ S.w.heap.size ≤ nb) (hos : Rest S.w w' := by exact ⟨rfl, rfl⟩) :
  Ev S ⟨S.H.set id B', upd S.ι id p, w'⟩ where
 ptr := fun i h => by
  obtain ⟨B0, h0, hr0⟩ := h
  have hne : id ≠ i := by rintro rfl; rw [hid] at h0; cases h0; simp [Blk.isRow] at hr0
  exact ⟨⟨B0, by show (S.H.set id _)[i]? = _; rw [List.getElem?_set_ne hne]; exact h0, hr0⟩, fun b wm e => ⟨wm, by show upd _ _ _ i = _; rw [upd_other _ _ _ _ (Ne.symm hne)]; exact e⟩⟩
 fix := fun b lim h => by
  have hb := h.lt
  obtain ⟨C, t, f, a, hl, r, ro⟩ := h
  have hx : ∀ wm, S.ι id ≠ some (b, wm) := fun wm e => by
   obtain ⟨⟨g1, hg1⟩, _⟩ := r id wm e
   rw [hid] at hg1; cases hg1
  have hw := hsame b hx hb
  refine ⟨⟨C, t, f, by show w'.heap[b]? = _; rw [hw]; exact a, hl, fun i wm1 e => ?_, ro⟩, fun j _ => heap_cell hw j⟩
  by_cases hi : i = id
  ·subst hi
   have e' : p = some (b, wm1) := by rw [← upd_same S.ι i p]; exact e
   rcases hnb b wm1 e' with ⟨wm0, h0⟩ | hlt
   ·exact absurd h0 (hx wm0)
   ·omega
  ·have e' : S.ι i = some (b, wm1) := by rw [← upd_other S.ι id i p hi]; exact e
   obtain ⟨⟨g1, hg1⟩, hle⟩ := r i wm1 e'
   exact ⟨⟨g1, by show (S.H.set id _)[i]? = _; rw [List.getElem?_set_ne (Ne.symm hi)]; exact hg1⟩, hle⟩
 tok := fun i g0 h => by
  have hi : i ≠ id := by rintro rfl; rw [hid] at h; cases h
  refine ⟨g0, by show (S.H.set id _)[i]? = _; rw [List.getElem?_set_ne (Ne.symm hi)]; exact h, Nat.le_refl _, fun _ => ⟨upd_other _ _ _ _ hi, fun b1 wm1 C t h1 hC => ⟨C, t, ?_, rfl⟩⟩⟩
  show w'.heap[b1]? = _
  rw [hsame b1 (fun wm e => hi (hR.inj i id b1 wm1 wm h1 e)) (hR.block h1)]; exact hC
 mtok := fun i g0 c0 h => by
  by_cases hi : i = id
  ·subst hi
   rw [hid] at h; cases h
   refine ⟨B', g', by show (S.H.set i _)[i]? = _; simp [(List.getElem?_eq_some_iff.1 hid).1], hB', hg, fun e => ?_⟩
   obtain ⟨k1, k2, k3⟩ := hk e
   exact ⟨k1, by show upd _ _ _ i = _; rw [upd_same]; exact k2, k3⟩
  ·refine ⟨_, g0, by show (S.H.set id _)[i]? = _; rw [List.getElem?_set_ne (Ne.symm hi)]; exact h, rfl, Nat.le_refl _, fun _ => ⟨⟨c0, rfl⟩, upd_other _ _ _ _ hi, fun b1 wm1 C t h1 hC => ⟨C, t, ?_, rfl⟩⟩⟩
   show w'.heap[b1]? = _
   rw [hsame b1 (fun wm e => hi (hR.inj i id b1 wm1 wm h1 e)) (hR.block h1)]; exact hC
 out := fun b x e => hsame b (fun wm => (hR.out b x e).2 id wm) (hR.out b x e).1
 rest := hos
theorem Rel.mrow {S : Sit} (hR : Rel S) {w' : World} {id g g' : Nat} {c : List AV} {B' : Blk} {nb wm' : Nat} (hid : S.H[id]? = some (.mrow g c)) (hB' : B'.mgen = some g') (hg : g ≤ g')
  (hsame : ∀ b, (∀ wm, S.ι id ≠ some (b, wm)) → b < S.w.heap.size → w'.heap[b]? = S.w.heap[b]?)
  (hk : g' = g → (∃ c1, B' = .mrow g c1) ∧ some (nb, wm') = S.ι id ∧ ∀ b wm C t, S.ι id = some (b, wm) → S.w.heap[b]? = some (.cells C t (0, 0)) → ∃ C' t', w'.heap[b]? = some (.cells C' t' (0, 0)) ∧ C'.size = C.size)
  (hnb : (∃ wm0, S.ι id = some (nb, wm0)) ∨ S.w.heap.size ≤ nb)
  (hnew : BlkRel ⟨S.H.set id B', upd S.ι id (some (nb, wm')), w'⟩ nb wm' B') (hos : Rest S.w w' := by exact ⟨rfl, rfl⟩) :
  Rel ⟨S.H.set id B', upd S.ι id (some (nb, wm')), w'⟩ where
 blk := fun i b1 wm1 e => by
  by_cases hi : i = id
  ·subst hi
   have e' : some (nb, wm') = some (b1, wm1) := by rw [← upd_same S.ι i (some (nb, wm'))]; exact e
   cases e'
   exact ⟨B', by show (S.H.set i _)[i]? = _; simp [(List.getElem?_eq_some_iff.1 hid).1], hnew⟩
  ·have e' : S.ι i = some (b1, wm1) := by rw [← upd_other S.ι id i (some (nb, wm')) hi]; exact e
   obtain ⟨B0, h0, hr⟩ := hR.blk i b1 wm1 e'
   exact ⟨B0, by show (S.H.set id _)[i]? = _; rw [List.getElem?_set_ne (Ne.symm hi)]; exact h0,
    hr.ev (Ev.mrow hR hid hB' hg hsame hk (fun nb1 wm1 h1 => by cases h1; exact hnb) hos) (hsame b1 (fun wm e => hi (hR.inj i id b1 wm1 wm e' e)) (hR.block e'))⟩
 inj := fun i j b wm1 wm2 hi hj => by
  have key : ∀ j wm2, j ≠ id → upd S.ι id (some (nb, wm')) j = some (nb, wm2) → False := by
   intro j wm2 hj e
   rw [upd_other _ _ _ _ hj] at e
   rcases hnb with ⟨wm3, h3⟩ | hlt
   ·exact hj (hR.inj j id nb wm2 wm3 e h3)
   ·exact absurd (hR.block e) (by omega)
  have hi' : upd S.ι id (some (nb, wm')) i = some (b, wm1) := hi
  have hj' : upd S.ι id (some (nb, wm')) j = some (b, wm2) := hj
  by_cases h1 : i = id
  ·by_cases h2 : j = id
   ·rw [h1, h2]
   ·subst h1; rw [upd_same] at hi'; cases hi'
    exact (key j wm2 h2 hj').elim
  ·by_cases h2 : j = id
   ·subst h2; rw [upd_same] at hj'; cases hj'
    exact (key i wm1 h1 hi').elim
   ·rw [upd_other _ _ _ _ h1] at hi'; rw [upd_other _ _ _ _ h2] at hj'
    exact hR.inj i j b wm1 wm2 hi' hj'
 out := fun b x e => by
  obtain ⟨h1, h2⟩ := hR.out b x e
  refine ⟨lt_of_same (hsame b (fun wm => h2 id wm) h1) h1, fun i wm1 h => ?_⟩
  have h' : upd S.ι id (some (nb, wm')) i = some (b, wm1) := h
  by_cases hi : i = id
  ·subst hi; rw [upd_same] at h'; cases h'
   rcases hnb with ⟨wm2, h3⟩ | hlt
   ·exact h2 _ _ h3
   ·omega
  ·rw [upd_other _ _ _ _ hi] at h'; exact h2 _ _ h'
omit [Outer] in
theorem notRow.lt {H : List Blk} {id : Nat} (h : notRow H id) : id < H.length := by
 obtain ⟨B, hB, _⟩ := h
 exact (List.getElem?_eq_some_iff.1 hB).1
omit [Outer] in
theorem Non.grow {S : Sit} {w' : World} {H' : List Blk} {ι' : Nat → Option (Nat × Nat)} (hι : ∀ id, id < S.H.length → ι' id = S.ι id) : Non S ⟨H', ι', w'⟩ :=
 fun id hn h => (hι id hn.lt).trans h
omit [Outer] in
theorem Non.alloc {S : Sit} {w' : World} {H' : List Blk} {p : Option (Nat × Nat)} : Non S ⟨H', upd S.ι S.H.length p, w'⟩ :=
 Non.grow fun id hlt => upd_other _ _ _ _ (by omega)
omit [Outer] in
theorem Non.same {S : Sit} {w' : World} {H' : List Blk} : Non S ⟨H', S.ι, w'⟩ := fun _ _ h => h
omit [Outer] in
theorem Non.row {S : Sit} {w' : World} {H' : List Blk} {id g : Nat} {p : Option (Nat × Nat)} (hid : S.H[id]? = some (.row g)) : Non S ⟨H', upd S.ι id p, w'⟩ :=
 fun i hn h => by
  obtain ⟨B, hB, hr⟩ := hn
  have hne : i ≠ id := by rintro rfl; rw [hid] at hB; cases hB; simp [Blk.isRow] at hr
  show upd _ _ _ i = _
  rw [upd_other _ _ _ _ hne]; exact h
omit [Outer] in
theorem Non.mrow {S : Sit} {w' : World} {H' : List Blk} {id g : Nat} {c : List AV} {p : Option (Nat × Nat)} (hid : S.H[id]? = some (.mrow g c)) : Non S ⟨H', upd S.ι id p, w'⟩ :=
 fun i hn h => by
  obtain ⟨B, hB, hr⟩ := hn
  have hne : i ≠ id := by rintro rfl; rw [hid] at hB; cases hB; simp [Blk.isRow] at hr
  show upd _ _ _ i = _
  rw [upd_other _ _ _ _ hne]; exact h
theorem Ev.place {S : Sit} (hR : Rel S) {w' : World} {id wm : Nat} {o : Obj} {B : Blk} (hB : S.H[id]? = some B) (hn : B.isRow = false) (hi : S.ι id = none)
  (hw : w'.heap = S.w.heap.push o) (hos : Rest S.w w' := by exact ⟨rfl, rfl⟩) : Ev S ⟨S.H, upd S.ι id (some (S.w.heap.size, wm)), w'⟩ := by
 have hwb : ∀ b, b < S.w.heap.size → w'.heap[b]? = S.w.heap[b]? := fun b hb => by rw [hw, Array.getElem?_push_lt hb]; simp [hb]
 have key : ∀ i p, S.ι i = some p → upd S.ι id (some (S.w.heap.size, wm)) i = some p := fun i p e => by
  rw [upd_other _ _ _ _ (by rintro rfl; rw [hi] at e; cases e)]; exact e
 refine ⟨fun i h => ⟨h, fun b wm0 e => ⟨wm0, key i _ e⟩⟩, fun b lim h => ?_, fun i g0 h => ⟨g0, h, Nat.le_refl _, fun _ => ⟨?_, fun b wm0 C t e hC => ⟨C, t, ?_, rfl⟩⟩⟩,
  fun i g0 c0 h => ⟨_, g0, h, rfl, Nat.le_refl _, fun _ => ⟨⟨c0, rfl⟩, ?_, fun b wm0 C t e hC => ⟨C, t, ?_, rfl⟩⟩⟩, fun b x e => hwb b (hR.out b x e).1, hos⟩
 ·have hb := h.lt
  obtain ⟨C, t, f, a, hl, r, ro⟩ := h
  refine ⟨⟨C, t, f, by show w'.heap[b]? = _; rw [hwb b hb]; exact a, hl, fun i wm1 e => ?_, ro⟩, fun j _ => heap_cell (hwb b hb) j⟩
  have e' : upd S.ι id (some (S.w.heap.size, wm)) i = some (b, wm1) := e
  by_cases h : i = id
  ·subst h; rw [upd_same] at e'; cases e'; omega
  ·rw [upd_other _ _ _ _ h] at e'; exact r i wm1 e'
 ·have hne : i ≠ id := by rintro rfl; rw [hB] at h; cases h; simp [Blk.isRow] at hn
  exact upd_other _ _ _ _ hne
 ·show w'.heap[b]? = _
  rw [hwb b (hR.block e)]; exact hC
 ·have hne : i ≠ id := by rintro rfl; rw [hB] at h; cases h; simp [Blk.isRow] at hn
  exact upd_other _ _ _ _ hne
 ·show w'.heap[b]? = _
  rw [hwb b (hR.block e)]; exact hC
theorem Rel.place {S : Sit} (hR : Rel S) {w' : World} {id wm : Nat} {o : Obj} {B : Blk} (hB : S.H[id]? = some B) (hn : B.isRow = false) (hi : S.ι id = none)
  (hw : w'.heap = S.w.heap.push o) (hB' : BlkRel ⟨S.H, upd S.ι id (some (S.w.heap.size, wm)), w'⟩ S.w.heap.size wm B) (hos : Rest S.w w' := by exact ⟨rfl, rfl⟩) :
  Rel ⟨S.H, upd S.ι id (some (S.w.heap.size, wm)), w'⟩ where
 blk := fun i b wm0 e => by
  have e' : upd S.ι id (some (S.w.heap.size, wm)) i = some (b, wm0) := e
  by_cases h : i = id
  ·subst h; rw [upd_same] at e'; cases e'; exact ⟨B, hB, hB'⟩
  ·rw [upd_other _ _ _ _ h] at e'
   obtain ⟨B0, h0, hr⟩ := hR.blk i b wm0 e'
   exact ⟨B0, h0, hr.ev (Ev.place hR hB hn hi hw hos) (by show w'.heap[b]? = _; rw [hw, Array.getElem?_push_lt (hR.block e')]; simp [hR.block e'])⟩
 inj := fun i j b wm1 wm2 e1 e2 => by
  have e1' : upd S.ι id (some (S.w.heap.size, wm)) i = some (b, wm1) := e1
  have e2' : upd S.ι id (some (S.w.heap.size, wm)) j = some (b, wm2) := e2
  by_cases h1 : i = id
  ·by_cases h2 : j = id
   ·rw [h1, h2]
   ·subst h1; rw [upd_same] at e1'; cases e1'
    rw [upd_other _ _ _ _ h2] at e2'; exact absurd (hR.block e2') (by omega)
  ·by_cases h2 : j = id
   ·subst h2; rw [upd_same] at e2'; cases e2'
    rw [upd_other _ _ _ _ h1] at e1'; exact absurd (hR.block e1') (by omega)
   ·rw [upd_other _ _ _ _ h1] at e1'; rw [upd_other _ _ _ _ h2] at e2'
    exact hR.inj i j b wm1 wm2 e1' e2'
 out := fun b x e => by
  obtain ⟨h1, h2⟩ := hR.out b x e
  refine ⟨by show b < w'.heap.size; rw [hw, Array.size_push]; omega, fun i wm1 h => ?_⟩
  have h' : upd S.ι id (some (S.w.heap.size, wm)) i = some (b, wm1) := h
  by_cases hi : i = id
  ·subst hi; rw [upd_same] at h'; cases h'; omega
  ·rw [upd_other _ _ _ _ hi] at h'; exact h2 _ _ h'
def cutι (ι : Nat → Option (Nat × Nat)) (n : Nat) : Nat → Option (Nat × Nat) := fun i => if i < n then ι i else none
def Tail.under (n : Nat) : Tail → Prop
 | .unk => True
 | .full => True
 | .own id _ _ => id < n
mutual
def AV.under (n : Nat) : AV → Prop
 | .lit _ => True
 | .agg cells => AV.unders n cells
 | .tup vs => AV.unders n vs
 | .ptr id _ => id < n
 | .eptr cells => AV.unders n cells
 | .sl _ cells tail => AV.unders n cells ∧ tail.under n
 | .hsl id _ _ _ => id < n
 | .mp id => id < n
 | .fn _ first captured => AV.unders n first ∧ AV.unders n captured
 | .yld id => id < n
 | .iface _ v => v.under n
 | .msl id _ _ _ => id < n
 | .mptr id _ _ => id < n
 | .mpx => True
def AV.unders (n : Nat) : List AV → Prop
 | [] => True
 | a :: as => a.under n ∧ AV.unders n as
end
theorem Fix.cut {S : Sit} {n b lim : Nat} (h : Fix S b lim) : Fix ⟨S.H.take n, cutι S.ι n, S.w⟩ b lim := by
 obtain ⟨C, t, f, a, hl, r, ro⟩ := h
 refine ⟨C, t, f, a, hl, fun id wm e => ?_, ro⟩
 have e' : cutι S.ι n id = some (b, wm) := e
 unfold cutι at e'
 split at e'
 ·rename_i hlt
  obtain ⟨⟨g, hg⟩, hle⟩ := r id wm e'
  exact ⟨⟨g, by show (S.H.take n)[id]? = _; rw [List.getElem?_take_of_lt hlt]; exact hg⟩, hle⟩
 ·cases e'
omit [Outer] in
theorem notRow.cut {H : List Blk} {id n : Nat} (h : notRow H id) (hlt : id < n) : notRow (H.take n) id := by
 obtain ⟨B, hB, hr⟩ := h
 exact ⟨B, by rw [List.getElem?_take_of_lt hlt]; exact hB, hr⟩
omit [Outer] in
theorem TailRel.cut {S : Sit} {n : Nat} {tail : Tail} {base : Option Addr} {len cap k : Nat}
  (x : TailRel S tail base len cap k) (hb : tail.under n) : TailRel ⟨S.H.take n, cutι S.ι n, S.w⟩ tail base len cap k := by
 cases tail with
 | unk => trivial
 | full => exact x
 | own id g sz =>
  have hlt : id < n := hb
  obtain ⟨hn, g0, h0, hle, hx⟩ := x
  have hc : cutι S.ι n id = S.ι id := by simp [cutι, hlt]
  refine ⟨hn, g0, by show (S.H.take n)[id]? = _; rw [List.getElem?_take_of_lt hlt]; exact h0, hle, fun hg => ?_⟩
  rcases hx hg with a | ⟨b, o, C, t, hb, hi, hC, hs⟩
  ·exact .inl a
  ·exact .inr ⟨b, o, C, t, hb, hc.trans hi, hC, hs⟩
omit [Outer] in
theorem MRef.cut {S : Sit} {n id gen : Nat} {K : Nat → Nat → Prop} (x : MRef S id gen K) (hb : id < n) : MRef ⟨S.H.take n, cutι S.ι n, S.w⟩ id gen K := by
 obtain ⟨B, g, hB, hm, hle, k⟩ := x
 refine ⟨B, g, by show (S.H.take n)[id]? = _; rw [List.getElem?_take_of_lt hb]; exact hB, hm, hle, fun hg hc => ?_⟩
 obtain ⟨b, wm, C, t, hi, hC, hK⟩ := k hg hc
 exact ⟨b, wm, C, t, by show cutι S.ι n id = _; simp [cutι, hb, hi], hC, hK⟩
mutual
theorem VRel.cut {S : Sit} {n : Nat} : ∀ (a : AV) (c : Value), a.under n → VRel S a c → VRel ⟨S.H.take n, cutι S.ι n, S.w⟩ a c
 | .lit v, c, _, x => by simpa [VRel] using x
 | .agg cells, c, hb, x => by
  simp only [VRel, AV.under] at x hb ⊢
  obtain ⟨C, hc, hr⟩ := x
  exact ⟨C, hc, VRels.cut cells _ hb hr⟩
 | .tup vs, c, hb, x => by
  simp only [VRel, AV.under] at x hb ⊢
  obtain ⟨C, hc, hr⟩ := x
  exact ⟨C, hc, VRels.cut vs _ hb hr⟩
 | .ptr id off, c, hb, x => by
  simp only [VRel, AV.under] at x hb ⊢
  obtain ⟨b, wm, hi, hn, hc⟩ := x
  exact ⟨b, wm, by simp [cutι, hb, hi], hn.cut hb, hc⟩
 | .eptr cells, c, hb, x => by
  simp only [VRel, AV.under] at x hb ⊢
  obtain ⟨b, o, hc, hf, hr⟩ := x
  exact ⟨b, o, hc, hf.cut, VRow.cut b cells o hb hr⟩
 | .sl len cells tail, c, hb, x => by
  simp only [VRel, AV.under] at x hb ⊢
  obtain ⟨base, cap, hc, hle, hcells, ht⟩ := x
  refine ⟨base, cap, hc, hle, ?_, ht.cut hb.2⟩
  rcases hcells with hcells | ⟨b, o, hb', hf, hr⟩
  ·exact .inl hcells
  ·exact .inr ⟨b, o, hb', hf.cut, VRow.cut b cells o hb.1 hr⟩
 | .hsl id off len cap, c, hb, x => by
  simp only [VRel, AV.under] at x hb ⊢
  obtain ⟨b, wm, hi, hn, hc⟩ := x
  exact ⟨b, wm, by simp [cutι, hb, hi], hn.cut hb, hc⟩
 | .mp id, c, hb, x => by
  simp only [VRel, AV.under] at x hb ⊢
  obtain ⟨b, wm, hi, hn, hc⟩ := x
  exact ⟨b, wm, by simp [cutι, hb, hi], hn.cut hb, hc⟩
 | .fn f first captured, c, hb, x => by
  simp only [VRel, AV.under] at x hb ⊢
  obtain ⟨F, C, hc, h1, h2⟩ := x
  exact ⟨F, C, hc, VRels.cut first _ hb.1 h1, VRels.cut captured _ hb.2 h2⟩
 | .yld id, c, hb, x => by
  simp only [VRel, AV.under] at x hb ⊢
  obtain ⟨b, wm, hi, hn, hc⟩ := x
  exact ⟨b, wm, by simp [cutι, hb, hi], hn.cut hb, hc⟩
 | .iface t v, c, hb, x => by
  simp only [VRel, AV.under] at x hb ⊢
  obtain ⟨y, hc, hr⟩ := x
  exact ⟨y, hc, VRel.cut v y hb hr⟩
 | .msl id gen len sz, c, hb, x => by
  simp only [VRel, AV.under] at x hb ⊢
  obtain ⟨base, cap, hc, hle, hm⟩ := x
  exact ⟨base, cap, hc, hle, hm.cut hb⟩
 | .mptr id gen off, c, hb, x => by
  simp only [VRel, AV.under] at x hb ⊢
  obtain ⟨b, o, hc, hm⟩ := x
  exact ⟨b, o, hc, hm.cut hb⟩
 | .mpx, c, hb, x => by
  simp only [VRel] at x ⊢
  exact x
theorem VRels.cut {S : Sit} {n : Nat} : ∀ (as : List AV) (cs : List Value), AV.unders n as → VRels S as cs → VRels ⟨S.H.take n, cutι S.ι n, S.w⟩ as cs
 | [], [], _, x => by simp [VRels]
 | [], _ :: _, _, x => by simp [VRels] at x
 | _ :: _, [], _, x => by simp [VRels] at x
 | a :: as, c :: cs, hb, x => by
  simp only [VRels, AV.unders] at x hb ⊢
  exact ⟨VRel.cut a c hb.1 x.1, VRels.cut as cs hb.2 x.2⟩
theorem VRow.cut {S : Sit} {n : Nat} (b : Nat) : ∀ (as : List AV) (o : Nat), AV.unders n as → VRow S b o as → VRow ⟨S.H.take n, cutι S.ι n, S.w⟩ b o as
 | [], o, _, _ => by simp [VRow]
 | a :: as, o, hb, x => by
  simp only [VRow, AV.unders] at x hb ⊢
  obtain ⟨⟨c, hc, hr⟩, x2⟩ := x
  exact ⟨⟨c, hc, VRel.cut a c hb.1 hr⟩, VRow.cut b as (o + 1) hb.2 x2⟩
end
theorem VarsRel.cut {S : Sit} {n : Nat} {vars : Trie AV} {tmps : Array Value} (x : VarsRel S vars tmps)
  (hb : ∀ t v, get vars t = some v → v.under n) : VarsRel ⟨S.H.take n, cutι S.ι n, S.w⟩ vars tmps := by
 intro t v hg
 obtain ⟨c, hc, hr⟩ := x t v hg
 exact ⟨c, hc, VRel.cut v c (hb t v hg) hr⟩
def Blk.under (n : Nat) : Blk → Prop
 | .box cells _ => AV.unders n cells
 | .row _ => True
 | .mrow _ cells => AV.unders n cells
 | .map _ es => AV.unders n (es.map (·.2))
 | .loop l => (∀ t v, get l.vars t = some v → v.under n) ∧ l.defers < n
 | .defd => True
 | .iterS _ _ => True
 | .spent => True
 | .obj _ => True
omit [Outer] in
theorem AV.unders_mem {n : Nat} : ∀ {l : List AV}, AV.unders n l ↔ ∀ a ∈ l, a.under n
 | [] => by simp [AV.unders]
 | a :: l => by simp [AV.unders, AV.unders_mem (l := l)]
theorem BlkRel.cut {S : Sit} {n b wm : Nat} {B : Blk} (x : BlkRel S b wm B) (hb : B.under n) : BlkRel ⟨S.H.take n, cutι S.ι n, S.w⟩ b wm B := by
 cases B with
 | box cells t => obtain ⟨C, h1, h2⟩ := x; exact ⟨C, h1, VRels.cut _ _ hb h2⟩
 | row g => exact x
 | mrow g cells => obtain ⟨C, t, h1, h2⟩ := x; exact ⟨C, t, h1, VRels.cut _ _ hb h2⟩
 | map sh es =>
  obtain ⟨E, c, h1, h2⟩ := x
  refine ⟨E, c, h1, ?_, h2.keys, h2.nodup, h2.stamps, h2.born⟩
  obtain ⟨es2, hp, k1, k2⟩ := h2.ents
  refine ⟨es2, hp, k1, VRels.cut _ _ ?_ k2⟩
  rw [AV.unders_mem]; intro a ha; exact AV.unders_mem.1 hb a ((hp.map _).mem_iff.1 ha)
 | loop l =>
  obtain ⟨L, h1, h2⟩ := x
  refine ⟨L, h1, ⟨h2.state, h2.pending, h2.params, h2.assign, h2.body, h2.size, h2.vars.cut hb.1, ?_⟩⟩
  obtain ⟨wm', hi, hn⟩ := h2.defers
  exact ⟨wm', by show cutι S.ι n _ = _; simp [cutι, hb.2, hi], hn.cut hb.2⟩
 | defd => exact x
 | iterS s pos => exact x
 | spent => exact x
 | obj o => exact x
theorem Rel.cut {S : Sit} {n : Nat} (hR : Rel S) (hb : ∀ B ∈ S.H.take n, B.under n) : Rel ⟨S.H.take n, cutι S.ι n, S.w⟩ where
 blk := fun id b wm e => by
  have e' : cutι S.ι n id = some (b, wm) := e
  unfold cutι at e'
  split at e'
  ·rename_i hlt
   obtain ⟨B, hB, hr⟩ := hR.blk id b wm e'
   have hB' : (S.H.take n)[id]? = some B := by rw [List.getElem?_take_of_lt hlt]; exact hB
   exact ⟨B, hB', hr.cut (hb B (List.mem_of_getElem? hB'))⟩
  ·cases e'
 inj := fun i j b wm wm' ei ej => by
  have ei' : cutι S.ι n i = some (b, wm) := ei
  have ej' : cutι S.ι n j = some (b, wm') := ej
  unfold cutι at ei' ej'
  split at ei' <;> split at ej' <;> first | exact hR.inj i j b wm wm' ei' ej' | (cases ei') | (cases ej')
 out := fun b x e => by
  obtain ⟨h1, h2⟩ := hR.out b x e
  refine ⟨h1, fun i wm h => ?_⟩
  have h' : cutι S.ι n i = some (b, wm) := h
  unfold cutι at h'
  split at h'
  ·exact h2 _ _ h'
  ·cases h'
theorem Ev.cut {S S' : Sit} (h : Ev S S') : Ev S ⟨S'.H.take S.H.length, cutι S'.ι S.H.length, S'.w⟩ where
 ptr := fun id hn => by
  obtain ⟨hn', e⟩ := h.ptr id hn
  have hlt := hn.lt
  refine ⟨hn'.cut hlt, fun b wm x => ?_⟩
  obtain ⟨wm', y⟩ := e b wm x
  exact ⟨wm', by show cutι S'.ι _ id = _; simp [cutι, hlt, y]⟩
 fix := fun b lim x => by
  obtain ⟨a, e⟩ := h.fix b lim x
  exact ⟨a.cut, e⟩
 tok := fun id g0 x => by
  obtain ⟨g1, a, hle, e⟩ := h.tok id g0 x
  have hlt := (List.getElem?_eq_some_iff.1 x).1
  refine ⟨g1, by show (S'.H.take S.H.length)[id]? = _; rw [List.getElem?_take_of_lt hlt]; exact a, hle, fun hg => ?_⟩
  obtain ⟨e1, k1⟩ := e hg
  exact ⟨by show cutι S'.ι _ id = _; simp [cutι, hlt, e1], k1⟩
 mtok := fun id g0 c0 x => by
  obtain ⟨B, g1, a, hm, hle, e⟩ := h.mtok id g0 c0 x
  have hlt := (List.getElem?_eq_some_iff.1 x).1
  refine ⟨B, g1, by show (S'.H.take S.H.length)[id]? = _; rw [List.getElem?_take_of_lt hlt]; exact a, hm, hle, fun hg => ?_⟩
  obtain ⟨e0, e1, k1⟩ := e hg
  exact ⟨e0, by show cutι S'.ι _ id = _; simp [cutι, hlt, e1], k1⟩
 out := h.out
 rest := h.rest
omit [Outer] in
theorem Non.cut {S S' : Sit} (h : Non S S') : Non S ⟨S'.H.take S.H.length, cutι S'.ι S.H.length, S'.w⟩ := fun id hn x => by
 show cutι S'.ι _ id = none
 simp [cutι, hn.lt, h id hn x]
end
end Go.Vm

namespace Go.Vm
variable [Outer]
variable {P : Program}
def tsz (P : Program) (t : TypeId) : Option Nat := (P.info? t).map (·.size)
def tz (P : Program) (t : TypeId) : Option Value := (P.info? t).bind (·.zero)
def tagg (P : Program) (t : TypeId) : Option Bool := (P.underlying t).map fun | .struct _ | .array _ _ => true | _ => false
omit [Outer] in
theorem run_tsz {t n : Nat} (h : tsz P t = some n) (w : World) : (sizeOf t).run P w = .ok n w := by
 unfold tsz at h
 cases hi : P.info? t with
 | none => simp [hi] at h
 | some i => simp [hi] at h; simp [sizeOf, typeInfo, hi, h]
omit [Outer] in
theorem run_tz {t : Nat} {v : Value} (h : tz P t = some v) (w : World) : (zeroValue t).run P w = .ok v w := by
 unfold tz at h
 cases hi : P.info? t with
 | none => simp [hi] at h
 | some i => simp [hi] at h; simp [zeroValue, typeInfo, hi, h]
omit [Outer] in
theorem run_tagg {t : Nat} {b : Bool} (h : tagg P t = some b) (w : World) : (isAgg t).run P w = .ok b w := by
 unfold tagg at h
 cases hu : P.underlying t with
 | none => simp [hu] at h
 | some d => simp only [hu, Option.map_some, Option.some.injEq] at h; subst h; unfold isAgg; rw [Sem.run_bind, run_underlying hu]; cases d <;> rfl
theorem VRels.length {S : Sit} : ∀ {as : List AV} {cs : List Value}, VRels S as cs → as.length = cs.length
 | [], [], _ => rfl
 | [], _ :: _, x => by simp [VRels] at x
 | _ :: _, [], x => by simp [VRels] at x
 | a :: as, c :: cs, x => by simp only [VRels] at x; simp [VRels.length x.2]
theorem VRels.append {S : Sit} : ∀ {as : List AV} {cs : List Value} {as' : List AV} {cs' : List Value}, VRels S as cs → VRels S as' cs' → VRels S (as ++ as') (cs ++ cs')
 | [], [], _, _, _, y => y
 | [], _ :: _, _, _, x, _ => by simp [VRels] at x
 | _ :: _, [], _, _, x, _ => by simp [VRels] at x
 | a :: as, c :: cs, _, _, x, y => by simp only [VRels] at x; exact ⟨x.1, VRels.append x.2 y⟩
theorem VRels.take {S : Sit} : ∀ {as : List AV} {cs : List Value} (n : Nat), VRels S as cs → VRels S (as.take n) (cs.take n)
 | [], [], n, _ => by simp [VRels]
 | [], _ :: _, _, x => by simp [VRels] at x
 | _ :: _, [], _, x => by simp [VRels] at x
 | a :: as, c :: cs, 0, x => by simp [VRels]
 | a :: as, c :: cs, n + 1, x => by simp only [VRels] at x; exact ⟨x.1, VRels.take n x.2⟩
theorem VRels.drop {S : Sit} : ∀ {as : List AV} {cs : List Value} (n : Nat), VRels S as cs → VRels S (as.drop n) (cs.drop n)
 | [], [], n, _ => by simp [VRels]
 | [], _ :: _, _, x => by simp [VRels] at x
 | _ :: _, [], _, x => by simp [VRels] at x
 | a :: as, c :: cs, 0, x => x
 | a :: as, c :: cs, n + 1, x => by simp only [VRels] at x; exact VRels.drop n x.2
theorem VRels.get {S : Sit} : ∀ {as : List AV} {cs : List Value} {i : Nat} {a : AV}, VRels S as cs → as[i]? = some a → ∃ c, cs[i]? = some c ∧ VRel S a c
 | [], [], i, a, _, h => by simp at h
 | [], _ :: _, _, _, x, _ => by simp [VRels] at x
 | _ :: _, [], _, _, x, _ => by simp [VRels] at x
 | a :: as, c :: cs, 0, a', x, h => by simp only [VRels] at x; simp at h; subst h; exact ⟨c, rfl, x.1⟩
 | a :: as, c :: cs, i + 1, a', x, h => by simp only [VRels] at x; simp at h; simpa using VRels.get x.2 h
theorem VRels.map_lit {S : Sit} : ∀ (cs : List Value), VRels S (cs.map .lit) cs
 | [] => by simp [VRels]
 | c :: cs => by simp [VRels, VRel, VRels.map_lit cs]
theorem VRow.vals {S : Sit} (b : Nat) : ∀ {as : List AV} {o : Nat}, VRow S b o as → ∃ cs : List Value, VRels S as cs ∧ ∀ i c, cs[i]? = some c → S.w.cell? ⟨b, o + i, none⟩ = some c
 | [], o, _ => ⟨[], by simp [VRels], by simp⟩
 | a :: as, o, x => by
  simp only [VRow] at x
  obtain ⟨⟨c, hc, hr⟩, x2⟩ := x
  obtain ⟨cs, h1, h2⟩ := VRow.vals b x2
  refine ⟨c :: cs, ⟨hr, h1⟩, fun i d hd => ?_⟩
  cases i with
  | zero => simp at hd; subst hd; exact hc
  | succ i => simp at hd; have := h2 i d hd; rw [show o + (i + 1) = o + 1 + i by omega]; exact this
theorem VRow.of_vals {S : Sit} (b : Nat) : ∀ {as : List AV} {cs : List Value} {o : Nat}, VRels S as cs → (∀ i c, cs[i]? = some c → S.w.cell? ⟨b, o + i, none⟩ = some c) → VRow S b o as
 | [], [], o, _, _ => by simp [VRow]
 | [], _ :: _, _, x, _ => by simp [VRels] at x
 | _ :: _, [], _, x, _ => by simp [VRels] at x
 | a :: as, c :: cs, o, x, h => by
  simp only [VRels] at x
  simp only [VRow]
  exact ⟨⟨c, h 0 c rfl, x.1⟩, VRow.of_vals b x.2 fun i d hd => by rw [show o + 1 + i = o + (i + 1) by omega]; exact h (i + 1) d (by simpa using hd)⟩
theorem VRow.drop {S : Sit} (b : Nat) : ∀ {as : List AV} {o : Nat} (n : Nat), VRow S b o as → VRow S b (o + n) (as.drop n)
 | [], o, n, _ => by simp [VRow]
 | a :: as, o, 0, x => x
 | a :: as, o, n + 1, x => by simp only [VRow] at x; have := VRow.drop b n x.2; rw [show o + (n + 1) = o + 1 + n by omega]; exact this
theorem VRow.take {S : Sit} (b : Nat) : ∀ {as : List AV} {o : Nat} (n : Nat), VRow S b o as → VRow S b o (as.take n)
 | [], o, n, _ => by simp [VRow]
 | a :: as, o, 0, x => by simp [VRow]
 | a :: as, o, n + 1, x => by simp only [VRow, List.take_succ_cons] at x ⊢; exact ⟨x.1, VRow.take b n x.2⟩
omit [Outer] in
theorem add_addr (b o n : Nat) : (Addr.mk b o none).add n = ⟨b, o + n, none⟩ := by
 unfold Addr.add
 split
 ·rename_i h; subst h; rfl
 ·rfl
omit [Outer] in
theorem run_loadCellsFrom {w : World} {b o : Nat} {cs : List Value} (h : ∀ i c, cs[i]? = some c → w.cell? ⟨b, o + i, none⟩ = some c) :
  ∀ (n i : Nat) (acc : Array Value), i + n ≤ cs.length → (loadCellsFrom ⟨b, o, none⟩ i n acc).run P w = .ok (acc ++ ((cs.drop i).take n).toArray) w := by
 intro n
 induction n with
 | zero => intro i acc _; simp [loadCellsFrom]
 | succ n ih =>
  intro i acc hle
  have hi : i < cs.length := by omega
  have hc := h i cs[i] (by simp [hi])
  have e : (load ((Addr.mk b o none).add i)).run P w = .ok cs[i] w := by
   rw [add_addr, run_load]; simp only [hc]
  have e2 : (cs.drop i).take (n + 1) = cs[i] :: (cs.drop (i + 1)).take n := by
   rw [List.drop_eq_getElem_cons hi, List.take_succ_cons]
  rw [loadCellsFrom, Sem.run_bind, e]
  simp only [Result.andThen_ok]
  rw [ih (i + 1) _ (by omega), e2]
  simp
omit [Outer] in
theorem run_loadCells {w : World} {b o n : Nat} {cs : List Value} (h : ∀ i c, cs[i]? = some c → w.cell? ⟨b, o + i, none⟩ = some c) (hn : n ≤ cs.length) :
  (loadCells ⟨b, o, none⟩ n).run P w = .ok (cs.take n).toArray w := by
 unfold loadCells
 rw [run_loadCellsFrom h n 0 #[] (by omega)]
 simp
def loadA (P : Program) (t : TypeId) (cells : List AV) : Option AV :=
 match tagg P t, tsz P t with
 | some true, some n => if n ≤ cells.length then some (.agg (cells.take n)) else none
 | some false, _ => cells.head?
 | _, _ => none
theorem run_loadA {S : Sit} {t : Nat} {cells : List AV} {v : AV} {cs : List Value} {b o : Nat} (h : loadA P t cells = some v)
  (hr : VRels S cells cs) (hc : ∀ i c, cs[i]? = some c → S.w.cell? ⟨b, o + i, none⟩ = some c) :
  ∃ c, (loadVar t ⟨b, o, none⟩).run P S.w = .ok c S.w ∧ VRel S v c := by
 unfold loadA at h
 split at h
 ·rename_i n ha hs
  split at h
  ·rename_i hle
   cases h
   have hl := hr.length
   refine ⟨.agg (cs.take n).toArray, ?_, ?_⟩
   ·unfold loadVar
    rw [Sem.run_bind, run_tagg ha]
    simp only [Result.andThen_ok, if_true]
    rw [Sem.run_bind, run_tsz hs]
    simp only [Result.andThen_ok]
    rw [Sem.run_bind, run_loadCells hc (by omega)]
    rfl
   ·simp only [VRel]; exact ⟨_, rfl, by simpa using hr.take n⟩
  ·cases h
 ·rename_i ha
  cases cells with
  | nil => simp at h
  | cons a as =>
   simp at h; subst h
   obtain ⟨c, hc0, hr0⟩ := hr.get (i := 0) (a := a) rfl
   refine ⟨c, ?_, hr0⟩
   unfold loadVar
   rw [Sem.run_bind, run_tagg ha]
   simp only [Result.andThen_ok, Bool.false_eq_true, if_false]
   have := hc 0 c hc0
   rw [Nat.add_zero] at this
   rw [run_load]
   simp only [this]
 ·cases h
def AV.cellsOf : AV → List AV
 | .agg cells => cells
 | .lit (.agg C) => C.toList.map .lit
 | v => [v]
theorem VRel.cells {S : Sit} {v : AV} {c : Value} (h : VRel S v c) : VRels S v.cellsOf c.cells.toList := by
 cases v with
 | agg cells => simp only [VRel] at h; obtain ⟨C, rfl, hr⟩ := h; exact hr
 | lit x =>
  simp only [VRel] at h; subst h
  cases c <;> first
   | exact VRels.map_lit _
   | simp [AV.cellsOf, Value.cells, VRels, VRel]
 | tup vs => have h' := h; simp only [VRel] at h; obtain ⟨C, rfl, hr⟩ := h; simpa [AV.cellsOf, Value.cells, VRels] using h'
 | ptr id off => have h' := h; simp only [VRel] at h; obtain ⟨b, wm, _, _, rfl⟩ := h; simpa [AV.cellsOf, Value.cells, VRels] using h'
 | eptr cells => have h' := h; simp only [VRel] at h; obtain ⟨b, o, rfl, _⟩ := h; simpa [AV.cellsOf, Value.cells, VRels] using h'
 | sl len cells tail => have h' := h; simp only [VRel] at h; obtain ⟨b, o, rfl, _⟩ := h; simpa [AV.cellsOf, Value.cells, VRels] using h'
 | hsl id off len cap => have h' := h; simp only [VRel] at h; obtain ⟨b, wm, _, _, rfl⟩ := h; simpa [AV.cellsOf, Value.cells, VRels] using h'
 | mp id => have h' := h; simp only [VRel] at h; obtain ⟨b, wm, _, _, rfl⟩ := h; simpa [AV.cellsOf, Value.cells, VRels] using h'
 | fn f a b => have h' := h; simp only [VRel] at h; obtain ⟨F, C, rfl, _⟩ := h; simpa [AV.cellsOf, Value.cells, VRels] using h'
 | yld id => have h' := h; simp only [VRel] at h; obtain ⟨b, wm, _, _, rfl⟩ := h; simpa [AV.cellsOf, Value.cells, VRels] using h'
 | iface t v => have h' := h; simp only [VRel] at h; obtain ⟨x, rfl, _⟩ := h; simpa [AV.cellsOf, Value.cells, VRels] using h'
 | msl id gen len sz => have h' := h; simp only [VRel] at h; obtain ⟨b, o, rfl, _⟩ := h; simpa [AV.cellsOf, Value.cells, VRels] using h'
 | mptr id gen off => have h' := h; simp only [VRel] at h; obtain ⟨b, o, rfl, _⟩ := h; simpa [AV.cellsOf, Value.cells, VRels] using h'
 | mpx => have h' := h; simp only [VRel] at h; obtain ⟨b, rfl⟩ := h; simpa [AV.cellsOf, Value.cells, VRels] using h'
end Go.Vm

namespace Go.Vm
variable [Outer]
variable {P : Program}
def splice {α : Type} (l : List α) (o : Nat) (vs : List α) : List α := l.take o ++ vs ++ l.drop (o + vs.length)
omit [Outer] in
theorem splice_nil {α : Type} (l : List α) (o : Nat) : splice l o [] = l := by simp [splice]
omit [Outer] in
theorem splice_cons {α : Type} (l : List α) (o : Nat) (v : α) (vs : List α) (h : o + (v :: vs).length ≤ l.length) :
  splice (l.set o v) (o + 1) vs = splice l o (v :: vs) := by
 simp only [List.length_cons] at h
 unfold splice
 have e1 : (l.set o v).take (o + 1) = l.take o ++ [v] := by
  rw [List.take_add_one]
  have : (l.set o v)[o]? = some v := by rw [List.getElem?_set_self]; omega
  rw [this, List.take_set_of_le (Nat.le_refl _)]
  rfl
 have e2 : (l.set o v).drop (o + 1 + vs.length) = l.drop (o + (v :: vs).length) := by
  rw [List.drop_set_of_lt (by omega)]
  congr 1
  simp; omega
 rw [e1, e2]
 simp
omit [Outer] in
theorem splice_length {α : Type} (l : List α) (o : Nat) (vs : List α) (h : o + vs.length ≤ l.length) : (splice l o vs).length = l.length := by
 simp [splice]; omega
theorem VRels.splice {S : Sit} {as vs : List AV} {cs us : List Value} (o : Nat) (h : VRels S as cs) (hv : VRels S vs us) : VRels S (Vm.splice as o vs) (Vm.splice cs o us) := by
 unfold Vm.splice
 rw [hv.length]
 exact ((h.take o).append hv).append (h.drop _)
omit [Outer] in
theorem run_storeCells {b o : Nat} {t : TypeId} : ∀ (vs : List Value) (i : Nat) (w : World) (C : Array Value), w.heap[b]? = some (.cells C t (0, 0)) →
  o + i + vs.length ≤ C.size → (∀ v ∈ vs, v.oneCell' = true) →
  ∃ (w' : World) (C' : Array Value), (storeCells ⟨b, o, none⟩ vs i).run P w = .ok () w' ∧ w'.heap.size = w.heap.size ∧ (∀ b', b' ≠ b → w'.heap[b']? = w.heap[b']?) ∧
   w'.heap[b]? = some (.cells C' t (0, 0)) ∧ C'.toList = splice C.toList (o + i) vs ∧ Rest w w'
 | [], i, w, C, hC, _, _ => ⟨w, C, by simp [storeCells], rfl, fun _ _ => rfl, hC, by rw [splice_nil], Rest.refl _⟩
 | v :: vs, i, w, C, hC, hle, hone => by
  simp only [List.length_cons] at hle
  have hv := hone v (by simp)
  have hlt : o + i < C.size := by omega
  have hb : b < w.heap.size := (Array.getElem?_eq_some_iff.1 hC).1
  have hcell : w.cell? ⟨b, o + i, none⟩ = some C[o + i] := by rw [cell_eq, hC]; simp [hlt]
  have hfr : w.frozen? ⟨b, o + i, none⟩ = false := by simp [World.frozen?, hC]
  have hset : (w.setCell ⟨b, o + i, none⟩ v).heap[b]? = some (.cells (C.setIfInBounds (o + i) v) t (0, 0)) := by
   simp only [World.setCell]
   rw [Array.getElem?_modify]
   simp [hC]
  have hs1 : o + (i + 1) + vs.length ≤ (C.setIfInBounds (o + i) v).size := by rw [Array.size_setIfInBounds]; omega
  have hother : ∀ b', b' ≠ b → (w.setCell ⟨b, o + i, none⟩ v).heap[b']? = w.heap[b']? := by
   intro b' hne
   simp only [World.setCell]
   rw [Array.getElem?_modify]
   simp [Ne.symm hne]
  obtain ⟨w', C', hrun, hsz, ho, hb', hC', hre⟩ := run_storeCells vs (i + 1) (w.setCell ⟨b, o + i, none⟩ v) (C.setIfInBounds (o + i) v) hset hs1 (fun u hu => hone u (by simp [hu]))
  refine ⟨w', C', ?_, ?_, fun b1 hne => (ho b1 hne).trans (hother b1 hne), hb', ?_, Rest.trans ⟨rfl, rfl⟩ hre⟩
  ·rw [storeCells, Sem.run_bind, add_addr, run_store P w _ _ _ hv]
   simp only [hcell, hfr]
   exact hrun
  ·rw [hsz]; simp [World.setCell]
  ·rw [hC', Array.toList_setIfInBounds, show o + (i + 1) = o + i + 1 by omega, splice_cons _ _ _ _ (by simp only [List.length_cons, Array.length_toList]; omega)]
def AV.one : AV → Bool
 | .agg _ | .tup _ => false
 | .lit v => v.oneCell'
 | _ => true
theorem VRel.oneCell {S : Sit} {v : AV} {c : Value} (h : VRel S v c) (h1 : v.one = true) : c.oneCell' = true := by
 cases v with
 | agg cells => simp [AV.one] at h1
 | tup vs => simp [AV.one] at h1
 | lit x => simp only [VRel] at h; subst h; exact h1
 | ptr id off => simp only [VRel] at h; obtain ⟨b, wm, _, _, rfl⟩ := h; rfl
 | eptr cells => simp only [VRel] at h; obtain ⟨b, o, rfl, _⟩ := h; rfl
 | sl len cells tail => simp only [VRel] at h; obtain ⟨b, o, rfl, _⟩ := h; rfl
 | hsl id off len cap => simp only [VRel] at h; obtain ⟨b, wm, _, _, rfl⟩ := h; rfl
 | mp id => simp only [VRel] at h; obtain ⟨b, wm, _, _, rfl⟩ := h; rfl
 | fn f a b => simp only [VRel] at h; obtain ⟨F, C, rfl, _⟩ := h; rfl
 | yld id => simp only [VRel] at h; obtain ⟨b, wm, _, _, rfl⟩ := h; rfl
 | iface t v => simp only [VRel] at h; obtain ⟨x, rfl, _⟩ := h; rfl
 | msl id gen len sz => simp only [VRel] at h; obtain ⟨b, o, rfl, _⟩ := h; rfl
 | mptr id gen off => simp only [VRel] at h; obtain ⟨b, o, rfl, _⟩ := h; rfl
 | mpx => simp only [VRel] at h; obtain ⟨b, rfl⟩ := h; rfl
theorem VRels.oneCell {S : Sit} : ∀ {as : List AV} {cs : List Value}, VRels S as cs → as.all AV.one = true → ∀ c ∈ cs, c.oneCell' = true
 | [], [], _, _, c, hc => by simp at hc
 | [], _ :: _, x, _, _, _ => by simp [VRels] at x
 | _ :: _, [], x, _, _, _ => by simp [VRels] at x
 | a :: as, d :: cs, x, h, c, hc => by
  simp only [VRels] at x
  simp only [List.all_cons, Bool.and_eq_true] at h
  rcases List.mem_cons.1 hc with rfl | hc
  ·exact x.1.oneCell h.1
  ·exact VRels.oneCell x.2 h.2 c hc
theorem store_box {S : Sit} (hR : Rel S) {id b wm off n : Nat} {t bt : TypeId} {cells : List AV} {v : AV} {c : Value} (hi : S.ι id = some (b, wm)) (hB : S.H[id]? = some (.box cells bt))
  (hv : VRel S v c) (ht : tsz P t = some n) (hn : v.cellsOf.length = n) (hle : off + n ≤ cells.length) (h1 : v.cellsOf.all AV.one = true) :
  ∃ w', (storeVar t ⟨b, off, none⟩ c).run P S.w = .ok () w' ∧ Rel ⟨S.H.set id (.box (splice cells off v.cellsOf) bt), S.ι, w'⟩ ∧
   Ev S ⟨S.H.set id (.box (splice cells off v.cellsOf) bt), S.ι, w'⟩ := by
 obtain ⟨B, hB', hrel⟩ := hR.blk id b wm hi
 rw [hB] at hB'; cases hB'
 obtain ⟨C, hC, hcs⟩ := hrel
 have hvc := hv.cells
 have hl1 := hvc.length
 have hl2 := hcs.length
 have hsz : c.cells.size = n := by rw [← hn, hl1]; simp
 obtain ⟨w', C', hrun, hs, ho, hb, hC', hre⟩ := run_storeCells (P := P) (b := b) (o := off) (t := bt) c.cells.toList 0 S.w C hC (by simp at hl2 ⊢; omega) (hvc.oneCell h1)
 have hev := Ev.write hR (B' := .box (splice cells off v.cellsOf) bt) hi hB rfl rfl ho hre
 refine ⟨w', ?_, Rel.write hR hi hB rfl rfl ho ⟨C', hb, ?_⟩ hre, hev⟩
 ·unfold storeVar
  rw [Sem.run_bind, run_tsz ht]
  simp only [Result.andThen_ok, hsz]
  rw [if_neg (by simp)]
  exact hrun
 ·rw [hC', Nat.add_zero]
  exact VRels.ev hev _ _ (hcs.splice off hvc)
theorem get_mrow {S : Sit} (hR : Rel S) {id g b wm : Nat} {cells : List AV} (hi : S.ι id = some (b, wm)) (hB : S.H[id]? = some (.mrow g cells)) :
  ∃ C t, S.w.heap[b]? = some (.cells C t (0, 0)) ∧ VRels S cells (C.toList.take cells.length) := by
 obtain ⟨B, hB', hrel⟩ := hR.blk id b wm hi
 rw [hB] at hB'; cases hB'
 exact hrel
omit [Outer] in
theorem MRef.here {S : Sit} {id g : Nat} {K : Nat → Nat → Prop} {cells : List AV} (x : MRef S id g K) (hB : S.H[id]? = some (.mrow g cells)) :
  ∃ b wm C t, S.ι id = some (b, wm) ∧ S.w.heap[b]? = some (.cells C t (0, 0)) ∧ K b C.size := by
 obtain ⟨B, g', hB', hm, hle, k⟩ := x
 rw [hB] at hB'; cases hB'
 cases hm
 exact k rfl ⟨_, rfl⟩
omit [Outer] in
theorem splice_take {α : Type} (l xs : List α) (off k : Nat) (h : off + xs.length ≤ k) (hk : k ≤ l.length) : (splice l off xs).take k = splice (l.take k) off xs := by
 obtain ⟨T, D, rfl, hT⟩ : ∃ T D, l = T ++ D ∧ T.length = k := ⟨l.take k, l.drop k, (List.take_append_drop k l).symm, by simp; omega⟩
 have hT' : (T ++ D).take k = T := by rw [List.take_left' hT]
 rw [hT']
 have e : splice (T ++ D) off xs = splice T off xs ++ D := by
  unfold splice
  rw [List.take_append_of_le_length (by omega), List.drop_append_of_le_length (by omega)]
  simp
 rw [e]
 exact List.take_left' (by rw [splice_length _ _ _ (by omega)]; exact hT)
theorem store_mrow {S : Sit} (hR : Rel S) {id g b wm off n : Nat} {t : TypeId} {cells : List AV} {v : AV} {c : Value} (hi : S.ι id = some (b, wm)) (hB : S.H[id]? = some (.mrow g cells))
    (hv : VRel S v c) (ht : tsz P t = some n) (hn : v.cellsOf.length = n) (hle : off + n ≤ cells.length) (h1 : v.cellsOf.all AV.one = true) :
    ∃ w', (storeVar t ⟨b, off, none⟩ c).run P S.w = .ok () w' ∧ Rel ⟨S.H.set id (.mrow g (splice cells off v.cellsOf)), S.ι, w'⟩ ∧
      Ev S ⟨S.H.set id (.mrow g (splice cells off v.cellsOf)), S.ι, w'⟩ := by
  obtain ⟨C, bt, hC, hcs⟩ := get_mrow hR hi hB
  have hvc := hv.cells
  have hl1 := hvc.length
  have hl2 := hcs.length
  have hlc : cells.length ≤ C.size := by simp at hl2; omega
  have hsz : c.cells.size = n := by rw [← hn, hl1]; simp
  obtain ⟨w', C', hrun, hs, ho, hb, hC', hre⟩ := run_storeCells (P := P) (b := b) (o := off) (t := bt) c.cells.toList 0 S.w C hC (by simp; omega) (hvc.oneCell h1)
  have hupd : upd S.ι id (some (b, wm)) = S.ι := by
    funext i
    by_cases h : i = id
    · subst h; rw [upd_same, hi]
    · rw [upd_other _ _ _ _ h]
  have hsame : ∀ b', (∀ wm, S.ι id ≠ some (b', wm)) → b' < S.w.heap.size → w'.heap[b']? = S.w.heap[b']? := fun b' h _ => ho b' (by rintro rfl; exact h wm hi)
  have hlC : C'.size = C.size := by
    have := congrArg List.length hC'
    rw [splice_length _ _ _ (by simp; omega)] at this
    simpa using this
  have hk : g = g → (∃ c1, Blk.mrow g (splice cells off v.cellsOf) = .mrow g c1) ∧ some (b, wm) = S.ι id ∧ ∀ b' wm' C0 t0, S.ι id = some (b', wm') → S.w.heap[b']? = some (.cells C0 t0 (0, 0)) →
      ∃ C' t', w'.heap[b']? = some (.cells C' t' (0, 0)) ∧ C'.size = C0.size := by
    refine fun _ => ⟨⟨_, rfl⟩, hi.symm, fun b' wm' C0 t0 h hC0 => ?_⟩
    rw [hi] at h; cases h
    rw [hC] at hC0; cases hC0
    exact ⟨C', bt, hb, hlC⟩
  have hev := Ev.mrow hR (w' := w') (B' := .mrow g (splice cells off v.cellsOf)) (p := some (b, wm)) hB rfl (Nat.le_refl g) hsame hk (fun nb wm1 h => by cases h; exact .inl ⟨_, hi⟩) hre
  have hrel := Rel.mrow hR (w' := w') (B' := .mrow g (splice cells off v.cellsOf)) (nb := b) (wm' := wm) hB rfl (Nat.le_refl g) hsame hk (.inl ⟨_, hi⟩) ⟨C', bt, hb, by
    have hlen : (splice cells off v.cellsOf).length = cells.length := splice_length _ _ _ (by omega)
    rw [hlen, hC', Nat.add_zero]
    have : (splice C.toList off c.cells.toList).take cells.length = splice (C.toList.take cells.length) off c.cells.toList := splice_take _ _ _ _ (by simp; omega) (by simp; omega)
    rw [this]
    exact VRels.ev hev _ _ (hcs.splice off hvc)⟩ hre
  rw [hupd] at hev hrel
  refine ⟨w', ?_, hrel, hev⟩
  unfold storeVar
  rw [Sem.run_bind, run_tsz ht]
  simp only [Result.andThen_ok, hsz]
  rw [if_neg (by simp)]
  exact hrun
theorem new_box {S : Sit} (hR : Rel S) (t : TypeId) {cells : List AV} {C : Array Value} (h : VRels S cells C.toList) :
  ∃ w', (newRow t C).run P S.w = .ok ⟨S.w.heap.size, 0, none⟩ w' ∧
   Rel ⟨S.H ++ [.box cells t], upd S.ι S.H.length (some (S.w.heap.size, 0)), w'⟩ ∧
   Ev S ⟨S.H ++ [.box cells t], upd S.ι S.H.length (some (S.w.heap.size, 0)), w'⟩ := by
 have hev := Ev.alloc hR (w' := { S.w with heap := S.w.heap.push (.cells C t) }) (.box cells t) 0 rfl
 exact ⟨_, by simp [newRow], Rel.alloc hR _ _ rfl ⟨C, by simp, VRels.ev hev _ _ h⟩, hev⟩
theorem new_row {S : Sit} (hR : Rel S) (t : TypeId) {cells : List AV} {C : Array Value} (h : VRels S cells C.toList) (H2 : List Blk) :
  ∃ w', (newRow t C).run P S.w = .ok ⟨S.w.heap.size, 0, none⟩ w' ∧ w'.heap = S.w.heap.push (.cells C t) ∧ Rest S.w w' ∧ Rel ⟨S.H ++ H2, S.ι, w'⟩ ∧ Ev S ⟨S.H ++ H2, S.ι, w'⟩ ∧
   (∀ n, n ≤ C.size → Fix ⟨S.H ++ H2, S.ι, w'⟩ S.w.heap.size n) ∧ VRow ⟨S.H ++ H2, S.ι, w'⟩ S.w.heap.size 0 cells := by
 have hw : ∀ b, b < S.w.heap.size → ({ S.w with heap := S.w.heap.push (.cells C t) } : World).heap[b]? = S.w.heap[b]? := fun b hb => by
  show (S.w.heap.push _)[b]? = _
  rw [Array.getElem?_push_lt hb]; simp [hb]
 have hev := Ev.fresh hR (w' := { S.w with heap := S.w.heap.push (.cells C t) }) (H2 := H2) hw
 refine ⟨{ S.w with heap := S.w.heap.push (.cells C t) }, by simp [newRow], rfl, ⟨rfl, rfl⟩, Rel.fresh hR hw, hev, fun n hn => ⟨C, t, (0, 0), by simp, hn, fun id wm e => ?_, fun x e => absurd (hR.out _ x e).1 (by omega)⟩, ?_⟩
 ·exact absurd (hR.block e) (by omega)
 ·refine VRow.of_vals _ (VRels.ev hev _ _ h) fun i c hc => ?_
  rw [cell_eq]
  simp only [Array.getElem?_push_size]
  simpa using hc
end Go.Vm

namespace Go.Vm
variable [Outer]
variable {P : Program}
def tslice (P : Program) (t : TypeId) : Option TypeId := match P.underlying t with | some (.slice e) => some e | _ => none
def tbytes (P : Program) (t : TypeId) : Option Nat := (P.info? t).map (·.bytes)
def tsrc (P : Program) (t : TypeId) : Bool := match P.underlying t with | some (.slice _) | some .string => true | _ => false
omit [Outer] in
theorem tsrc_eq {t : TypeId} (h : tsrc P t = true) : (∃ e, P.underlying t = some (.slice e)) ∨ P.underlying t = some .string := by
 unfold tsrc at h
 split at h
 ·rename_i e h'; exact .inl ⟨e, h'⟩
 ·rename_i h'; exact .inr h'
 ·cases h
omit [Outer] in
theorem tslice_eq {t e : TypeId} (h : tslice P t = some e) : P.underlying t = some (.slice e) := by
 unfold tslice at h
 split at h
 ·rename_i h'; cases h; exact h'
 ·cases h
omit [Outer] in
theorem run_info {t n : Nat} (h : tbytes P t = some n) : ∃ i, P.info? t = some i ∧ i.bytes = n := by
 unfold tbytes at h
 cases hi : P.info? t with
 | none => simp [hi] at h
 | some i => simp [hi] at h; exact ⟨i, rfl, h⟩
omit [Outer] in
theorem run_typeInfo' {t : Nat} {i : TypeInfo} (h : P.info? t = some i) (w : World) : (typeInfo t).run P w = .ok i w := by
 simp [typeInfo, h]
def srcCells (H : List Blk) (size : Nat) : AV → Option (Nat × List AV)
 | .lit (.slice none 0 _) => some (0, [])
 | .lit (.slice (some _) 0 _) => some (0, [])
 | .sl len cells _ => if cells.length = len * size then some (len, cells) else none
 | .hsl id off len _ => match H[id]? with
  | some (.box cells _) => if off + len * size ≤ cells.length then some (len, (cells.drop off).take (len * size)) else none
  | _ => none
 | .msl id gen len _ => match H[id]? with
  | some (.mrow g cells) => if g = gen ∧ len * size ≤ cells.length then some (len, cells.take (len * size)) else none
  | _ => none
 | .lit (.string s) => if size = 1 then some (s.size, s.data.toList.map fun b => .lit (.int .u8 b.toNat)) else none
 | _ => none
theorem srcCells_sound {S : Sit} (hR : Rel S) {size n : Nat} {x : AV} {cx : Value} {cells : List AV} (h : srcCells S.H size x = some (n, cells)) (hx : VRel S x cx) :
  cells.length = n * size ∧ (Builtin.lenOf cx).run P S.w = .ok n S.w ∧
  ∃ C : Array Value, (∀ w', w'.heap = S.w.heap → (Builtin.firstCells size n cx).run P w' = .ok C w') ∧ VRels S cells C.toList := by
 unfold srcCells at h
 split at h
 ·cases h
  simp only [VRel] at hx; subst hx
  exact ⟨by simp, rfl, #[], fun _ _ => rfl, by simp [VRels]⟩
 ·cases h
  simp only [VRel] at hx; subst hx
  exact ⟨by simp, rfl, #[], fun _ _ => by simp [Builtin.firstCells, loadCells, loadCellsFrom], by simp [VRels]⟩
 ·rename_i len cells' tail
  split at h
  ·rename_i hl
   cases h
   simp only [VRel] at hx
   obtain ⟨base, cap, rfl, _, hc, _⟩ := hx
   refine ⟨hl, rfl, ?_⟩
   rcases hc with rfl | ⟨b, o, rfl, _, hr⟩
   ·have hz : n * size = 0 := by simpa using hl.symm
    refine ⟨#[], fun w' _ => ?_, by simp [VRels]⟩
    cases base with
    | none => rfl
    | some a => simp [Builtin.firstCells, hz, loadCells, loadCellsFrom]
   ·obtain ⟨cs, h1, h2⟩ := hr.vals
    have hlen := h1.length
    refine ⟨cs.toArray, fun w' hw => ?_, by simpa using h1⟩
    simp only [Builtin.firstCells]
    rw [run_loadCells (w := w') (fun i c hc => by rw [heap_cell (w := S.w) (by rw [hw])]; exact h2 i c hc) (by omega), List.take_of_length_le (by omega)]
  ·cases h
 ·rename_i id off len cap
  cases hB : S.H[id]? with
  | none => simp [hB] at h
  | some B =>
   cases B with
   | box cells' t =>
    simp only [hB] at h
    split at h
    ·rename_i hl
     cases h
     simp only [VRel] at hx
     obtain ⟨b, wm, hi, _, rfl⟩ := hx
     obtain ⟨B, hB', hrel⟩ := hR.blk id b wm hi
     rw [hB] at hB'; cases hB'
     obtain ⟨C, hC, hr⟩ := hrel
     have hlen := hr.length
     refine ⟨by simp; omega, rfl, ((C.toList.drop off).take (n * size)).toArray, fun w' hw => ?_, by simpa using (hr.drop off).take (n * size)⟩
     simp only [Builtin.firstCells]
     refine run_loadCells (cs := C.toList.drop off) (fun i c hc => ?_) (by simp; simp at hlen; omega)
     rw [cell_eq, hw, hC]
     simpa using hc
    ·cases h
   | _ => simp [hB] at h
 ·rename_i id gen len sz
  cases hB : S.H[id]? with
  | none => simp [hB] at h
  | some B =>
   cases B with
   | mrow g cells' =>
    simp only [hB] at h
    split at h
    ·rename_i hl
     obtain ⟨rfl, hl⟩ := hl
     cases h
     simp only [VRel] at hx
     obtain ⟨b, cap, rfl, hle, hm⟩ := hx
     obtain ⟨b', wm, C, t, hi, hC, rfl, _⟩ := hm.here hB
     obtain ⟨C', t', hC', hr⟩ := get_mrow hR hi hB
     rw [hC] at hC'; cases hC'
     have hlen := hr.length
     have e1 : (C.toList.take cells'.length).take (n * size) = C.toList.take (n * size) := by rw [List.take_take, Nat.min_eq_left hl]
     have hlc : cells'.length ≤ C.size := by simp at hlen; omega
     refine ⟨by simp; omega, rfl, (C.toList.take (n * size)).toArray, fun w' hw => ?_, by have := hr.take (n * size); rw [e1] at this; simpa using this⟩
     simp only [Builtin.firstCells]
     refine run_loadCells (cs := C.toList) (fun i c hc => ?_) (by simp; omega)
     rw [cell_eq, hw, hC]
     simpa using hc
    ·cases h
   | _ => simp [hB] at h
 ·rename_i s
  split at h
  ·rename_i hs
   cases h
   simp only [VRel] at hx; subst hx
   refine ⟨by rw [hs, List.length_map, Nat.mul_one]; rfl, rfl, _, fun _ _ => rfl, ?_⟩
   have : s.extract 0 s.size = s := ByteArray.extract_zero_size
   rw [this]
   simp only [Array.toList_map]
   have : (s.data.toList.map fun b => AV.lit (.int .u8 b.toNat)) = (s.data.toList.map fun b => Value.int .u8 b.toNat).map .lit := by simp
   rw [this]
   exact VRels.map_lit _
  ·cases h
 ·cases h
omit [Outer] in
theorem growBy_le (n : Nat) : ∀ (r c : Nat), Builtin.growBy n r c ≤ (c + 768) * 2 ^ r
 | 0, c => by simp [Builtin.growBy]
 | r + 1, c => by
  unfold Builtin.growBy
  split
  ·have : 1 ≤ 2 ^ (r + 1) := Nat.one_le_two_pow
   calc c ≤ c + 768 := by omega
    _ = (c + 768) * 1 := by omega
    _ ≤ _ := Nat.mul_le_mul_left _ this
  ·refine Nat.le_trans (growBy_le n r _) ?_
   rw [Nat.pow_succ, ← Nat.mul_assoc, Nat.mul_comm ((c + 768) * 2 ^ r) 2, ← Nat.mul_assoc]
   exact Nat.mul_le_mul_right _ (by omega)
omit [Outer] in
theorem nextslicecap_le {n c : Nat} (hc : c < n) : Builtin.nextslicecap n c ≤ (n + 768) * 16 := by
 unfold Builtin.nextslicecap
 split
 ·omega
 ·split
  ·omega
  ·exact Nat.le_trans (growBy_le n 4 c) (by omega)
omit [Outer] in
theorem append_run {argTypes : Array TypeId} {ty sT xT e size n : Nat} {base : Option Addr} {len cap : Nat} {cx : Value} {w : World} {C : Array Value} {i : TypeInfo}
  (h0 : argTypes[0]? = some sT) (h1 : argTypes[1]? = some xT) (hs : tslice P sT = some e) (hz : tsz P e = some size) (hx : tsrc P xT = true)
  (hi : P.info? e = some i) (hlen : (Builtin.lenOf cx).run P w = .ok n w) (hf : ∀ w', w'.heap = w.heap → (Builtin.firstCells size n cx).run P w' = .ok C w') :
  (len + n ≤ cap → (Builtin.append_ argTypes ty #[.slice base len cap, cx]).run P w =
   ((match base with | some a => storeCells (a.add (len * size)) C.toList | none => pure ()).run P w).andThen fun _ w' => .ok (.slice base (len + n) cap) w') ∧
  (cap < len + n → len + n ≤ 2097152 → i.bytes ≤ 2097152 → ∀ z old, i.zero = some z →
   (∀ w', w'.heap = w.heap → (Builtin.firstCells size len (.slice base len cap)).run P w' = .ok old w') →
   ∃ (newCap : Nat) (w1 : World), len + n ≤ newCap ∧ (w1.heap = w.heap ∧ Rest w w1) ∧ (Builtin.append_ argTypes ty #[.slice base len cap, cx]).run P w =
    .ok (.slice (some ⟨w.heap.size, 0, none⟩) (len + n) newCap)
     { w1 with heap := w1.heap.push (.cells (old ++ C ++ Builtin.zeroCells z.cells (newCap - (len + n))) e) }) := by
 obtain ⟨d, hu, hd⟩ : ∃ d, P.underlying xT = some d ∧ ((∃ e, d = .slice e) ∨ d = .string) := by
  rcases tsrc_eq hx with ⟨e', h⟩ | h
  ·exact ⟨_, h, .inl ⟨e', rfl⟩⟩
  ·exact ⟨_, h, .inr rfl⟩
 have e1 : ∀ w, (underlying sT).run P w = .ok (.slice e) w := run_underlying (tslice_eq hs)
 have e2 : ∀ w, (underlying xT).run P w = .ok d w := run_underlying hu
 have e3 : ∀ w, (typeInfo e).run P w = .ok i w := run_typeInfo' hi
 rcases hd with ⟨e', rfl⟩ | rfl
 all_goals
  have a0 : (#[Value.slice base len cap, cx] : Array Value)[0]? = some (.slice base len cap) := rfl
  have a1 : (#[Value.slice base len cap, cx] : Array Value)[1]? = some cx := rfl
  constructor
  ·intro hle
   unfold Builtin.append_
   simp only [h0, h1, a0, a1]
   rw [Sem.run_bind, e1]
   simp only [Result.andThen_ok]
   rw [Sem.run_bind, run_tsz hz]
   simp only [Result.andThen_ok]
   rw [Sem.run_bind, e2]
   simp only [Result.andThen_ok]
   try rw [Sem.run_bind, Sem.run_pure]
   try simp only [Result.andThen_ok, Bool.false_eq_true, if_false]
   rw [Sem.run_bind, hlen]
   simp only [Result.andThen_ok, hle, if_true, Bool.not_false]
   rw [Sem.run_bind, hf w rfl]
   simp only [Result.andThen_ok]
   cases base with
   | none => rfl
   | some a => exact Sem.run_bind ..
  ·intro hlt hbig hbytes z old hzero hold
   have hm : (Question.appendCap (len + n) cap e).forced = false := rfl
   refine ⟨(Question.appendCap (len + n) cap e).cut (w.tape w.drawn (.appendCap (len + n) cap e)), { w with drawn := w.drawn + 1 }, ?_, ⟨rfl, rfl, rfl⟩, ?_⟩
   ·simp [Question.cut]
   ·have hnle : ¬ len + n ≤ cap := by omega
    have hcap : ¬ ((Builtin.nextslicecap (len + n) cap * i.bytes : Nat) > 2 ^ 48) := by
     have h1 := nextslicecap_le hlt
     have h2 := Nat.mul_le_mul_left (Builtin.nextslicecap (len + n) cap) hbytes
     have h3 := Nat.mul_le_mul_right 2097152 h1
     have h4 : (2 : Nat) ^ 48 = 281474976710656 := by simp
     rw [h4]
     omega
    have hneed : ¬ (((len + n : Nat) : Int) > IntKind.i64.max) := by
     have : IntKind.i64.max = 9223372036854775807 := by decide
     rw [this]; omega
    unfold Builtin.append_
    simp only [h0, h1, a0, a1]
    rw [Sem.run_bind, e1]
    simp only [Result.andThen_ok]
    rw [Sem.run_bind, run_tsz hz]
    simp only [Result.andThen_ok]
    rw [Sem.run_bind, e2]
    simp only [Result.andThen_ok]
    try rw [Sem.run_bind, Sem.run_pure]
    try simp only [Result.andThen_ok, Bool.false_eq_true, if_false]
    rw [Sem.run_bind, hlen]
    simp only [Result.andThen_ok, hnle, if_false, Bool.not_false, false_or, if_true]
    rw [Sem.run_bind, e3]
    simp only [Result.andThen_ok, hneed, false_and, if_false]
    rw [Sem.run_bind, e3]
    simp only [Result.andThen_ok, hcap, if_false]
    rw [Sem.run_bind, run_choose]
    simp only [hm, Bool.false_eq_true, if_false, Result.andThen_ok]
    rw [Sem.run_bind, e3]
    simp only [Result.andThen_ok]
    rw [Sem.run_bind, run_askRoom]
    simp only [Result.andThen_ok]
    rw [Sem.run_bind, hold { w with drawn := w.drawn + 1 } rfl]
    simp only [Result.andThen_ok]
    rw [Sem.run_bind, hf { w with drawn := w.drawn + 1 } rfl]
    simp only [Result.andThen_ok]
    rw [Sem.run_bind, run_tz (by unfold tz; rw [hi]; exact hzero)]
    simp only [Result.andThen_ok]
    rw [Sem.run_bind]
    simp [newRow]
    exact ⟨rfl, rfl, rfl⟩
def appA (P : Program) (m : Bool) (H : List Blk) (sT xT : TypeId) (s x : AV) : Option (AV × List Blk) :=
 match tslice P sT with
 | none => none
 | some e =>
  match tsz P e, tz P e, tbytes P e with
  | some size, some z, some bytes =>
   if tsrc P xT && (decide (bytes ≤ 2097152) && decide (z.cells.size = size)) then
    match srcCells H size x with
    | none => none
    | some (n, new) =>
     match s with
     | .lit (.slice none 0 0) =>
      if n = 0 then some (s, H)
      else if n ≤ 2097152 then (if m then some (.msl H.length 0 n size, H ++ [.mrow 0 new]) else some (.sl n new (.own H.length 0 size), H ++ [.row 0])) else none
     | .msl id g len sz =>
      if n = 0 then some (s, H)
      else match H[id]? with
       | some (.mrow g0 cells) => if g = g0 ∧ sz = size ∧ cells.length = len * size ∧ len + n ≤ 2097152 ∧ new.all AV.one = true then some (.msl id (g0 + 1) (len + n) size, H.set id (.mrow (g0 + 1) (cells ++ new))) else none
       | _ => none
     | .sl len cells tail =>
      if n = 0 then some (s, H)
      else if cells.length = len * size ∧ len + n ≤ 2097152 then
       match tail with
       | .unk => none
       | .full => if m then some (.msl H.length 0 (len + n) size, H ++ [.mrow 0 (cells ++ new)]) else some (.sl (len + n) (cells ++ new) (.own H.length 0 size), H ++ [.row 0])
       | .own id g sz =>
        match H[id]? with
        | some (.row g0) => if g = g0 ∧ sz = size ∧ new.all AV.one = true then some (.sl (len + n) (cells ++ new) (.own id (g + 1) size), H.set id (.row (g + 1))) else none
        | _ => none
      else none
     | _ => none
   else none
  | _, _, _ => none
theorem VRels.toArray {S : Sit} {cells : List AV} {C : Array Value} (h : VRels S cells C.toList) : cells.length = C.size := by
 have := h.length; simpa using this
omit [Outer] in
theorem zeroCells_size (z : Array Value) (n : Nat) : (Builtin.zeroCells z n).size = n * z.size := by simp [Builtin.zeroCells]
theorem sl_cells {S : Sit} {len cap size : Nat} {cells : List AV} {tail : Tail} {base : Option Addr} (hl : cells.length = len * size)
  (hv : VRel S (.sl len cells tail) (.slice base len cap)) :
  ∃ C : Array Value, VRels S cells C.toList ∧ ∀ w', w'.heap = S.w.heap → (Builtin.firstCells size len (.slice base len cap)).run P w' = .ok C w' := by
 simp only [VRel] at hv
 obtain ⟨base', cap', he, _, hc, _⟩ := hv
 cases he
 rcases hc with rfl | ⟨b, o, rfl, _, hr⟩
 ·have hz : len * size = 0 := by simpa using hl.symm
  refine ⟨#[], by simp [VRels], fun w' _ => ?_⟩
  cases base with
  | none => rfl
  | some a => simp [Builtin.firstCells, hz, loadCells, loadCellsFrom]
 ·obtain ⟨cs, h1, h2⟩ := hr.vals
  have hlen := h1.length
  refine ⟨cs.toArray, by simpa using h1, fun w' hw => ?_⟩
  simp only [Builtin.firstCells]
  rw [run_loadCells (w := w') (fun i c hc => by rw [heap_cell (w := S.w) (by rw [hw])]; exact h2 i c hc) (by omega), List.take_of_length_le (by omega)]
theorem grown_new {S : Sit} (hR : Rel S) {w' : World} {C : Array Value} {e : TypeId} {cells : List AV} {len cap sz : Nat} (hw : w'.heap = S.w.heap.push (.cells C e)) (hos : Rest S.w w')
  (hc : VRels S cells (C.toList.take cells.length)) (hl : cells.length = len * sz) (hle : len ≤ cap) (hsz : cap * sz ≤ C.size) (hn : cells.length ≤ C.size) :
  Rel ⟨S.H ++ [.row 0], upd S.ι S.H.length (some (S.w.heap.size, cells.length)), w'⟩ ∧ Ev S ⟨S.H ++ [.row 0], upd S.ι S.H.length (some (S.w.heap.size, cells.length)), w'⟩ ∧
   VRel ⟨S.H ++ [.row 0], upd S.ι S.H.length (some (S.w.heap.size, cells.length)), w'⟩ (.sl len cells (.own S.H.length 0 sz)) (.slice (some ⟨S.w.heap.size, 0, none⟩) len cap) := by
 have hev := Ev.alloc hR (.row 0) cells.length hw hos
 have hnb : w'.heap[S.w.heap.size]? = some (.cells C e (0, 0)) := by rw [hw]; simp
 refine ⟨Rel.alloc hR (.row 0) cells.length hw ⟨C, e, hnb, hn⟩ hos, hev, ?_⟩
 simp only [VRel]
 refine ⟨_, cap, rfl, hle, .inr ⟨_, 0, rfl, ⟨C, e, (0, 0), hnb, by omega, fun id wm h => ?_, fun _ hx => absurd (hR.out _ _ hx).1 (by omega)⟩, VRow.of_vals _ (VRels.ev hev _ _ hc) fun i c h => ?_⟩, hl, 0, by simp, Nat.le_refl _, fun _ => .inr ⟨_, 0, C, e, rfl, ?_, hnb, by omega⟩⟩
 ·by_cases hid : id = S.H.length
  ·subst hid
   have h' : upd S.ι S.H.length (some (S.w.heap.size, cells.length)) S.H.length = some (S.w.heap.size, wm) := h
   rw [upd_same] at h'; cases h'
   exact ⟨⟨0, by simp⟩, by omega⟩
  ·have h' : upd S.ι S.H.length (some (S.w.heap.size, cells.length)) id = some (S.w.heap.size, wm) := h
   rw [upd_other _ _ _ _ hid] at h'
   exact absurd (hR.block h') (by omega)
 ·rw [cell_eq, hnb]
  rw [List.getElem?_take] at h
  split at h
  ·simpa using h
  ·cases h
 ·show upd _ _ _ _ = _
  rw [upd_same, Nat.zero_add]
theorem grown_move {S : Sit} (hR : Rel S) {w' : World} {C : Array Value} {e : TypeId} {cells : List AV} {len cap sz id g : Nat} (hid : S.H[id]? = some (.row g)) (hw : w'.heap = S.w.heap.push (.cells C e)) (hos : Rest S.w w')
  (hc : VRels S cells (C.toList.take cells.length)) (hl : cells.length = len * sz) (hle : len ≤ cap) (hsz : cap * sz ≤ C.size) (hn : cells.length ≤ C.size) :
  Rel ⟨S.H.set id (.row (g + 1)), upd S.ι id (some (S.w.heap.size, cells.length)), w'⟩ ∧ Ev S ⟨S.H.set id (.row (g + 1)), upd S.ι id (some (S.w.heap.size, cells.length)), w'⟩ ∧
   VRel ⟨S.H.set id (.row (g + 1)), upd S.ι id (some (S.w.heap.size, cells.length)), w'⟩ (.sl len cells (.own id (g + 1) sz)) (.slice (some ⟨S.w.heap.size, 0, none⟩) len cap) := by
 have hnb : w'.heap[S.w.heap.size]? = some (.cells C e (0, 0)) := by rw [hw]; simp
 have hlt := (List.getElem?_eq_some_iff.1 hid).1
 have hold : ∀ b, b < S.w.heap.size → w'.heap[b]? = S.w.heap[b]? := fun b hb => by rw [hw, Array.getElem?_push_lt hb]; simp [hb]
 have hown : ∀ b wm, S.ι id = some (b, wm) → ∃ C C' t t', S.w.heap[b]? = some (.cells C t (0, 0)) ∧ w'.heap[b]? = some (.cells C' t' (0, 0)) ∧ C'.size = C.size ∧ ∀ j, j < wm → C'[j]? = C[j]? := by
  intro b wm h
  obtain ⟨B, hB, hrel⟩ := hR.blk id b wm h
  rw [hid] at hB; cases hB
  obtain ⟨C0, t0, h0, _⟩ := hrel
  exact ⟨C0, C0, t0, t0, h0, (hold b (hR.block h)).trans h0, rfl, fun _ _ => rfl⟩
 have hev := Ev.row hR (wm' := cells.length) hid (fun b _ hb => hold b hb) hown (.inr (Nat.le_refl _)) hos
 refine ⟨Rel.row hR hid (fun b _ hb => hold b hb) hown (.inr (Nat.le_refl _)) ⟨C, e, hnb, hn⟩ hos, hev, ?_⟩
 simp only [VRel]
 have hidg : (S.H.set id (.row (g + 1)))[id]? = some (.row (g + 1)) := by simp [hlt]
 refine ⟨_, cap, rfl, hle, .inr ⟨_, 0, rfl, ⟨C, e, (0, 0), hnb, by omega, fun i wm h => ?_, fun _ hx => absurd (hR.out _ _ hx).1 (by omega)⟩, VRow.of_vals _ (VRels.ev hev _ _ hc) fun i c h => ?_⟩, hl, g + 1, hidg, Nat.le_refl _, fun _ => .inr ⟨_, 0, C, e, rfl, ?_, hnb, by omega⟩⟩
 ·by_cases hi : i = id
  ·subst hi
   have h' : upd S.ι i (some (S.w.heap.size, cells.length)) i = some (S.w.heap.size, wm) := h
   rw [upd_same] at h'; cases h'
   exact ⟨⟨g + 1, hidg⟩, by omega⟩
  ·have h' : upd S.ι id (some (S.w.heap.size, cells.length)) i = some (S.w.heap.size, wm) := h
   rw [upd_other _ _ _ _ hi] at h'
   exact absurd (hR.block h') (by omega)
 ·rw [cell_eq, hnb]
  rw [List.getElem?_take] at h
  split at h
  ·simpa using h
  ·cases h
 ·show upd _ _ _ _ = _
  rw [upd_same, Nat.zero_add]
theorem grown_here {S : Sit} (hR : Rel S) {C : Array Value} {t : TypeId} {cells new : List AV} {cs : List Value} {len n cap sz id g b o : Nat} (hid : S.H[id]? = some (.row g))
  (hi : S.ι id = some (b, o + cells.length)) (hC : S.w.heap[b]? = some (.cells C t (0, 0))) (hcap : o + cap * sz ≤ C.size) (hrow : cells = [] ∨ VRow S b o cells)
  (hnew : VRels S new cs) (h1 : new.all AV.one = true) (hl : cells.length = len * sz) (hn : new.length = n * sz) (hle : len + n ≤ cap) :
  ∃ w', (storeCells ((Addr.mk b o none).add (len * sz)) cs).run P S.w = .ok () w' ∧
   Rel ⟨S.H.set id (.row (g + 1)), upd S.ι id (some (b, o + (cells ++ new).length)), w'⟩ ∧ Ev S ⟨S.H.set id (.row (g + 1)), upd S.ι id (some (b, o + (cells ++ new).length)), w'⟩ ∧
   VRel ⟨S.H.set id (.row (g + 1)), upd S.ι id (some (b, o + (cells ++ new).length)), w'⟩ (.sl (len + n) (cells ++ new) (.own id (g + 1) sz)) (.slice (some ⟨b, o, none⟩) (len + n) cap) := by
 have hlt := (List.getElem?_eq_some_iff.1 hid).1
 have hmul : (len + n) * sz = len * sz + n * sz := Nat.add_mul ..
 have hmul2 : (len + n) * sz ≤ cap * sz := Nat.mul_le_mul_right _ hle
 have hncs := hnew.length
 obtain ⟨w', C', hrun, hs, ho, hb, hC', hre⟩ := run_storeCells (P := P) (b := b) (o := o + len * sz) (t := t) cs 0 S.w C hC (by omega) (hnew.oneCell h1)
 have hlC : C'.size = C.size := by
  have := congrArg List.length hC'
  rw [splice_length _ _ _ (by simp; omega)] at this
  simpa using this
 have hlow : ∀ j, j < o + cells.length → C'[j]? = C[j]? := fun j hj => by
  have e : C'.toList[j]? = C.toList[j]? := by
   rw [hC', splice, List.append_assoc, List.getElem?_append_left (by simp; omega), List.getElem?_take_of_lt (by omega)]
  simpa using e
 have hsame : ∀ b', (∀ wm, S.ι id ≠ some (b', wm)) → b' < S.w.heap.size → w'.heap[b']? = S.w.heap[b']? := fun b' hne _ => ho b' (by rintro rfl; exact hne _ hi)
 have hown : ∀ b' wm, S.ι id = some (b', wm) → ∃ C C' t t', S.w.heap[b']? = some (.cells C t (0, 0)) ∧ w'.heap[b']? = some (.cells C' t' (0, 0)) ∧ C'.size = C.size ∧ ∀ j, j < wm → C'[j]? = C[j]? := by
  intro b' wm h
  rw [hi] at h; cases h
  exact ⟨C, C', t, t, hC, hb, hlC, hlow⟩
 have hnb : (∃ wm, S.ι id = some (b, wm) ∧ wm ≤ o + (cells ++ new).length) ∨ S.w.heap.size ≤ b := .inl ⟨_, hi, by simp⟩
 have hev := Ev.row hR (wm' := o + (cells ++ new).length) hid hsame hown hnb hre
 have hidg : (S.H.set id (.row (g + 1)))[id]? = some (.row (g + 1)) := by simp [hlt]
 refine ⟨w', by rw [add_addr]; exact hrun, Rel.row hR hid hsame hown hnb ⟨C', t, hb, by simp; omega⟩ hre, hev, ?_⟩
 simp only [VRel]
 refine ⟨_, cap, rfl, hle, .inr ⟨b, o, rfl, ⟨C', t, (0, 0), hb, by simp; omega, fun i wm h => ?_, fun _ hx => absurd hi ((hR.out _ _ hx).2 _ _)⟩, ?_⟩, by simp; omega, g + 1, hidg, Nat.le_refl _, fun _ => .inr ⟨b, o, C', t, rfl, ?_, hb, by omega⟩⟩
 ·by_cases hi' : i = id
  ·subst hi'
   have h' : upd S.ι i (some (b, o + (cells ++ new).length)) i = some (b, wm) := h
   rw [upd_same] at h'; cases h'
   exact ⟨⟨g + 1, hidg⟩, Nat.le_refl _⟩
  ·have h' : upd S.ι id (some (b, o + (cells ++ new).length)) i = some (b, wm) := h
   rw [upd_other _ _ _ _ hi'] at h'
   exact absurd (hR.inj i id b wm _ h' hi) hi'
 ·have hv : ∃ cs0 : List Value, VRels S cells cs0 ∧ ∀ i c, cs0[i]? = some c → S.w.cell? ⟨b, o + i, none⟩ = some c := by
   rcases hrow with rfl | hrow
   ·exact ⟨[], by simp [VRels], by simp⟩
   ·exact hrow.vals
  obtain ⟨cs0, hv1, hv2⟩ := hv
  have hl0 := hv1.length
  refine VRow.of_vals b (VRels.ev hev _ _ (hv1.append hnew)) fun i c h => ?_
  rw [cell_eq, hb]
  show C'[o + i]? = some c
  by_cases hlt' : i < cs0.length
  ·rw [hlow _ (by omega)]
   rw [List.getElem?_append_left hlt'] at h
   have := hv2 i c h
   rw [cell_eq, hC] at this
   exact this
  ·rw [List.getElem?_append_right (by omega)] at h
   have e : C'.toList[o + i]? = some c := by
    have hlcs : i - cs0.length < cs.length := (List.getElem?_eq_some_iff.1 h).1
    rw [hC', splice, List.append_assoc, List.getElem?_append_right (by simp; omega), List.getElem?_append_left (by simp; omega)]
    rw [← h]
    congr 1
    simp; omega
   simpa using e
 ·show upd _ _ _ _ = _
  rw [upd_same]
theorem mgrown_new {S : Sit} (hR : Rel S) {w' : World} {C : Array Value} {e : TypeId} {cells : List AV} {len cap sz : Nat} (hw : w'.heap = S.w.heap.push (.cells C e)) (hos : Rest S.w w')
  (hc : VRels S cells (C.toList.take cells.length)) (hle : len ≤ cap) (hsz : cap * sz ≤ C.size) :
  Rel ⟨S.H ++ [.mrow 0 cells], upd S.ι S.H.length (some (S.w.heap.size, 0)), w'⟩ ∧ Ev S ⟨S.H ++ [.mrow 0 cells], upd S.ι S.H.length (some (S.w.heap.size, 0)), w'⟩ ∧
   VRel ⟨S.H ++ [.mrow 0 cells], upd S.ι S.H.length (some (S.w.heap.size, 0)), w'⟩ (.msl S.H.length 0 len sz) (.slice (some ⟨S.w.heap.size, 0, none⟩) len cap) := by
 have hev := Ev.alloc hR (.mrow 0 cells) 0 hw hos
 have hnb : w'.heap[S.w.heap.size]? = some (.cells C e (0, 0)) := by rw [hw]; simp
 refine ⟨Rel.alloc hR (.mrow 0 cells) 0 hw ⟨C, e, hnb, VRels.ev hev _ _ hc⟩ hos, hev, ?_⟩
 simp only [VRel]
 exact ⟨_, cap, rfl, hle, .mrow 0 cells, 0, by simp, rfl, Nat.le_refl _, fun _ _ => ⟨_, 0, C, e, upd_same .., hnb, rfl, hsz⟩⟩
theorem mgrown_move {S : Sit} (hR : Rel S) {w' : World} {C : Array Value} {e : TypeId} {old cells : List AV} {len cap sz id g : Nat} (hid : S.H[id]? = some (.mrow g old)) (hw : w'.heap = S.w.heap.push (.cells C e)) (hos : Rest S.w w')
    (hc : VRels S cells (C.toList.take cells.length)) (hle : len ≤ cap) (hsz : cap * sz ≤ C.size) :
    Rel ⟨S.H.set id (.mrow (g + 1) cells), upd S.ι id (some (S.w.heap.size, 0)), w'⟩ ∧ Ev S ⟨S.H.set id (.mrow (g + 1) cells), upd S.ι id (some (S.w.heap.size, 0)), w'⟩ ∧
      VRel ⟨S.H.set id (.mrow (g + 1) cells), upd S.ι id (some (S.w.heap.size, 0)), w'⟩ (.msl id (g + 1) len sz) (.slice (some ⟨S.w.heap.size, 0, none⟩) len cap) := by
  have hnb : w'.heap[S.w.heap.size]? = some (.cells C e (0, 0)) := by rw [hw]; simp
  have hlt := (List.getElem?_eq_some_iff.1 hid).1
  have hold : ∀ b, b < S.w.heap.size → w'.heap[b]? = S.w.heap[b]? := fun b hb => by rw [hw, Array.getElem?_push_lt hb]; simp [hb]
  have hk : ∀ p : Option (Nat × Nat), g + 1 = g → (∃ c1, Blk.mrow (g + 1) cells = .mrow g c1) ∧ p = S.ι id ∧ ∀ b wm C t, S.ι id = some (b, wm) → S.w.heap[b]? = some (.cells C t (0, 0)) →
      ∃ C' t', w'.heap[b]? = some (.cells C' t' (0, 0)) ∧ C'.size = C.size := fun p h => by omega
  have hev := Ev.mrow hR (w' := w') (B' := .mrow (g + 1) cells) (p := some (S.w.heap.size, 0)) hid rfl (by omega) (fun b _ hb => hold b hb) (hk _) (fun nb wm h => by cases h; exact .inr (Nat.le_refl _)) hos
  refine ⟨Rel.mrow hR (w' := w') (B' := .mrow (g + 1) cells) hid rfl (by omega) (fun b _ hb => hold b hb) (hk _) (.inr (Nat.le_refl _)) ⟨C, e, hnb, VRels.ev hev _ _ hc⟩ hos, hev, ?_⟩
  simp only [VRel]
  exact ⟨_, cap, rfl, hle, .mrow (g + 1) cells, g + 1, by simp [hlt], rfl, Nat.le_refl _, fun _ _ => ⟨_, 0, C, e, upd_same .., hnb, rfl, hsz⟩⟩
theorem mgrown_here {S : Sit} (hR : Rel S) {C : Array Value} {t : TypeId} {cells new : List AV} {cs : List Value} {len n cap sz id g b wm : Nat} (hid : S.H[id]? = some (.mrow g cells))
    (hi : S.ι id = some (b, wm)) (hC : S.w.heap[b]? = some (.cells C t (0, 0))) (hcap : cap * sz ≤ C.size)
    (hnew : VRels S new cs) (h1 : new.all AV.one = true) (hl : cells.length = len * sz) (hn : new.length = n * sz) (hle : len + n ≤ cap) :
    ∃ w', (storeCells ((Addr.mk b 0 none).add (len * sz)) cs).run P S.w = .ok () w' ∧
      Rel ⟨S.H.set id (.mrow (g + 1) (cells ++ new)), upd S.ι id (some (b, wm)), w'⟩ ∧ Ev S ⟨S.H.set id (.mrow (g + 1) (cells ++ new)), upd S.ι id (some (b, wm)), w'⟩ ∧
      VRel ⟨S.H.set id (.mrow (g + 1) (cells ++ new)), upd S.ι id (some (b, wm)), w'⟩ (.msl id (g + 1) (len + n) sz) (.slice (some ⟨b, 0, none⟩) (len + n) cap) := by
  have hlt := (List.getElem?_eq_some_iff.1 hid).1
  have hmul : (len + n) * sz = len * sz + n * sz := Nat.add_mul ..
  have hmul2 : (len + n) * sz ≤ cap * sz := Nat.mul_le_mul_right _ hle
  have hncs := hnew.length
  obtain ⟨C0, t0, hC0, hcs⟩ := get_mrow hR hi hid
  rw [hC] at hC0; cases hC0
  obtain ⟨w', C', hrun, hs, ho, hb, hC', hre⟩ := run_storeCells (P := P) (b := b) (o := 0 + len * sz) (t := t) cs 0 S.w C hC (by omega) (hnew.oneCell h1)
  have hlC : C'.size = C.size := by
    have := congrArg List.length hC'
    rw [splice_length _ _ _ (by simp; omega)] at this
    simpa using this
  have hsame : ∀ b', (∀ wm, S.ι id ≠ some (b', wm)) → b' < S.w.heap.size → w'.heap[b']? = S.w.heap[b']? := fun b' hne _ => ho b' (by rintro rfl; exact hne _ hi)
  have hk : ∀ p : Option (Nat × Nat), g + 1 = g → (∃ c1, Blk.mrow (g + 1) (cells ++ new) = .mrow g c1) ∧ p = S.ι id ∧ ∀ b wm C t, S.ι id = some (b, wm) → S.w.heap[b]? = some (.cells C t (0, 0)) →
      ∃ C' t', w'.heap[b]? = some (.cells C' t' (0, 0)) ∧ C'.size = C.size := fun p h => by omega
  have hev := Ev.mrow hR (w' := w') (B' := .mrow (g + 1) (cells ++ new)) (p := some (b, wm)) hid rfl (by omega) hsame (hk _) (fun nb wm h => by cases h; exact .inl ⟨_, hi⟩) hre
  have hcont : C'.toList.take (cells ++ new).length = C.toList.take cells.length ++ cs := by
    rw [hC', splice, Nat.add_zero, Nat.zero_add, ← hl, List.append_assoc, List.length_append, hncs]
    have e1 : (List.take cells.length C.toList).length = cells.length := by simp; omega
    rw [List.take_append, e1, List.take_of_length_le (by rw [e1]; omega), show cells.length + cs.length - cells.length = cs.length by omega, List.take_left' rfl]
  refine ⟨w', by rw [add_addr]; exact hrun, Rel.mrow hR (w' := w') (B' := .mrow (g + 1) (cells ++ new)) hid rfl (by omega) hsame (hk _) (.inl ⟨_, hi⟩) ⟨C', t, hb, ?_⟩ hre, hev, ?_⟩
  · rw [hcont]; exact VRels.ev hev _ _ (hcs.append hnew)
  · simp only [VRel]
    exact ⟨_, cap, rfl, hle, .mrow (g + 1) (cells ++ new), g + 1, by simp [hlt], rfl, Nat.le_refl _, fun _ _ => ⟨b, wm, C', t, upd_same .., hb, rfl, by omega⟩⟩
omit [Outer] in
theorem tz_info {t : TypeId} {z : Value} (h : tz P t = some z) : ∃ i, P.info? t = some i ∧ i.zero = some z := by
 unfold tz at h
 cases hi : P.info? t with
 | none => simp [hi] at h
 | some i => simp [hi] at h; exact ⟨i, rfl, h⟩
theorem appA_sound {m : Bool} {S : Sit} (hR : Rel S) {argTypes : Array TypeId} {ty sT xT : TypeId} {s x v : AV} {H' : List Blk} {c cx : Value}
  (h0 : argTypes[0]? = some sT) (h1 : argTypes[1]? = some xT) (h : appA P m S.H sT xT s x = some (v, H')) (hs : VRel S s c) (hx : VRel S x cx) :
  ∃ (u : Value) (ι' : Nat → Option (Nat × Nat)) (w' : World), (Builtin.append_ argTypes ty #[c, cx]).run P S.w = .ok u w' ∧ Rel ⟨H', ι', w'⟩ ∧ Ev S ⟨H', ι', w'⟩ ∧ Non S ⟨H', ι', w'⟩ ∧
   VRel ⟨H', ι', w'⟩ v u := by
 unfold appA at h
 cases hsl : tslice P sT with
 | none => simp [hsl] at h
 | some e =>
 cases hz : tsz P e with
 | none => simp [hsl, hz] at h
 | some size =>
 cases hzv : tz P e with
 | none => simp [hsl, hz, hzv] at h
 | some z =>
 cases hby : tbytes P e with
 | none => simp [hsl, hz, hzv, hby] at h
 | some bytes =>
 simp only [hsl, hz, hzv, hby] at h
 split at h
 case isFalse => cases h
 case isTrue hg =>
 simp only [Bool.and_eq_true, decide_eq_true_eq] at hg
 obtain ⟨hsrc, hbytes, hzsz⟩ := hg
 cases hcs : srcCells S.H size x with
 | none => simp [hcs] at h
 | some p =>
 obtain ⟨n, new⟩ := p
 simp only [hcs] at h
 obtain ⟨i, hi, hiz⟩ := tz_info hzv
 obtain ⟨i', hi', hib⟩ := run_info hby
 rw [hi] at hi'; cases hi'
 obtain ⟨hnl, hlen, C, hf, hnew⟩ := srcCells_sound (P := P) hR hcs hx
 have hCsz := hnew.toArray
 have hrun := fun base len cap => append_run (P := P) (ty := ty) (base := base) (len := len) (cap := cap) h0 h1 hsl hz hsrc hi hlen hf
 split at h
 ·-- nil
  simp only [VRel] at hs; subst hs
  split at h
  ·rename_i hn0
   cases h
   subst hn0
   have hC0 : C = #[] := by
    have : C.size = 0 := by omega
    exact Array.eq_empty_of_size_eq_zero this
   refine ⟨_, S.ι, S.w, (hrun none 0 0).1 (Nat.le_refl _), hR, Ev.refl S, Non.refl S, by simp [VRel]⟩
  ·split at h
   ·rename_i hn0 hn1
    obtain ⟨newCap, w1, hc1, ⟨hw1, hre1⟩, hr⟩ := (hrun none 0 0).2 (by omega) (by omega) (by omega) z #[] hiz (fun w' _ => rfl)
    have hl0 : new.length = n * size := hnl
    have hnc : n ≤ newCap := by omega
    have hmul : n * size ≤ newCap * size := Nat.mul_le_mul_right _ hnc
    have hsub : (newCap - n) * size = newCap * size - n * size := Nat.sub_mul ..
    have htake : (#[] ++ C ++ Builtin.zeroCells z.cells (newCap - (0 + n))).toList.take new.length = C.toList := by
     have e : (#[] ++ C ++ Builtin.zeroCells z.cells (newCap - (0 + n))).toList = C.toList ++ (Builtin.zeroCells z.cells (newCap - (0 + n))).toList := by simp
     rw [e, List.take_append_of_le_length (by simp; omega), List.take_of_length_le (by simp; omega)]
    split at h
    ·cases h
     obtain ⟨k1, k2, k3⟩ := mgrown_new hR (cells := new) (len := n) (cap := newCap) (sz := size) (e := e) (C := #[] ++ C ++ Builtin.zeroCells z.cells (newCap - (0 + n)))
      (w' := { w1 with heap := w1.heap.push (.cells (#[] ++ C ++ Builtin.zeroCells z.cells (newCap - (0 + n))) e) }) (by simp [hw1]) hre1
      (by rw [htake]; exact hnew) hnc (by simp [zeroCells_size, hzsz]; omega)
     exact ⟨_, _, _, by rw [hr, Nat.zero_add], k1, k2, Non.alloc, k3⟩
    ·cases h
     obtain ⟨k1, k2, k3⟩ := grown_new hR (cells := new) (len := n) (cap := newCap) (sz := size) (e := e) (C := #[] ++ C ++ Builtin.zeroCells z.cells (newCap - (0 + n)))
      (w' := { w1 with heap := w1.heap.push (.cells (#[] ++ C ++ Builtin.zeroCells z.cells (newCap - (0 + n))) e) }) (by simp [hw1]) hre1
      (by rw [htake]; exact hnew) hl0 hnc (by simp [zeroCells_size, hzsz]; omega) (by simp; omega)
     exact ⟨_, _, _, by rw [hr, Nat.zero_add], k1, k2, Non.alloc, k3⟩
   ·cases h
 ·-- a row that is written
  rename_i id g len sz
  have hs' := hs
  simp only [VRel] at hs
  obtain ⟨b, cap, rfl, hlc, hm⟩ := hs
  split at h
  ·rename_i hn0
   cases h
   subst hn0
   have hC0 : C = #[] := by
    have : C.size = 0 := by omega
    exact Array.eq_empty_of_size_eq_zero this
   refine ⟨_, S.ι, S.w, ?_, hR, Ev.refl S, Non.refl S, hs'⟩
   rw [(hrun _ len cap).1 (by omega), hC0]
   simp [storeCells]
  ·rename_i hn0
   cases hB : S.H[id]? with
   | none => simp [hB] at h
   | some B =>
   cases B with
   | mrow g0 cells =>
    simp only [hB] at h
    split at h
    case isFalse => cases h
    case isTrue hg =>
    obtain ⟨rfl, rfl, hcl, hbig, hone⟩ := hg
    cases h
    obtain ⟨b', wm, C0, t0, hi0, hC0, rfl, hcap⟩ := hm.here hB
    obtain ⟨C1, t1, hC1, hr1⟩ := get_mrow hR hi0 hB
    rw [hC0] at hC1; cases hC1
    have hlen1 := hr1.length
    have hlc0 : cells.length ≤ C0.size := by simp at hlen1; omega
    by_cases hfit : len + n ≤ cap
    ·obtain ⟨w', k0, k1, k2, k3⟩ := mgrown_here (P := P) hR hB hi0 hC0 hcap hnew hone hcl hnl hfit
     refine ⟨_, _, w', ?_, k1, k2, Non.mrow hB, k3⟩
     rw [(hrun _ len cap).1 hfit]
     simp only [k0, Result.andThen_ok]
    ·have holdrun : ∀ w', w'.heap = S.w.heap → (Builtin.firstCells sz len (.slice (some ⟨b', 0, none⟩) len cap)).run P w' = .ok (C0.toList.take (len * sz)).toArray w' := by
      intro w' hw
      simp only [Builtin.firstCells]
      refine run_loadCells (cs := C0.toList) (fun i c hc => ?_) (by simp; omega)
      rw [cell_eq, hw, hC0]
      simpa using hc
     obtain ⟨newCap, w1, hc1, ⟨hw1, hre1⟩, hr⟩ := (hrun (some ⟨b', 0, none⟩) len cap).2 (by omega) (by omega) (by omega) z _ hiz holdrun
     have hsub : (newCap - (len + n)) * sz = newCap * sz - (len + n) * sz := Nat.sub_mul ..
     have hmul : (len + n) * sz ≤ newCap * sz := Nat.mul_le_mul_right _ hc1
     have hmul2 : (len + n) * sz = len * sz + n * sz := Nat.add_mul ..
     have hold1 : (C0.toList.take (len * sz)).toArray.toList = C0.toList.take cells.length := by simp [hcl]
     obtain ⟨k1, k2, k3⟩ := mgrown_move hR (cells := cells ++ new) (len := len + n) (cap := newCap) (sz := sz) (C := (C0.toList.take (len * sz)).toArray ++ C ++ Builtin.zeroCells z.cells (newCap - (len + n))) (e := e)
      (w' := { w1 with heap := w1.heap.push (.cells ((C0.toList.take (len * sz)).toArray ++ C ++ Builtin.zeroCells z.cells (newCap - (len + n))) e) }) hB (by simp [hw1]) hre1
      (by
       rw [show ((C0.toList.take (len * sz)).toArray ++ C ++ Builtin.zeroCells z.cells (newCap - (len + n))).toList.take (cells ++ new).length = C0.toList.take cells.length ++ C.toList by
        simp only [Array.toList_append, hcl]
        rw [List.take_append_of_le_length (by simp; omega), List.take_of_length_le (by simp; omega)]]
       exact hr1.append hnew) hc1 (by
       simp only [Array.size_append, zeroCells_size, hzsz]
       have : (C0.toList.take (len * sz)).toArray.size = len * sz := by simp; omega
       omega)
     exact ⟨_, _, _, hr, k1, k2, Non.mrow hB, k3⟩
   | _ => simp [hB] at h
 ·-- a slice
  rename_i len cells tail
  have hs' := hs
  simp only [VRel] at hs
  obtain ⟨base, cap, rfl, hlc, hcells, htail⟩ := hs
  split at h
  ·rename_i hn0
   cases h
   subst hn0
   have hC0 : C = #[] := by
    have : C.size = 0 := by omega
    exact Array.eq_empty_of_size_eq_zero this
   refine ⟨_, S.ι, S.w, ?_, hR, Ev.refl S, Non.refl S, hs'⟩
   rw [(hrun base len cap).1 (by omega), hC0]
   cases base <;> simp [storeCells]
  ·rename_i hn0
   split at h
   case isFalse => cases h
   case isTrue hg =>
   obtain ⟨hcl, hbig⟩ := hg
   have hsum : (cells ++ new).length = (len + n) * size := by simp [Nat.add_mul]; omega
   obtain ⟨old, hold, holdrun⟩ := sl_cells (P := P) hcl hs'
   have holds := hold.toArray
   have hcat : ∀ newCap, VRels S (cells ++ new) ((old ++ C ++ Builtin.zeroCells z.cells (newCap - (len + n))).toList.take (cells ++ new).length) := by
    intro newCap
    rw [show (old ++ C ++ Builtin.zeroCells z.cells (newCap - (len + n))).toList.take (cells ++ new).length = old.toList ++ C.toList by
     simp only [Array.toList_append]
     rw [List.take_append_of_le_length (by simp; omega), List.take_of_length_le (by simp; omega)]]
    exact hold.append hnew
   have hsz : ∀ newCap, len + n ≤ newCap → newCap * size ≤ (old ++ C ++ Builtin.zeroCells z.cells (newCap - (len + n))).size ∧ (cells ++ new).length ≤ (old ++ C ++ Builtin.zeroCells z.cells (newCap - (len + n))).size := by
    intro newCap hle
    have hsub : (newCap - (len + n)) * size = newCap * size - (len + n) * size := Nat.sub_mul ..
    have hmul : (len + n) * size ≤ newCap * size := Nat.mul_le_mul_right _ hle
    simp only [Array.size_append, zeroCells_size, hzsz]
    rw [hsum]
    simp only [List.length_append] at hsum
    omega
   split at h
   ·cases h
   ·-- full
    have hcap : cap = len := htail
    obtain ⟨newCap, w1, hc1, ⟨hw1, hre1⟩, hr⟩ := (hrun base len cap).2 (by omega) (by omega) (by omega) z old hiz holdrun
    split at h
    ·cases h
     obtain ⟨k1, k2, k3⟩ := mgrown_new hR (cells := cells ++ new) (len := len + n) (cap := newCap) (sz := size) (C := old ++ C ++ Builtin.zeroCells z.cells (newCap - (len + n))) (e := e)
      (w' := { w1 with heap := w1.heap.push (.cells (old ++ C ++ Builtin.zeroCells z.cells (newCap - (len + n))) e) }) (by simp [hw1]) hre1 (hcat newCap) hc1 (hsz newCap hc1).1
     exact ⟨_, _, _, hr, k1, k2, Non.alloc, k3⟩
    cases h
    obtain ⟨k1, k2, k3⟩ := grown_new hR (cells := cells ++ new) (len := len + n) (cap := newCap) (sz := size) (C := old ++ C ++ Builtin.zeroCells z.cells (newCap - (len + n))) (e := e)
     (w' := { w1 with heap := w1.heap.push (.cells (old ++ C ++ Builtin.zeroCells z.cells (newCap - (len + n))) e) }) (by simp [hw1]) hre1 (hcat newCap) hsum hc1 (hsz newCap hc1).1 (hsz newCap hc1).2
    exact ⟨_, _, _, hr, k1, k2, Non.alloc, k3⟩
   ·-- its own row
    rename_i id g sz
    cases hB : S.H[id]? with
    | none => simp [hB] at h
    | some B =>
    cases B with
    | row g0 =>
     simp only [hB] at h
     split at h
     case isFalse => cases h
     case isTrue hg =>
     obtain ⟨rfl, rfl, hone⟩ := hg
     cases h
     obtain ⟨_, g1, hB', _, hloc⟩ := htail
     rw [hB] at hB'; cases hB'
     by_cases hfit : len + n ≤ cap
     ·rcases hloc rfl with hcap | ⟨b, o, C0, t, rfl, hi0, hC0, hcap⟩
      ·omega
      ·have hrow : cells = [] ∨ VRow S b o cells := by
        rcases hcells with hc | ⟨b', o', he, _, hr⟩
        ·exact .inl hc
        ·cases he; exact .inr hr
       obtain ⟨w', k0, k1, k2, k3⟩ := grown_here (P := P) hR hB hi0 hC0 hcap hrow hnew hone hcl hnl hfit
       refine ⟨_, _, w', ?_, k1, k2, Non.row hB, k3⟩
       rw [(hrun _ len cap).1 hfit]
       simp only [k0, Result.andThen_ok]
     ·obtain ⟨newCap, w1, hc1, ⟨hw1, hre1⟩, hr⟩ := (hrun base len cap).2 (by omega) (by omega) (by omega) z old hiz holdrun
      obtain ⟨k1, k2, k3⟩ := grown_move hR (cells := cells ++ new) (len := len + n) (cap := newCap) (C := old ++ C ++ Builtin.zeroCells z.cells (newCap - (len + n))) (e := e)
       (w' := { w1 with heap := w1.heap.push (.cells (old ++ C ++ Builtin.zeroCells z.cells (newCap - (len + n))) e) }) hB (by simp [hw1]) hre1 (hcat newCap) hsum hc1 (hsz newCap hc1).1 (hsz newCap hc1).2
      exact ⟨_, _, _, hr, k1, k2, Non.row hB, k3⟩
    | _ => simp [hB] at h
 ·cases h
end Go.Vm

namespace Go.Vm
variable [Outer]
variable {P : Program}
def callable (P : Program) (f : FuncId) : Bool := match P.funcs[f]? with | some fn => fn.body.isSome && fn.name != "runtime.NumGoroutine" | none => false
inductive AR where
 | val (v : AV) (H : List Blk)
 | call (f : FuncId) (args : List AV)
 | round (id : Nat) (args : List AV)
 | pan (v : AV)
def AR.Ok (P : Program) (S : Sit) (r : AR) (x : Result Next) : Prop :=
  match r with
  | .val v H' => ∃ c ι' w', (x = .ok (.value c) w' ∨ (x = .ok .skip w' ∧ c = undef)) ∧ Rel ⟨H', ι', w'⟩ ∧ Ev S ⟨H', ι', w'⟩ ∧ Non S ⟨H', ι', w'⟩ ∧ VRel ⟨H', ι', w'⟩ v c
  | .call f args => callable P f = true → ∃ cs : Array Value, x = .ok (.enter f cs) S.w ∧ VRels S args cs.toList
  | .round id args => ∃ b wm L, ∃ cs : Array Value, S.ι id = some (b, wm) ∧ notRow S.H id ∧ S.w.heap[b]? = some (.loop L) ∧ cs.size = L.params.size ∧
      x = .ok (.round b L.fn ((L.params.zip cs).foldl (fun tmps (t, a) => tmps.setIfInBounds t a) L.tmps) L.assign L.body) S.w ∧ VRels S args cs.toList
  | .pan v => ∃ c, x = .halt (.panic c) S.w ∧ VRel S v c
theorem AR.Ok.here {S : Sit} (hR : Rel S) {v : AV} {c : Value} {x : Result Next} (hx : x = .ok (.value c) S.w) (hv : VRel S v c) : AR.Ok P S (.val v S.H) x :=
 ⟨c, S.ι, S.w, .inl hx, hR, Ev.refl S, Non.refl S, hv⟩
def cellsAt (H : List Blk) : AV → Option (List AV)
 | .ptr id off => match H[id]? with
  | some (.box cells _) => some (cells.drop off)
  | _ => none
 | .eptr cells => some cells
 | .mptr id gen off => match H[id]? with
  | some (.mrow g cells) => if g = gen then some (cells.drop off) else none
  | _ => none
 | _ => none
theorem cellsAt_sound {S : Sit} (hR : Rel S) {x : AV} {c : Value} {cells : List AV} (h : cellsAt S.H x = some cells) (hx : VRel S x c) :
  ∃ b o, c = .pointer (some ⟨b, o, none⟩) ∧ ∃ cs : List Value, VRels S cells cs ∧ ∀ i d, cs[i]? = some d → S.w.cell? ⟨b, o + i, none⟩ = some d := by
 unfold cellsAt at h
 split at h
 ·rename_i id off
  cases hB : S.H[id]? with
  | none => simp [hB] at h
  | some B =>
   cases B with
   | box cells' t =>
    simp only [hB] at h; cases h
    simp only [VRel] at hx
    obtain ⟨b, wm, hi, _, rfl⟩ := hx
    obtain ⟨B, hB', hrel⟩ := hR.blk id b wm hi
    rw [hB] at hB'; cases hB'
    obtain ⟨C, hC, hr⟩ := hrel
    refine ⟨b, off, rfl, C.toList.drop off, hr.drop off, fun i d hd => ?_⟩
    rw [cell_eq, hC]
    simpa using hd
   | _ => simp [hB] at h
 ·rename_i cells'
  cases h
  simp only [VRel] at hx
  obtain ⟨b, o, rfl, _, hr⟩ := hx
  obtain ⟨cs, h1, h2⟩ := hr.vals
  exact ⟨b, o, rfl, cs, h1, h2⟩
 ·rename_i id gen off
  cases hB : S.H[id]? with
  | none => simp [hB] at h
  | some B =>
   cases B with
   | mrow g cells' =>
    simp only [hB] at h
    split at h
    ·rename_i hg
     subst hg
     cases h
     simp only [VRel] at hx
     obtain ⟨b, o, rfl, hm⟩ := hx
     obtain ⟨b', wm, C, t, hi, hC, rfl, rfl⟩ := hm.here hB
     obtain ⟨C', t', hC', hr⟩ := get_mrow hR hi hB
     rw [hC] at hC'; cases hC'
     refine ⟨b', o, rfl, (C.toList.take cells'.length).drop o, hr.drop o, fun i d hd => ?_⟩
     rw [cell_eq, hC]
     rw [List.getElem?_drop, List.getElem?_take] at hd
     split at hd
     ·simpa using hd
     ·cases hd
    ·cases h
   | _ => simp [hB] at h
 ·cases h
def loadOp (P : Program) (H : List Blk) (t : TypeId) (x : AV) : Option AV := (cellsAt H x).bind (loadA P t)
theorem loadOp_sound {S : Sit} (hR : Rel S) {t : TypeId} {x v : AV} {c : Value} (h : loadOp P S.H t x = some v) (hx : VRel S x c) :
  ∃ d, (Instr.loadAt t c).run P S.w = .ok d S.w ∧ VRel S v d := by
 unfold loadOp at h
 cases hc : cellsAt S.H x with
 | none => simp [hc] at h
 | some cells =>
  simp only [hc, Option.bind_some] at h
  obtain ⟨b, o, rfl, cs, h1, h2⟩ := cellsAt_sound hR hc hx
  obtain ⟨d, hd, hv⟩ := run_loadA h h1 h2
  refine ⟨d, ?_, hv⟩
  unfold Instr.loadAt
  rw [Sem.run_bind]
  exact hd
def storeOp (P : Program) (H : List Blk) (t : TypeId) (x v : AV) : Option (List Blk) :=
 match x with
 | .ptr id off => match H[id]?, tsz P t with
  | some (.box cells bt), some n => if v.cellsOf.length = n ∧ off + n ≤ cells.length ∧ v.cellsOf.all AV.one = true then some (H.set id (.box (splice cells off v.cellsOf) bt)) else none
  | _, _ => none
 | .mptr id gen off => match H[id]?, tsz P t with
  | some (.mrow g cells), some n => if g = gen ∧ v.cellsOf.length = n ∧ off + n ≤ cells.length ∧ v.cellsOf.all AV.one = true then some (H.set id (.mrow g (splice cells off v.cellsOf))) else none
  | _, _ => none
 | _ => none
theorem storeOp_sound {S : Sit} (hR : Rel S) {t : TypeId} {x v : AV} {c d : Value} {H' : List Blk} (h : storeOp P S.H t x v = some H') (hx : VRel S x c) (hv : VRel S v d) :
  ∃ w', (Instr.storeAt t c d).run P S.w = .ok () w' ∧ Rel ⟨H', S.ι, w'⟩ ∧ Ev S ⟨H', S.ι, w'⟩ := by
 unfold storeOp at h
 split at h
 ·rename_i id off
  split at h
  ·rename_i cells bt n hB ht
   split at h
   ·rename_i hg
    cases h
    simp only [VRel] at hx
    obtain ⟨b, wm, hi, _, rfl⟩ := hx
    obtain ⟨w', h1, h2, h3⟩ := store_box (P := P) hR hi hB hv ht hg.1 hg.2.1 hg.2.2
    refine ⟨w', ?_, h2, h3⟩
    unfold Instr.storeAt
    rw [Sem.run_bind]
    exact h1
   ·cases h
  ·cases h
 ·rename_i id gen off
  split at h
  ·rename_i g cells n hB ht
   split at h
   ·rename_i hg
    obtain ⟨rfl, hg⟩ := hg
    cases h
    simp only [VRel] at hx
    obtain ⟨b, o, rfl, hm⟩ := hx
    obtain ⟨b', wm, C, t, hi, hC, rfl, rfl⟩ := hm.here hB
    obtain ⟨w', h1, h2, h3⟩ := store_mrow (P := P) hR hi hB hv ht hg.1 hg.2.1 hg.2.2
    refine ⟨w', ?_, h2, h3⟩
    unfold Instr.storeAt
    rw [Sem.run_bind]
    exact h1
   ·cases h
  ·cases h
 ·cases h
def tfield (P : Program) (t : TypeId) (i : Nat) : Option Field := match P.underlying t with | some (.struct fs) => fs[i]? | _ => none
omit [Outer] in
theorem tfield_eq {t : TypeId} {i : Nat} {f : Field} (h : tfield P t i = some f) : ∃ fs, P.underlying t = some (.struct fs) ∧ fs[i]? = some f := by
 unfold tfield at h
 split at h
 ·rename_i fs h'; exact ⟨fs, h', h⟩
 ·cases h
def moveA (n : Nat) : AV → Option AV
 | .ptr id off => some (.ptr id (off + n))
 | .eptr cells => if n ≤ cells.length then some (.eptr (cells.drop n)) else none
 | .mptr id gen off => some (.mptr id gen (off + n))
 | _ => none
theorem Fix.drop {S : Sit} {b o : Nat} {cells : List AV} (n : Nat) (h : Fix S b (o + cells.length)) (hn : n ≤ cells.length) : Fix S b (o + n + (cells.drop n).length) := by
 rw [List.length_drop, show o + n + (cells.length - n) = o + cells.length by omega]; exact h
theorem Fix.mono {S : Sit} {b lim lim' : Nat} (h : Fix S b lim) (hl : lim' ≤ lim) : Fix S b lim' := by
 obtain ⟨C, t, f, a, hs, r, ro⟩ := h
 exact ⟨C, t, f, a, by omega, fun id wm e => ⟨(r id wm e).1, by have := (r id wm e).2; omega⟩, fun x e => by obtain ⟨l, hx, hl'⟩ := ro x e; exact ⟨l, hx, by omega⟩⟩
theorem moveA_sound {S : Sit} {n : Nat} {x y : AV} {c : Value} (h : moveA n x = some y) (hx : VRel S x c) :
  ∃ b o, c = .pointer (some ⟨b, o, none⟩) ∧ VRel S y (.pointer (some ⟨b, o + n, none⟩)) := by
 unfold moveA at h
 split at h
 ·rename_i id off
  cases h
  simp only [VRel] at hx
  obtain ⟨b, wm, hi, hn, rfl⟩ := hx
  exact ⟨b, off, rfl, by simp only [VRel]; exact ⟨b, wm, hi, hn, rfl⟩⟩
 ·rename_i cells
  split at h
  ·rename_i hn
   cases h
   simp only [VRel] at hx
   obtain ⟨b, o, rfl, hf, hr⟩ := hx
   exact ⟨b, o, rfl, by simp only [VRel]; exact ⟨b, o + n, rfl, hf.drop n hn, hr.drop b n⟩⟩
  ·cases h
 ·rename_i id gen off
  cases h
  simp only [VRel] at hx
  obtain ⟨b, o, rfl, B, g, hB, hm, hle, k⟩ := hx
  refine ⟨b, o, rfl, ?_⟩
  simp only [VRel]
  refine ⟨b, o + n, rfl, B, g, hB, hm, hle, fun h1 h2 => ?_⟩
  obtain ⟨b', wm, C, t, hi, hC, h3, h4⟩ := k h1 h2
  exact ⟨b', wm, C, t, hi, hC, h3, by rw [h4]⟩
 ·cases h
def fieldOp (P : Program) (t : TypeId) (x : AV) (i : Nat) : Option AV :=
 match tfield P t i with
 | some f => match tsz P f.type with
  | some (_ + 1) => moveA f.offset x
  | _ => none
 | none => none
theorem fieldOp_sound {S : Sit} {t : TypeId} {x y : AV} {i : Nat} {c : Value} (h : fieldOp P t x i = some y) (hx : VRel S x c) :
  ∃ d, (Instr.fieldAt t c i).run P S.w = .ok d S.w ∧ VRel S y d := by
 unfold fieldOp at h
 cases hf : tfield P t i with
 | none => simp [hf] at h
 | some f =>
  simp only [hf] at h
  split at h
  ·rename_i n hs
   obtain ⟨fs, hu, hi⟩ := tfield_eq hf
   obtain ⟨b, o, rfl, hv⟩ := moveA_sound h hx
   refine ⟨_, ?_, hv⟩
   unfold Instr.fieldAt
   rw [Sem.run_bind, run_underlying hu]
   simp only [Result.andThen_ok, hi]
   rw [Sem.run_bind]
   show ((fieldPlace ⟨b, o, none⟩ f >>= fun a => pure (Value.pointer (some a)) : Sem Value)).run P S.w = _
   rw [Sem.run_bind]
   unfold fieldPlace
   rw [Sem.run_bind, run_tsz hs]
   simp only [Result.andThen_ok]
   rw [if_neg (by omega), add_addr]
   rfl
  ·cases h
def indexOp (P : Program) (t : TypeId) (x ix : AV) : Option AV :=
 match ix with
 | .lit (.int _ i) =>
  match P.underlying t with
  | some (.array len elem) => match tsz P elem with
   | some n => if 0 ≤ i ∧ i < len then moveA (i.toNat * n) x else none
   | none => none
  | some (.slice elem) => match tsz P elem with
   | some n => match x with
    | .sl len cells _ => if 0 ≤ i ∧ i < len ∧ i.toNat * n + n ≤ cells.length ∧ 0 < n then some (.eptr ((cells.drop (i.toNat * n)).take n)) else none
    | .hsl id off len _ => if 0 ≤ i ∧ i < len then some (.ptr id (off + i.toNat * n)) else none
    | .msl id gen len _ => if 0 ≤ i ∧ i < len then some (.mptr id gen (i.toNat * n)) else none
    | _ => none
   | none => none
  | _ => none
 | _ => none
theorem indexOp_sound {S : Sit} {t : TypeId} {x ix y : AV} {c ci : Value} (h : indexOp P t x ix = some y) (hx : VRel S x c) (hi : VRel S ix ci) :
  ∃ d, (Instr.indexAt t c ci).run P S.w = .ok d S.w ∧ VRel S y d := by
 unfold indexOp at h
 split at h
 case h_2 => cases h
 rename_i k i
 simp only [VRel] at hi; subst hi
 split at h
 ·rename_i len elem hu
  cases hs : tsz P elem with
  | none => simp [hs] at h
  | some n =>
   simp only [hs] at h
   split at h
   ·rename_i hb
    obtain ⟨b, o, rfl, hv⟩ := moveA_sound h hx
    refine ⟨_, ?_, hv⟩
    unfold Instr.indexAt
    rw [Sem.run_bind]
    simp only [asIntOf, Sem.run_pure, Result.andThen_ok]
    rw [Sem.run_bind, run_underlying hu]
    simp only [Result.andThen_ok, Instr.sureAddr]
    simp [hb.1, hb.2, run_tsz hs, run_underlying hu, add_addr]
   ·cases h
 ·rename_i elem hu
  cases hs : tsz P elem with
  | none => simp [hs] at h
  | some n =>
   simp only [hs] at h
   split at h
   ·rename_i len cells tail
    split at h
    ·rename_i hb
     cases h
     simp only [VRel] at hx
     obtain ⟨base, cap, rfl, hle, hc, _⟩ := hx
     rcases hc with rfl | ⟨b, o, rfl, hf, hr⟩
     ·simp at hb; omega
     ·refine ⟨.pointer (some ⟨b, o + i.toNat * n, none⟩), ?_, ?_⟩
      ·unfold Instr.indexAt
       rw [Sem.run_bind]
       simp only [asIntOf, Sem.run_pure, Result.andThen_ok]
       rw [Sem.run_bind, run_underlying hu]
       simp only [Result.andThen_ok]
       simp [hb.1, hb.2.1, run_tsz hs, run_underlying hu, add_addr]
      ·simp only [VRel]
       refine ⟨b, _, rfl, hf.mono (by simp; omega), ?_⟩
       exact VRow.take b n (VRow.drop b (i.toNat * n) hr)
    ·cases h
   ·rename_i id off len cap
    split at h
    ·rename_i hb
     cases h
     simp only [VRel] at hx
     obtain ⟨b, wm, hi, hn, rfl⟩ := hx
     refine ⟨.pointer (some ⟨b, off + i.toNat * n, none⟩), ?_, by simp only [VRel]; exact ⟨b, wm, hi, hn, rfl⟩⟩
     unfold Instr.indexAt
     rw [Sem.run_bind]
     simp only [asIntOf, Sem.run_pure, Result.andThen_ok]
     rw [Sem.run_bind, run_underlying hu]
     simp only [Result.andThen_ok]
     simp [hb.1, hb.2, run_tsz hs, run_underlying hu, add_addr]
    ·cases h
   ·rename_i id gen len sz
    split at h
    ·rename_i hb
     cases h
     simp only [VRel] at hx
     obtain ⟨b, cap, rfl, hle, B, g, hB, hm, hgl, kk⟩ := hx
     refine ⟨.pointer (some ⟨b, 0 + i.toNat * n, none⟩), ?_, ?_⟩
     ·unfold Instr.indexAt
      rw [Sem.run_bind]
      simp only [asIntOf, Sem.run_pure, Result.andThen_ok]
      rw [Sem.run_bind, run_underlying hu]
      simp only [Result.andThen_ok]
      simp [hb.1, hb.2, run_tsz hs, run_underlying hu, add_addr]
     ·simp only [VRel]
      refine ⟨b, 0 + i.toNat * n, rfl, B, g, hB, hm, hgl, fun h1 h2 => ?_⟩
      obtain ⟨b', wm, C, t, hi, hC, h3, _⟩ := kk h1 h2
      exact ⟨b', wm, C, t, hi, hC, h3, by omega⟩
    ·cases h
   ·cases h
 ·cases h
end Go.Vm

namespace Go.Vm
variable [Outer]
variable {P : Program}
def fillA (place : Nat → Option (Nat × Nat)) (cells : List AV) : List (Nat × AV) → Option (List AV)
 | [] => some cells
 | (i, v) :: rest =>
  match place i with
  | none => none
  | some (off, size) =>
   if v.cellsOf.length = size ∧ off + size ≤ cells.length then fillA place (splice cells off v.cellsOf) rest else none
def PRels (S : Sit) : List (Nat × AV) → List (Nat × Value) → Prop
 | [], [] => True
 | (i, a) :: as, (j, c) :: cs => i = j ∧ VRel S a c ∧ PRels S as cs
 | _, _ => False
omit [Outer] in
theorem foldl_splice (off : Nat) : ∀ (vs : List Value) (k : Nat) (C : Array Value), off + k + vs.length ≤ C.size →
  ((vs.zipIdx k).foldl (fun cs (c, j) => cs.setIfInBounds (off + j) c) C).toList = splice C.toList (off + k) vs
 | [], k, C, _ => by simp [splice_nil]
 | v :: vs, k, C, h => by
  simp only [List.length_cons] at h
  simp only [List.zipIdx_cons, List.foldl_cons]
  rw [foldl_splice off vs (k + 1) _ (by rw [Array.size_setIfInBounds]; omega), Array.toList_setIfInBounds, show off + (k + 1) = off + k + 1 by omega,
   splice_cons _ _ _ _ (by simp only [List.length_cons, Array.length_toList]; omega)]
theorem fillA_sound {S : Sit} {place : Nat → Option (Nat × Nat)} : ∀ {parts : List (Nat × AV)} {cparts : List (Nat × Value)} {cells out : List AV} {C : Array Value},
  fillA place cells parts = some out → VRels S cells C.toList → PRels S parts cparts →
  ∃ D : Array Value, Instr.fill place C cparts = some D ∧ VRels S out D.toList
 | [], [], cells, out, C, h, hc, _ => by simp only [fillA, Option.some.injEq] at h; subst h; exact ⟨C, rfl, hc⟩
 | [], _ :: _, _, _, _, _, _, hp => by simp [PRels] at hp
 | _ :: _, [], _, _, _, _, _, hp => by simp [PRels] at hp
 | (i, a) :: as, (j, c) :: cs, cells, out, C, h, hc, hp => by
  simp only [PRels] at hp
  obtain ⟨rfl, hv, hp⟩ := hp
  simp only [fillA] at h
  cases hpl : place i with
  | none => simp [hpl] at h
  | some q =>
   obtain ⟨off, size⟩ := q
   simp only [hpl] at h
   split at h
   ·rename_i hg
    have hvc := hv.cells
    have hl1 := hvc.length
    have hl2 := hc.length
    simp only [Array.length_toList] at hl1 hl2
    have hfold := foldl_splice off c.cells.toList 0 C (by simp; omega)
    have e : (c.cells.zipIdx.foldl (fun cs (c, j) => cs.setIfInBounds (off + j) c) C) = (c.cells.toList.zipIdx 0).foldl (fun cs (c, j) => cs.setIfInBounds (off + j) c) C := by
     rw [← Array.foldl_toList, Array.toList_zipIdx]
    obtain ⟨D, hD, hr⟩ := fillA_sound (C := (c.cells.toList.zipIdx 0).foldl (fun cs (c, j) => cs.setIfInBounds (off + j) c) C) h
     (by rw [hfold]; exact hc.splice off hvc) hp
    refine ⟨D, ?_, hr⟩
    simp only [Instr.fill, hpl]
    rw [if_neg (by simp; omega), e]
    exact hD
   ·cases h
def buildOp (P : Program) (t : TypeId) (parts : List (Nat × AV)) : Option AV :=
 match tz P t, P.underlying t with
 | some z, some (.struct fs) =>
  match fs.toList.mapM fun f => (tsz P f.type).map fun n => (f.offset, n) with
  | some places => (fillA (fun i => places[i]?) (z.cells.toList.map .lit) parts).map .agg
  | none => none
 | some z, some (.array _ elem) =>
  match tsz P elem with
  | some n => (fillA (fun i => some (i * n, n)) (z.cells.toList.map .lit) parts).map .agg
  | none => none
 | _, _ => none
omit [Outer] in
theorem run_mapM_places {w : World} : ∀ {fs : List Field} {places : List (Nat × Nat)}, (fs.mapM fun f => (tsz P f.type).map fun n => (f.offset, n)) = some places →
  (fs.mapM fun f => (do pure (f.offset, ← sizeOf f.type) : Sem (Nat × Nat))).run P w = .ok places w
 | [], places, h => by simp at h; subst h; rfl
 | f :: fs, places, h => by
  rw [List.mapM_cons] at h
  cases hs : tsz P f.type with
  | none => simp [hs] at h
  | some n =>
   cases hm : (fs.mapM fun f => (tsz P f.type).map fun n => (f.offset, n)) with
   | none => simp [hs, hm] at h
   | some ps =>
    have ih := run_mapM_places (w := w) hm
    simp [hs, hm] at h
    subst h
    rw [List.mapM_cons, Sem.run_bind, Sem.run_bind, run_tsz hs]
    simp only [Result.andThen_ok, Sem.run_pure]
    rw [Sem.run_bind, ih]
    rfl
theorem buildOp_sound {S : Sit} {t : TypeId} {parts : List (Nat × AV)} {cparts : Array (Nat × Value)} {v : AV} (h : buildOp P t parts = some v) (hp : PRels S parts cparts.toList) :
  ∃ c, (Instr.build t cparts).run P S.w = .ok c S.w ∧ VRel S v c := by
 unfold buildOp at h
 split at h
 ·rename_i z fs hz hu
  split at h
  ·rename_i places hpl
   cases hf : fillA (fun i => places[i]?) (z.cells.toList.map .lit) parts with
   | none => simp [hf] at h
   | some cells =>
    simp only [hf, Option.map_some, Option.some.injEq] at h
    subst h
    obtain ⟨D, hD, hr⟩ := fillA_sound hf (VRels.map_lit _) hp
    refine ⟨.agg D, ?_, by simp only [VRel]; exact ⟨D, rfl, hr⟩⟩
    unfold Instr.build
    rw [Sem.run_bind, run_tz hz]
    simp only [Result.andThen_ok]
    rw [Sem.run_bind, run_underlying hu]
    simp only [Result.andThen_ok]
    have hm : (fs.mapM fun f => (do pure (f.offset, ← sizeOf f.type) : Sem (Nat × Nat))).run P S.w = .ok places.toArray S.w := by
     have e := run_mapM_places (w := S.w) hpl
     rw [show fs.mapM (fun f => (do pure (f.offset, ← sizeOf f.type) : Sem (Nat × Nat))) = (fs.toList.mapM fun f => (do pure (f.offset, ← sizeOf f.type) : Sem (Nat × Nat))) >>= fun l => pure l.toArray from by
      rw [← Array.toArray_toList (xs := fs), List.mapM_toArray]; simp]
     rw [Sem.run_bind, e]
     rfl
    rw [Sem.run_bind, hm]
    simp only [Result.andThen_ok]
    have e2 : (fun x : Nat => places.toArray[x]?) = fun i : Nat => places[i]? := by funext i; simp
    rw [e2, hD]
    rfl
  ·cases h
 ·rename_i z k elem hz hu
  cases hs : tsz P elem with
  | none => simp [hs] at h
  | some n =>
   simp only [hs] at h
   cases hf : fillA (fun i => some (i * n, n)) (z.cells.toList.map .lit) parts with
   | none => simp [hf] at h
   | some cells =>
    simp only [hf, Option.map_some, Option.some.injEq] at h
    subst h
    obtain ⟨D, hD, hr⟩ := fillA_sound hf (VRels.map_lit _) hp
    refine ⟨.agg D, ?_, by simp only [VRel]; exact ⟨D, rfl, hr⟩⟩
    unfold Instr.build
    rw [Sem.run_bind, run_tz hz]
    simp only [Result.andThen_ok]
    rw [Sem.run_bind, run_underlying hu]
    simp only [Result.andThen_ok]
    rw [Sem.run_bind, run_tsz hs]
    simp only [Result.andThen_ok, hD]
    rfl
 ·cases h
def zeros (zero : List Value) : Nat → List Value
 | 0 => []
 | n + 1 => zero ++ zeros zero n
omit [Outer] in
theorem range_zeros (zero : Array Value) (n : Nat) (_hz : 0 < zero.size) : ((Array.range (n * zero.size)).map fun i => zero[i % zero.size]!).toList = zeros zero.toList n := by
 induction n with
 | zero => simp [zeros]
 | succ n ih =>
  have e : Array.range ((n + 1) * zero.size) = Array.range zero.size ++ (Array.range (n * zero.size)).map (zero.size + ·) := by
   rw [Nat.succ_mul, Nat.add_comm, Array.range_add]
  rw [e]
  simp only [Array.map_append, Array.toList_append, zeros]
  congr 1
  ·apply List.ext_getElem?
   intro i
   by_cases hi : i < zero.size
   ·simp [hi, Nat.mod_eq_of_lt hi]
   ·simp [hi]
  ·rw [← ih]
   simp [Array.map_map, Function.comp_def]
def buildSliceOp (P : Program) (t : TypeId) (len : Nat) (parts : List (Nat × AV)) : Option AV :=
 match tslice P t with
 | none => none
 | some e => match tsz P e, tz P e with
  | some size, some z =>
   if z.cells.size = size ∧ 0 < size ∧ len * size ≤ 16777216 then
    (fillA (fun i => some (i * size, size)) ((zeros z.cells.toList len).map .lit) parts).bind fun cells =>
     if cells.length = len * size then some (.sl len cells .full) else none
   else none
  | _, _ => none
theorem buildSliceOp_sound {S : Sit} (hR : Rel S) {t : TypeId} {len : Nat} {parts : List (Nat × AV)} {cparts : Array (Nat × Value)} {v : AV} (h : buildSliceOp P t len parts = some v)
  (hp : PRels S parts cparts.toList) :
  ∃ c w', (Instr.buildSlice t len cparts).run P S.w = .ok c w' ∧ Rel ⟨S.H, S.ι, w'⟩ ∧ Ev S ⟨S.H, S.ι, w'⟩ ∧ VRel ⟨S.H, S.ι, w'⟩ v c := by
 unfold buildSliceOp at h
 cases hsl : tslice P t with
 | none => simp [hsl] at h
 | some e =>
 cases hs : tsz P e with
 | none => simp [hsl, hs] at h
 | some size =>
 cases hz : tz P e with
 | none => simp [hsl, hs, hz] at h
 | some z =>
 simp only [hsl, hs, hz] at h
 split at h
 case isFalse => cases h
 case isTrue hg =>
 obtain ⟨hzs, hpos, hbig⟩ := hg
 cases hf : fillA (fun i => some (i * size, size)) ((zeros z.cells.toList len).map .lit) parts with
 | none => simp [hf] at h
 | some cells =>
 simp only [hf, Option.bind_some] at h
 split at h
 case isFalse => cases h
 case isTrue hcl =>
 cases h
 have hzer : VRels S ((zeros z.cells.toList len).map .lit) (((Array.range (len * size)).map fun i => z.cells[i % z.cells.size]!).toList) := by
  have := range_zeros z.cells len (by omega)
  rw [← hzs, this]
  exact VRels.map_lit _
 obtain ⟨D, hD, hr⟩ := fillA_sound hf hzer hp
 obtain ⟨w', hrun, hw, _, hR', hev, hfix, hrow⟩ := new_row (P := P) hR e hr []
 have hDs := hr.toArray
 simp only [List.append_nil] at hR' hev hfix hrow
 refine ⟨.slice (some ⟨S.w.heap.size, 0, none⟩) len len, w', ?_, hR', hev, ?_⟩
 ·unfold Instr.buildSlice
  rw [Sem.run_bind, run_underlying (tslice_eq hsl)]
  simp only [Result.andThen_ok]
  rw [Sem.run_bind, run_tsz hs]
  simp only [Result.andThen_ok]
  have h24 : (2 : Nat) ^ 24 = 16777216 := by simp
  have hnb : ¬ (len * size > 2 ^ 24) := by rw [h24]; omega
  rw [if_neg hnb]
  by_cases hl0 : len * size = 0
  ·rw [if_pos hl0]
   rw [Sem.run_bind]
   simp only [Sem.run_pure, Result.andThen_ok]
   have e0 : ((Array.range (len * size)).map fun i => (#[] : Array Value)[i % (#[] : Array Value).size]!) = ((Array.range (len * size)).map fun i => z.cells[i % z.cells.size]!) := by rw [hl0]; simp
   rw [e0, hD]
   rw [Sem.run_bind, hrun]
   rfl
  ·rw [if_neg hl0]
   rw [Sem.run_bind, run_tz hz]
   simp only [Result.andThen_ok]
   rw [Sem.run_bind]
   simp only [Sem.run_pure, Result.andThen_ok]
   rw [hD]
   rw [Sem.run_bind, hrun]
   rfl
 ·simp only [VRel]
  refine ⟨_, len, rfl, Nat.le_refl _, .inr ⟨_, 0, rfl, hfix _ (by omega), hrow⟩, rfl⟩
end Go.Vm

namespace Go.Vm
variable [Outer]
variable {P : Program}
def binInt (op : BinOp) (k : IntKind) (a b : Int) : Option Value :=
 match op with
 | .add => some (.int k (k.wrap (a + b)))
 | .sub => some (.int k (k.wrap (a - b)))
 | .mul => some (.int k (k.wrap (a * b)))
 | .quo => if b = 0 then none else some (.int k (k.wrap (a.tdiv b)))
 | .rem => if b = 0 then none else some (.int k (a.tmod b))
 | .and => some (.int k (k.wrap (BitVec.ofInt k.bits a &&& BitVec.ofInt k.bits b).toNat))
 | .or => some (.int k (k.wrap (BitVec.ofInt k.bits a ||| BitVec.ofInt k.bits b).toNat))
 | .eql => some (.bool (a == b))
 | .neq => some (.bool (a != b))
 | .lss => some (.bool (a < b))
 | .leq => some (.bool (a ≤ b))
 | .gtr => some (.bool (a > b))
 | .geq => some (.bool (a ≥ b))
 | _ => none
def binStr (op : BinOp) (a b : ByteArray) : Option Value :=
 match op with
 | .add => if a.size + b.size ≤ 1073741824 then some (.string (a ++ b)) else none
 | .eql => some (.bool (a.toList == b.toList))
 | .neq => some (.bool !(a.toList == b.toList))
 | _ => none
def binLit (P : Program) (op : BinOp) (t : TypeId) (x y : Value) : Option Value :=
 match x, y with
 | .int k a, .int k' b =>
  match op with
  | .shl => if 0 ≤ b then some (.int k (k.wrap (a * 2 ^ (min b.toNat k.bits)))) else none
  | .shr => if 0 ≤ b then some (.int k (a.fdiv (2 ^ (min b.toNat k.bits)))) else none
  | _ => if k = k' then binInt op k a b else none
 | .string a, .string b => binStr op a b
 | .bool a, .bool b => match P.underlying t, op with
  | some .bool, .eql => some (.bool (a == b))
  | some .bool, .neq => some (.bool !(a == b))
  | _, _ => none
 | .slice none _ _, .slice b _ _ => match P.underlying t, op with
  | some (.slice _), .eql => some (.bool b.isNone)
  | some (.slice _), .neq => some (.bool !b.isNone)
  | _, _ => none
 | .slice (some _) _ _, .slice none _ _ => match P.underlying t, op with
  | some (.slice _), .eql => some (.bool false)
  | some (.slice _), .neq => some (.bool true)
  | _, _ => none
 | _, _ => none
omit [Outer] in
theorem equalIn_slice_nil {t e : TypeId} (d : Nat) (w : World) (hu : P.underlying t = some (.slice e)) (a : Option Addr) (l k l' k' : Nat) :
  (Op.equalIn (d + 1) t (.slice a l k) (.slice none l' k')).run P w = .ok a.isNone w := by
 cases a <;> simp [Op.equalIn, run_underlying hu]
omit [Outer] in
theorem equalIn_nil_slice {t e : TypeId} (d : Nat) (w : World) (hu : P.underlying t = some (.slice e)) (a : Option Addr) (l k l' k' : Nat) :
  (Op.equalIn (d + 1) t (.slice none l' k') (.slice a l k)).run P w = .ok a.isNone w := by
 cases a <;> simp [Op.equalIn, run_underlying hu]
omit [Outer] in
theorem binLit_sound {op : BinOp} {t : TypeId} {x y v : Value} (h : binLit P op t x y = some v) (w : World) : (binOp op t x y).run P w = .ok v w := by
  unfold binLit at h
  split at h
  · rename_i k a k' b
    split at h
    · split at h
      · rename_i hb; cases h
        simp only [binOp, Op.shift]
        rw [if_neg (by omega)]
        rfl
      · cases h
    · split at h
      · rename_i hb; cases h
        simp only [binOp, Op.shift]
        rw [if_neg (by omega)]
        rfl
      · cases h
    · split at h
      · rename_i hk; subst hk
        unfold binInt at h
        split at h <;> first
          | (cases h; done)
          | (cases h; simp only [binOp]; rw [if_neg (by simp)]; rfl)
          | (split at h
             · cases h
             · rename_i hb; cases h; simp only [binOp]; rw [if_neg (by simp)]; simp only [Op.intDiv]; rw [if_neg hb]; rfl)
      · cases h
  · rename_i a b
    unfold binStr at h
    split at h
    · split at h
      · rename_i hs; cases h
        simp only [binOp, Op.stringOp]
        have : IntKind.i64.max = 9223372036854775807 := by decide
        rw [if_neg (by rw [this]; omega)]
        rfl
      · cases h
    · cases h; rfl
    · cases h; rfl
    · cases h
  · rename_i a b
    split at h
    · rename_i hu; cases h
      simp only [binOp]
      rw [Sem.run_bind, show (Op.equal t (.bool a) (.bool b)).run P w = .ok (a == b) w from run_equalIn_bool' w 9999 t a b hu]
      rfl
    · rename_i hu; cases h
      simp only [binOp]
      rw [Sem.run_bind, show (Op.equal t (.bool a) (.bool b)).run P w = .ok (a == b) w from run_equalIn_bool' w 9999 t a b hu]
      rfl
    · cases h
  · rename_i l1 k1 b l2 k2
    split at h
    · rename_i hu; cases h
      simp only [binOp]
      rw [Sem.run_bind, show (Op.equal t (.slice none l1 k1) (.slice b l2 k2)).run P w = .ok b.isNone w from equalIn_nil_slice 9999 w hu b l2 k2 l1 k1]
      rfl
    · rename_i hu; cases h
      simp only [binOp]
      rw [Sem.run_bind, show (Op.equal t (.slice none l1 k1) (.slice b l2 k2)).run P w = .ok b.isNone w from equalIn_nil_slice 9999 w hu b l2 k2 l1 k1]
      rfl
    · cases h
  · rename_i a l1 k1 l2 k2
    split at h
    · rename_i hu; cases h
      simp only [binOp]
      rw [Sem.run_bind, show (Op.equal t (.slice (some a) l1 k1) (.slice none l2 k2)).run P w = .ok (some a).isNone w from equalIn_slice_nil 9999 w hu (some a) l1 k1 l2 k2]
      rfl
    · rename_i hu; cases h
      simp only [binOp]
      rw [Sem.run_bind, show (Op.equal t (.slice (some a) l1 k1) (.slice none l2 k2)).run P w = .ok (some a).isNone w from equalIn_slice_nil 9999 w hu (some a) l1 k1 l2 k2]
      rfl
    · cases h
  · cases h
omit [Outer] in
theorem eqGuard_plain {op : BinOp} {t : TypeId} {x y : Operand} {a b : Value} (h : (∀ C, a ≠ .agg C) ∧ a ≠ .nilIface) (w : World) : (eqGuard op t x y a b).run P w = .ok () w := by
 cases op <;> first
  | rfl
  | (cases a <;> first | rfl | (exact absurd rfl (h.1 _)) | exact absurd rfl h.2)
def isNil : AV → Option Bool
 | .lit (.slice none _ _) => some true
 | .sl _ (_ :: _) _ => some false
 | .hsl _ _ _ _ => some false
 | _ => none
theorem isNil_sound {S : Sit} {x : AV} {c : Value} {b : Bool} (h : isNil x = some b) (hx : VRel S x c) : ∃ a l k, c = .slice a l k ∧ a.isNone = b := by
 unfold isNil at h
 split at h
 ·cases h; simp only [VRel] at hx; subst hx; exact ⟨_, _, _, rfl, rfl⟩
 ·cases h; simp only [VRel] at hx
  obtain ⟨base, cap, rfl, _, hc, _⟩ := hx
  rcases hc with hc | ⟨b, o, rfl, _⟩
  ·cases hc
  ·exact ⟨_, _, _, rfl, rfl⟩
 ·cases h; simp only [VRel] at hx
  obtain ⟨b, wm, _, _, rfl⟩ := hx
  exact ⟨_, _, _, rfl, rfl⟩
 ·cases h
def binA (P : Program) (op : BinOp) (t : TypeId) (x y : AV) : Option AV :=
 match x, y with
 | .lit v, .lit u =>
  match v with
  | .agg _ | .nilIface => none
  | _ => (binLit P op t v u).map .lit
 | x, .lit (.slice none 0 0) =>
  match P.underlying t, op, isNil x with
  | some (.slice _), .eql, some b => some (.lit (.bool b))
  | some (.slice _), .neq, some b => some (.lit (.bool !b))
  | _, _, _ => none
 | _, _ => none
theorem binA_sound {S : Sit} {op : BinOp} {t : TypeId} {ox oy : Operand} {x y v : AV} {c d : Value} (h : binA P op t x y = some v) (hx : VRel S x c) (hy : VRel S y d) :
    ∃ r, (do eqGuard op t ox oy c d; binOp op t c d : Sem Value).run P S.w = .ok r S.w ∧ VRel S v r := by
  unfold binA at h
  split at h
  · rename_i v' u'
    simp only [VRel] at hx hy; subst hx hy
    split at h
    · cases h
    · cases h
    · rename_i h1 h2
      cases hb : binLit P op t c d with
      | none => simp [hb] at h
      | some r =>
        simp only [hb, Option.map_some, Option.some.injEq] at h
        subst h
        refine ⟨r, ?_, by simp [VRel]⟩
        rw [Sem.run_bind, eqGuard_plain ⟨fun C e => h1 C e, fun e => h2 e⟩]
        exact binLit_sound hb _
  · rename_i x' hne
    simp only [VRel] at hy; subst hy
    have key : ∀ (b : Bool) (E : TypeId), isNil x = some b → P.underlying t = some (.slice E) →
        (do eqGuard .eql t ox oy c (.slice none 0 0); binOp .eql t c (.slice none 0 0) : Sem Value).run P S.w = .ok (.bool b) S.w ∧
        (do eqGuard .neq t ox oy c (.slice none 0 0); binOp .neq t c (.slice none 0 0) : Sem Value).run P S.w = .ok (.bool !b) S.w := by
      intro b E hb hu
      obtain ⟨a, l, k, rfl, rfl⟩ := isNil_sound hb hx
      constructor
      · rw [Sem.run_bind, eqGuard_plain ⟨fun C e => (by cases e), fun e => (by cases e)⟩]
        simp only [Result.andThen_ok, binOp]
        rw [Sem.run_bind, show (Op.equal t (.slice a l k) (.slice none 0 0)).run P S.w = .ok a.isNone S.w from equalIn_slice_nil 9999 S.w hu a l k 0 0]
        rfl
      · rw [Sem.run_bind, eqGuard_plain ⟨fun C e => (by cases e), fun e => (by cases e)⟩]
        simp only [Result.andThen_ok, binOp]
        rw [Sem.run_bind, show (Op.equal t (.slice a l k) (.slice none 0 0)).run P S.w = .ok a.isNone S.w from equalIn_slice_nil 9999 S.w hu a l k 0 0]
        rfl
    split at h
    · rename_i E b hu hb
      cases h
      exact ⟨_, (key b E hb hu).1, by simp [VRel]⟩
    · rename_i E b hu hb
      cases h
      exact ⟨_, (key b E hb hu).2, by simp [VRel]⟩
    · cases h
  · cases h
def unA (op : UnOp) (x : AV) : Option AV :=
 match op, x with
 | .not, .lit (.bool b) => some (.lit (.bool !b))
 | .neg, .lit (.int k n) => some (.lit (.int k (k.wrap (0 - n))))
 | _, _ => none
theorem unA_sound {S : Sit} {op : UnOp} {x v : AV} {c : Value} (h : unA op x = some v) (hx : VRel S x c) : ∃ r, (Op.unary op c).run P S.w = .ok r S.w ∧ VRel S v r := by
 unfold unA at h
 split at h
 ·cases h; simp only [VRel] at hx; subst hx; exact ⟨_, rfl, by simp [VRel]⟩
 ·cases h; simp only [VRel] at hx; subst hx; exact ⟨_, rfl, by simp [VRel]⟩
 ·cases h
def bytesOf : List AV → Option (List UInt8)
 | [] => some []
 | .lit (.int .u8 n) :: r => (bytesOf r).map fun l => UInt8.ofNat n.toNat :: l
 | _ => none
def convA (P : Program) (H : List Blk) (src dst : TypeId) (x : AV) : Option AV :=
 match P.underlying dst, x with
 | some (.int k), .lit (.int _ n) => some (.lit (.int k (k.wrap n)))
 | some .string, x =>
  match P.underlying src with
  | some (.slice e) => match P.underlying e, srcCells H 1 x with
   | some (.int .u8), some (_, cells) => (match x with | .lit (.string _) => none | _ => (bytesOf cells).map fun l => .lit (.string ⟨l.toArray⟩))
   | _, _ => none
  | _ => none
 | _, _ => none
theorem convA_int {S : Sit} {src dst : TypeId} {x v : AV} {c : Value} {k : IntKind} (hd : P.underlying dst = some (.int k)) {d0 : TypeDesc} (hs : P.underlying src = some d0)
  (h : convA P S.H src dst x = some v) (hx : VRel S x c) : ∃ r, (convert src dst c).run P S.w = .ok r S.w ∧ VRel S v r := by
 unfold convA at h
 rw [hd] at h
 split at h
 ·rename_i k' k'' n hk
  cases hk; cases h
  simp only [VRel] at hx; subst hx
  refine ⟨.int k (k.wrap n), ?_, by simp [VRel]⟩
  unfold convert
  rw [Sem.run_bind, run_underlying hs]
  simp only [Result.andThen_ok]
  rw [Sem.run_bind, run_underlying hd]
  rfl
 ·rename_i hk; cases hk
 ·cases h
def partA (P : Program) (t : TypeId) (cells : List AV) (off : Nat) : Option AV :=
 match tagg P t, tsz P t with
 | some true, some n => some (.agg ((cells.drop off).take n))
 | some false, _ => cells[off]?
 | _, _ => none
theorem partA_sound {S : Sit} {t : TypeId} {cells : List AV} {off : Nat} {v : AV} {C : Array Value} (h : partA P t cells off = some v) (hc : VRels S cells C.toList) :
  ∃ c, (part t C off).run P S.w = .ok c S.w ∧ VRel S v c := by
 unfold partA at h
 split at h
 ·rename_i n ha hs
  cases h
  refine ⟨.agg (C.extract off (off + n)), ?_, ?_⟩
  ·unfold part
   rw [Sem.run_bind, run_tagg ha]
   simp only [Result.andThen_ok, if_true]
   rw [Sem.run_bind, run_tsz hs]
   rfl
  ·simp only [VRel]
   refine ⟨_, rfl, ?_⟩
   have := (hc.drop off).take n
   simpa [List.extract_eq_take_drop] using this
 ·rename_i ha
  obtain ⟨c, hc1, hr⟩ := hc.get h
  refine ⟨c, ?_, hr⟩
  unfold part
  rw [Sem.run_bind, run_tagg ha]
  simp only [Result.andThen_ok, Bool.false_eq_true, if_false]
  have : C[off]? = some c := by simpa using hc1
  simp only [this]
  rfl
 ·cases h
def aggCells : AV → Option (List AV)
 | .agg cells => some cells
 | .lit (.agg C) => some (C.toList.map .lit)
 | _ => none
theorem aggCells_sound {S : Sit} {x : AV} {c : Value} {cells : List AV} (h : aggCells x = some cells) (hx : VRel S x c) : ∃ C, c = .agg C ∧ VRels S cells C.toList := by
 unfold aggCells at h
 split at h
 ·cases h; simpa only [VRel] using hx
 ·cases h; simp only [VRel] at hx; subst hx; exact ⟨_, rfl, VRels.map_lit _⟩
 ·cases h
def eqFieldsA (P : Program) (xs ys : List AV) : List Field → Option Bool
  | [] => some true
  | f :: fs => if f.name ≠ "_" then
      match P.underlying f.type, partA P f.type xs f.offset, partA P f.type ys f.offset with
      | some (.int _), some (.lit (.int k a)), some (.lit (.int k' b)) => if k = k' then (if a == b then eqFieldsA P xs ys fs else some false) else none
      | _, _, _ => none
    else eqFieldsA P xs ys fs
theorem eqFieldsA_sound {S : Sit} {xs ys : List AV} {C D : Array Value} (hx : VRels S xs C.toList) (hy : VRels S ys D.toList) (d : Nat) : ∀ {fs : List Field} {b : Bool}, eqFieldsA P xs ys fs = some b →
  (Op.eqFields (d + 1) C D fs).run P S.w = .ok b S.w
 | [], b, h => by simp only [eqFieldsA, Option.some.injEq] at h; subst h; rfl
 | f :: fs, b, h => by
  simp only [eqFieldsA] at h
  unfold Op.eqFields
  split at h
  ·rename_i hn
   rw [if_pos hn]
   split at h
   ·rename_i k0 k a k' b' hu h1 h2
    split at h
    ·rename_i hk
     subst hk
     obtain ⟨c1, r1, v1⟩ := partA_sound (P := P) h1 hx
     obtain ⟨c2, r2, v2⟩ := partA_sound (P := P) h2 hy
     simp only [VRel] at v1 v2; subst v1 v2
     rw [Sem.run_bind, r1]
     simp only [Result.andThen_ok]
     rw [Sem.run_bind, r2]
     simp only [Result.andThen_ok]
     rw [Sem.run_bind, run_equalIn_int S.w d f.type k k0 a b' hu]
     simp only [Result.andThen_ok]
     split at h
     ·rename_i hab
      rw [hab]
      exact eqFieldsA_sound hx hy d h
     ·rename_i hab
      cases h
      have : (a == b') = false := by simpa using hab
      rw [this]
      rfl
    ·cases h
   ·cases h
  ·rename_i hn
   rw [if_neg hn]
   exact eqFieldsA_sound hx hy d h
def structEq (P : Program) (t : TypeId) (x y : AV) : Option Bool :=
 match P.underlying t, aggCells x, aggCells y with
 | some (.struct fs), some xs, some ys => if P.stoodInHeld t = false ∧ P.eqGuardType P.depth t = false then eqFieldsA P xs ys fs.toList else none
 | _, _, _ => none
theorem structEq_sound {S : Sit} {t : TypeId} {x y : AV} {b : Bool} {c d : Value} {ox oy : Operand} (h : structEq P t x y = some b) (hx : VRel S x c) (hy : VRel S y d) :
  (do eqGuard .eql t ox oy c d; binOp .eql t c d : Sem Value).run P S.w = .ok (.bool b) S.w ∧ (do eqGuard .neq t ox oy c d; binOp .neq t c d : Sem Value).run P S.w = .ok (.bool !b) S.w := by
 unfold structEq at h
 split at h
 ·rename_i fs xs ys hu hcx hcy
  split at h
  ·rename_i hg
   obtain ⟨C, rfl, hC⟩ := aggCells_sound hcx hx
   obtain ⟨D, rfl, hD⟩ := aggCells_sound hcy hy
   have hf : P.fieldsOf t = fs := by unfold Program.fieldsOf; rw [hu]
   have he : (Op.equalIn 10000 t (.agg C) (.agg D)).run P S.w = .ok b S.w := by
    rw [run_equalIn_agg S.w 9999 t C D (by rw [hf]; exact hu) hg.1, hf]
    exact eqFieldsA_sound hC hD 9998 h
   constructor
   ·rw [Sem.run_bind, run_eqGuard_agg S.w .eql t ox oy C D hg.2]
    simp only [Result.andThen_ok]
    rw [run_eql_struct, he]
    rfl
   ·rw [Sem.run_bind, run_eqGuard_agg S.w .neq t ox oy C D hg.2]
    simp only [Result.andThen_ok]
    rw [run_neq_struct, he]
    rfl
  ·cases h
 ·cases h
def binB (P : Program) (op : BinOp) (t : TypeId) (x y : AV) : Option AV :=
 match binA P op t x y with
 | some v => some v
 | none => match op, structEq P t x y with
  | .eql, some b => some (.lit (.bool b))
  | .neq, some b => some (.lit (.bool !b))
  | _, _ => none
theorem binB_sound {S : Sit} {op : BinOp} {t : TypeId} {ox oy : Operand} {x y v : AV} {c d : Value} (h : binB P op t x y = some v) (hx : VRel S x c) (hy : VRel S y d) :
  ∃ r, (do eqGuard op t ox oy c d; binOp op t c d : Sem Value).run P S.w = .ok r S.w ∧ VRel S v r := by
 unfold binB at h
 split at h
 ·rename_i u hu
  cases h
  exact binA_sound hu hx hy
 ·split at h
  ·rename_i hb _
   cases h
   exact ⟨_, (structEq_sound hb hx hy).1, by simp [VRel]⟩
  ·rename_i hb _
   cases h
   exact ⟨_, (structEq_sound hb hx hy).2, by simp [VRel]⟩
  ·cases h
def fieldA (P : Program) (t : TypeId) (x : AV) (i : Nat) : Option AV :=
 match tfield P t i, aggCells x with
 | some f, some cells => partA P f.type cells f.offset
 | _, _ => none
theorem fieldA_sound {S : Sit} {t : TypeId} {x v : AV} {i : Nat} {c : Value} (h : fieldA P t x i = some v) (hx : VRel S x c) :
  ∃ d, (Instr.field t c i).run P S.w = .ok d S.w ∧ VRel S v d := by
 unfold fieldA at h
 split at h
 ·rename_i f cells hf hc
  obtain ⟨fs, hu, hi⟩ := tfield_eq hf
  obtain ⟨C, rfl, hr⟩ := aggCells_sound hc hx
  obtain ⟨d, hd, hv⟩ := partA_sound h hr
  refine ⟨d, ?_, hv⟩
  unfold Instr.field
  rw [Sem.run_bind, run_underlying hu]
  simp only [Result.andThen_ok, hi]
  exact hd
 ·cases h
def indexA (P : Program) (t : TypeId) (x ix : AV) : Option AV :=
 match ix with
 | .lit (.int _ i) =>
  match P.underlying t, x with
  | some (.array len elem), x => match tsz P elem, aggCells x with
   | some n, some cells => if 0 ≤ i ∧ i < len then partA P elem cells (i.toNat * n) else none
   | _, _ => none
  | some .string, .lit (.string s) => if 0 ≤ i then (s[i.toNat]?).map fun b => .lit (.int .u8 b.toNat) else none
  | _, _ => none
 | _ => none
theorem indexA_sound {S : Sit} {t : TypeId} {x ix v : AV} {c ci : Value} (h : indexA P t x ix = some v) (hx : VRel S x c) (hi : VRel S ix ci) :
  ∃ d, (Instr.index t c ci).run P S.w = .ok d S.w ∧ VRel S v d := by
 unfold indexA at h
 split at h
 case h_2 => cases h
 rename_i k i
 simp only [VRel] at hi; subst hi
 split at h
 ·rename_i len elem hu
  split at h
  ·rename_i n cells hs hc
   split at h
   ·rename_i hb
    obtain ⟨C, rfl, hr⟩ := aggCells_sound hc hx
    obtain ⟨d, hd, hv⟩ := partA_sound h hr
    refine ⟨d, ?_, hv⟩
    unfold Instr.index
    rw [Sem.run_bind]
    simp only [asIntOf, Sem.run_pure, Result.andThen_ok]
    rw [Sem.run_bind, run_underlying hu]
    simp only [Result.andThen_ok, if_pos hb]
    rw [Sem.run_bind, run_tsz hs]
    exact hd
   ·cases h
  ·cases h
 ·rename_i s hu
  simp only [VRel] at hx; subst hx
  split at h
  ·rename_i hb
   cases hg : s[i.toNat]? with
   | none => simp [hg] at h
   | some b =>
    simp only [hg, Option.map_some, Option.some.injEq] at h
    subst h
    refine ⟨.int .u8 b.toNat, ?_, by simp only [VRel]⟩
    unfold Instr.index
    rw [Sem.run_bind]
    simp only [asIntOf, Sem.run_pure, Result.andThen_ok]
    rw [Sem.run_bind, run_underlying hu]
    simp only [Result.andThen_ok, if_pos hb, hg]
    rfl
  ·cases h
 ·cases h
def numsOf : List AV → Option (List Int)
 | [] => some []
 | .lit (.int .u8 n) :: r => (numsOf r).map fun l => n :: l
 | _ => none
theorem numsOf_sound {S : Sit} : ∀ {as : List AV} {ns : List Int} {cs : List Value}, numsOf as = some ns → VRels S as cs → cs = ns.map (Value.int .u8)
 | [], ns, [], h, _ => by simp only [numsOf, Option.some.injEq] at h; subst h; rfl
 | [], _, _ :: _, _, x => by simp [VRels] at x
 | a :: as, ns, [], _, x => by simp [VRels] at x
 | a :: as, ns, c :: cs, h, x => by
  unfold numsOf at h
  split at h
  ·rename_i heq; cases heq
  ·rename_i n r heq
   cases heq
   obtain ⟨l, hl, rfl⟩ := map_some h
   simp only [VRels, VRel] at x
   rw [x.1, numsOf_sound hl x.2]
   rfl
  ·cases h
def strOf (ns : List Int) : ByteArray := ns.foldl (fun r n => r.push (UInt8.ofNat n.toNat)) ByteArray.empty
def laidSl : AV → Bool
 | .sl .. | .hsl .. | .msl .. => true
 | _ => false
def bytesA (P : Program) (H : List Blk) (src : TypeId) (x : AV) : Option AV :=
  match P.underlying src with
  | some (.slice e) => match P.underlying e with
    | some (.int .u8) => if laidSl x then match srcCells H 1 x with
        | some (_, cells) => (numsOf cells).map fun ns => .lit (.string (strOf ns))
        | none => none
      else none
    | _ => none
  | _ => none
theorem bytesA_sound {S : Sit} (hR : Rel S) {src dst : TypeId} {x v : AV} {c : Value} (hd : P.underlying dst = some .string) (h : bytesA P S.H src x = some v) (hx : VRel S x c) :
  ∃ r, (convert src dst c).run P S.w = .ok r S.w ∧ VRel S v r := by
 unfold bytesA at h
 split at h
 case h_2 => cases h
 rename_i e hs
 split at h
 case h_2 => cases h
 rename_i he
 split at h
 case isFalse => cases h
 rename_i hla
 split at h
 case h_2 => cases h
 rename_i n cells hc
 obtain ⟨ns, hns, rfl⟩ := map_some h
 obtain ⟨hl, hlen, C, hf, hC⟩ := srcCells_sound (P := P) hR hc hx
 have hcs := numsOf_sound hns hC
 have hsl : ∃ base len cap, c = .slice base len cap := by
  cases x <;> first | (cases hla; done) | skip
  ·simp only [VRel] at hx; obtain ⟨b, k, rfl, _⟩ := hx; exact ⟨_, _, _, rfl⟩
  ·simp only [VRel] at hx; obtain ⟨b, wm, _, _, rfl⟩ := hx; exact ⟨_, _, _, rfl⟩
  ·simp only [VRel] at hx; obtain ⟨b, k, rfl, _⟩ := hx; exact ⟨_, _, _, rfl⟩
 obtain ⟨base, len, cap, rfl⟩ := hsl
 have hln : len = n := by
  have := hlen
  simp only [Builtin.lenOf, Sem.run_pure, Result.ok.injEq] at this
  exact this.1
 subst hln
 refine ⟨.string (strOf ns), ?_, by simp [VRel]⟩
 rw [run_convert_bytes_string S.w src dst e base len cap hs he hd]
 have hf' := hf S.w rfl
 cases base with
 | none =>
  have hC0 : C = #[] := by
   have : (Builtin.firstCells 1 len (.slice none len cap)).run P S.w = .ok #[] S.w := rfl
   rw [this] at hf'
   simpa using hf'.symm
  subst hC0
  have : ns = [] := by
   cases ns with
   | nil => rfl
   | cons a b => simp at hcs
  subst this
  rfl
 | some a =>
  refine run_bytesToString S.w a len cap ns ?_
  simp only [Builtin.firstCells, Nat.mul_one] at hf'
  rw [hf']
  congr 1
  rw [← hcs]
def convB (P : Program) (H : List Blk) (src dst : TypeId) (x : AV) : Option AV :=
 match P.underlying src, P.underlying dst with
 | some _, some (.int _) => convA P H src dst x
 | some _, some .string => bytesA P H src x
 | _, _ => none
theorem convB_sound {S : Sit} (hR : Rel S) {src dst : TypeId} {x v : AV} {c : Value} (h : convB P S.H src dst x = some v) (hx : VRel S x c) :
  ∃ r, (convert src dst c).run P S.w = .ok r S.w ∧ VRel S v r := by
 unfold convB at h
 split at h
 ·rename_i d k hs hd; exact convA_int hd hs h hx
 ·rename_i d hs hd; exact bytesA_sound hR hd h hx
 ·cases h
end Go.Vm

namespace Go.Vm
variable [Outer]
variable {P : Program}
def natOf : Option AV → Option (Option Nat)
 | none => some none
 | some (.lit (.int _ i)) => if 0 ≤ i then some (some i.toNat) else none
 | _ => none
theorem natOf_sound {S : Sit} {x : Option AV} {c : Option Value} {n : Option Nat} (h : natOf x = some n) (hx : match x, c with | none, none => True | some x, some c => VRel S x c | _, _ => False) :
  match c, n with | none, none => True | some c, some n => ∃ k, c = .int k n | _, _ => False := by
 cases x with
 | none => simp only [natOf, Option.some.injEq] at h; subst h; cases c <;> simp_all
 | some x =>
  cases c with
  | none => simp at hx
  | some c =>
   simp only at hx
   cases x with
   | lit v =>
    simp only [VRel] at hx; subst hx
    cases c with
    | int k i =>
     simp only [natOf] at h
     split at h
     ·rename_i hi; cases h; exact ⟨k, by rw [Int.toNat_of_nonneg hi]⟩
     ·cases h
    | _ => simp [natOf] at h
   | _ => simp [natOf] at h
def sliceA (P : Program) (t : TypeId) (x : AV) (lo hi mx : Option Nat) : Option AV :=
  match P.underlying t, x with
  | some .string, .lit (.string s) =>
    if mx.isNone = true ∧ lo.getD 0 ≤ hi.getD s.size ∧ hi.getD s.size ≤ s.size then some (.lit (.string (s.extract (lo.getD 0) (hi.getD s.size)))) else none
  | some (.slice e), .lit (.slice none 0 0) =>
    match tsz P e with
    | some _ => if lo.getD 0 = 0 ∧ hi.getD 0 = 0 ∧ mx.getD 0 = 0 ∧ (mx.isSome = true → hi.isSome = true) then some (.lit (.slice none 0 0)) else none
    | none => none
  | some (.slice e), .sl len cells tail =>
    match tsz P e with
    | some n =>
      if lo.getD 0 ≤ hi.getD len ∧ hi.getD len ≤ mx.getD len ∧ mx.getD len ≤ len ∧ (mx.isSome = true → hi.isSome = true) ∧ cells.length = len * n ∧ 0 < n then
        some (.sl (hi.getD len - lo.getD 0) ((cells.drop (lo.getD 0 * n)).take ((hi.getD len - lo.getD 0) * n))
          (if mx.isSome = true then (if hi.getD len = mx.getD len then .full else .unk)
           else if hi.getD len = len then (match tail with | .own id g sz => if sz = n then .own id g n else .unk | t => t) else .unk))
      else none
    | none => none
  | some (.slice e), .hsl id off len cap =>
    match tsz P e with
    | some n =>
      if mx.isNone = true ∧ lo.getD 0 ≤ hi.getD len ∧ hi.getD len ≤ len ∧ len ≤ cap ∧ lo.getD 0 < cap then some (.hsl id (off + lo.getD 0 * n) (hi.getD len - lo.getD 0) (cap - lo.getD 0)) else none
    | none => none
  | _, _ => none
omit [Outer] in
theorem run_sliceBound {w : World} {k : IntKind} {n y : Nat} {code : BoundsCode} (h : n ≤ y) : (Instr.sliceBound (.int k n) y code).run P w = .ok n w := by
 unfold Instr.sliceBound
 rw [Sem.run_bind]
 simp only [asIntOf, Sem.run_pure, Result.andThen_ok]
 rw [if_pos (by omega)]
 simp
omit [Outer] in
theorem run_sliceBounds {w : World} {isSl : Bool} {len cap : Nat} {lo hi mx : Option Nat} {clo chi cmx : Option Value}
  (h1 : match clo, lo with | none, none => True | some c, some n => ∃ k, c = Value.int k n | _, _ => False)
  (h2 : match chi, hi with | none, none => True | some c, some n => ∃ k, c = Value.int k n | _, _ => False)
  (h3 : match cmx, mx with | none, none => True | some c, some n => ∃ k, c = Value.int k n | _, _ => False)
  (hm : mx.getD cap ≤ cap) (hh : hi.getD len ≤ mx.getD cap) (hl : lo.getD 0 ≤ hi.getD len) (hx : mx.isSome = true → hi.isSome = true) :
  (Instr.sliceBounds isSl len cap clo chi cmx).run P w = .ok (lo.getD 0, hi.getD len, mx.getD cap) w := by
 unfold Instr.sliceBounds
 cases clo <;> cases lo <;> simp only at h1 <;> first
  | exact h1.elim
  | skip
 all_goals
  cases chi <;> cases hi <;> simp only at h2 <;> first
   | exact h2.elim
   | skip
 all_goals
  cases cmx <;> cases mx <;> simp only at h3 <;> first
   | exact h3.elim
   | skip
 all_goals
  simp only [Option.getD_none, Option.getD_some, Option.isSome_some, Option.isSome_none, forall_const, Bool.false_eq_true, false_implies] at hm hh hl hx ⊢
 all_goals
  (try obtain ⟨k1, rfl⟩ := h1)
  (try obtain ⟨k2, rfl⟩ := h2)
  (try obtain ⟨k3, rfl⟩ := h3)
  first
   | (simp [run_sliceBound hm, run_sliceBound hh, run_sliceBound hl]; done)
   | (simp at hx; done)
theorem sliceA_sound {S : Sit} {t : TypeId} {x v : AV} {c : Value} {lo hi mx : Option Nat} {clo chi cmx : Option Value}
  (h1 : match clo, lo with | none, none => True | some c, some n => ∃ k, c = Value.int k n | _, _ => False)
  (h2 : match chi, hi with | none, none => True | some c, some n => ∃ k, c = Value.int k n | _, _ => False)
  (h3 : match cmx, mx with | none, none => True | some c, some n => ∃ k, c = Value.int k n | _, _ => False)
  (h : sliceA P t x lo hi mx = some v) (hx : VRel S x c) : ∃ r, (Instr.sliceAt t c clo chi cmx).run P S.w = .ok r S.w ∧ VRel S v r := by
 unfold sliceA at h
 split at h
 ·rename_i s hu
  split at h
  ·rename_i hg
   cases h
   simp only [VRel] at hx; subst hx
   have hmx : mx = none := by simpa using hg.1
   subst hmx
   have hcm : cmx = none := by cases cmx <;> simp_all
   subst hcm
   refine ⟨_, ?_, by simp only [VRel]; rfl⟩
   unfold Instr.sliceAt
   rw [Sem.run_bind, run_underlying hu]
   simp only [Result.andThen_ok]
   unfold Instr.slice
   rw [Sem.run_bind, run_underlying hu]
   simp only [Result.andThen_ok, Option.isSome_none, Bool.false_eq_true, if_false]
   rw [Sem.run_bind, run_sliceBounds (mx := none) (cmx := none) h1 h2 trivial (by simp) (by simpa using hg.2.2) (by simpa using hg.2.1) (by simp)]
   rfl
  ·cases h
 ·rename_i e hu
  split at h
  ·rename_i n hs
   split at h
   ·rename_i hg
    cases h
    simp only [VRel] at hx; subst hx
    obtain ⟨g1, g2, g3, g4⟩ := hg
    refine ⟨.slice none 0 0, ?_, by simp only [VRel]⟩
    unfold Instr.sliceAt
    rw [Sem.run_bind, run_underlying hu]
    simp only [Result.andThen_ok]
    unfold Instr.slice
    rw [Sem.run_bind, run_underlying hu]
    simp only [Result.andThen_ok]
    rw [Sem.run_bind, run_sliceBounds h1 h2 h3 (by omega) (by omega) (by omega) g4]
    simp only [Result.andThen_ok]
    rw [Sem.run_bind, run_tsz hs]
    simp [g1, g2, g3]
   ·cases h
  ·cases h
 ·rename_i e len cells tail hu
  split at h
  ·rename_i n hs
   split at h
   ·rename_i hg
    cases h
    obtain ⟨g1, g2, g3, g4, g5, g6⟩ := hg
    simp only [VRel] at hx
    obtain ⟨base, cap, rfl, hle, hc, ht⟩ := hx
    have hm : mx.getD cap ≤ cap := by cases mx <;> simp_all; omega
    have hh : hi.getD len ≤ mx.getD cap := by cases mx <;> simp_all; omega
    generalize hL : lo.getD 0 = l at *
    generalize hHh : hi.getD len = hh' at *
    have hmul : l * n + (hh' - l) * n = hh' * n := by rw [← Nat.add_mul]; congr 1; omega
    have hmul2 : hh' * n ≤ len * n := Nat.mul_le_mul_right _ (by omega)
    refine ⟨.slice (if mx.getD cap = l then base else base.map fun a => a.add (l * n)) (hh' - l) (mx.getD cap - l), ?_, ?_⟩
    ·unfold Instr.sliceAt
     rw [Sem.run_bind, run_underlying hu]
     simp only [Result.andThen_ok]
     unfold Instr.slice
     rw [Sem.run_bind, run_underlying hu]
     simp only [Result.andThen_ok]
     rw [Sem.run_bind, run_sliceBounds h1 h2 h3 hm (by rw [hHh]; exact hh) (by rw [hL, hHh]; exact g1) g4]
     simp only [Result.andThen_ok, hL, hHh]
     rw [Sem.run_bind, run_tsz hs]
     rfl
    ·simp only [VRel]
     refine ⟨_, _, rfl, by omega, ?_, ?_⟩
     ·by_cases hlh : l < hh'
      ·rcases hc with hc | ⟨b, o, rfl, hf, hr⟩
       ·subst hc
        have : 0 < len * n := Nat.mul_pos (by omega) g6
        simp at g5; omega
       ·refine .inr ⟨b, o + l * n, ?_, hf.mono (by simp; omega), VRow.take b _ (VRow.drop b _ hr)⟩
        rw [if_neg (by omega)]
        simp [add_addr]
      ·left
       have : hh' - l = 0 := by omega
       simp [this]
     ·split
      ·rename_i hms
       split
       ·rename_i he
        show mx.getD cap - l = hh' - l
        obtain ⟨m, rfl⟩ := Option.isSome_iff_exists.1 hms
        simp at he ⊢; omega
       ·trivial
      ·rename_i hms
       have hmn : mx = none := by simpa using hms
       subst hmn
       split
       ·rename_i he
        simp only [Option.getD_none]
        have hlen : ((cells.drop (l * n)).take ((hh' - l) * n)).length = (hh' - l) * n := by simp; omega
        cases tail with
        | unk => trivial
        | full => have : cap = len := ht; show cap - l = hh' - l; omega
        | own id g sz =>
         simp only
         split
         ·rename_i hsz
          subst hsz
          obtain ⟨hn, g0, h0, hle', hx⟩ := ht
          refine ⟨hlen, g0, h0, hle', fun hg => ?_⟩
          rcases hx hg with a | ⟨b, o, C, t', rfl, hi', hC, hcs⟩
          ·left; omega
          ·by_cases hcl : cap = l
           ·left; omega
           right
           refine ⟨b, o + l * sz, C, t', ?_, ?_, hC, ?_⟩
           ·rw [if_neg (by omega)]; simp [add_addr]
           ·rw [hlen, hi', he] at *
            have : l * sz + (len - l) * sz = len * sz := by rw [← Nat.add_mul]; congr 1; omega
            rw [show o + l * sz + (len - l) * sz = o + cells.length by omega]
           ·have : l * sz + (cap - l) * sz = cap * sz := by rw [← Nat.add_mul]; congr 1; omega
            omega
         ·trivial
       ·trivial
   ·cases h
  ·cases h
 ·rename_i e id off len cap hu
  split at h
  ·rename_i n hs
   split at h
   ·rename_i hg
    cases h
    obtain ⟨g1, g2, g3, g4, g5⟩ := hg
    have hmx : mx = none := by simpa using g1
    subst hmx
    have hcm : cmx = none := by cases cmx <;> simp_all
    subst hcm
    simp only [VRel] at hx
    obtain ⟨b, wm, hi', hn, rfl⟩ := hx
    refine ⟨_, ?_, by simp only [VRel]; exact ⟨b, wm, hi', hn, rfl⟩⟩
    unfold Instr.sliceAt
    rw [Sem.run_bind, run_underlying hu]
    simp only [Result.andThen_ok]
    unfold Instr.slice
    rw [Sem.run_bind, run_underlying hu]
    simp only [Result.andThen_ok]
    rw [Sem.run_bind, run_sliceBounds (mx := none) (cmx := none) h1 h2 trivial (by simp) (by simp; omega) g2 (by simp)]
    simp only [Result.andThen_ok, Option.getD_none]
    rw [Sem.run_bind, run_tsz hs]
    simp only [Result.andThen_ok]
    rw [if_neg (by omega)]
    simp [add_addr]
   ·cases h
  ·cases h
 ·cases h
end Go.Vm

namespace Go.Vm
variable [Outer]
variable {P : Program}
def tshape (P : Program) (k : TypeId) : Option KeyShape :=
 match P.underlying k with
 | some (.int .i64) => some .int
 | some (.array n e) => match P.underlying e with
  | some (.int .i64) => if P.cellsOf e = 1 ∧ P.cellsOf k = n ∧ 0 < P.types.size then some (.arr n) else none
  | _ => none
 | _ => none
omit [Outer] in
theorem isI64_eq {v : Value} (h : isI64 v = true) : ∃ n, v = .int .i64 n ∧ (Lit.int .i64 n).wf = true := by
 unfold isI64 at h
 split at h
 ·rename_i n
  simp only [Bool.and_eq_true, decide_eq_true_eq] at h
  refine ⟨n, rfl, ?_⟩
  have h1 : IntKind.i64.min = -9223372036854775808 := by decide
  have h2 : IntKind.i64.max = 9223372036854775807 := by decide
  simp [Lit.wf, h1, h2, h.1, h.2]
 ·cases h
omit [Outer] in
theorem keyLits_row {e : TypeId} {d : Nat} (hu : P.underlying e = some (.int .i64)) : ∀ (cs : List Value), cs.all isI64 = true →
  ∃ ls, ((List.range cs.length).mapM fun i => P.keyLits (d + 1) e ((cs.drop (i * 1)).take 1)) = some ls
 | [], _ => ⟨[], rfl⟩
 | c :: cs, h => by
  simp only [List.all_cons, Bool.and_eq_true] at h
  obtain ⟨n, rfl, hw⟩ := isI64_eq h.1
  obtain ⟨ls, hls⟩ := keyLits_row (d := d) hu cs h.2
  refine ⟨[.int .i64 n] :: ls, ?_⟩
  rw [List.length_cons, List.range_succ_eq_map, List.mapM_cons, List.mapM_map]
  have e1 : P.keyLits (d + 1) e (((Value.int .i64 n :: cs).drop (0 * 1)).take 1) = some [.int .i64 n] := by
   simp [Program.keyLits, hu, hw]
  have e2 : (fun i => P.keyLits (d + 1) e (((Value.int .i64 n :: cs).drop (i.succ * 1)).take 1)) = fun i => P.keyLits (d + 1) e ((cs.drop (i * 1)).take 1) := by
   funext i; simp
  have e3 : ((fun i => P.keyLits (d + 1) e (((Value.int .i64 n :: cs).drop (i * 1)).take 1)) ∘ Nat.succ) = fun i => P.keyLits (d + 1) e ((cs.drop (i * 1)).take 1) := e2
  simp only [e1, e3, hls]
  rfl
omit [Outer] in
theorem tshape_keyed {k : TypeId} {sh : KeyShape} (h : tshape P k = some sh) : Maps.Keyed P k ∧ ∀ v, shOk sh v = true → ∃ l, keyOf P k v = some l := by
 unfold tshape at h
 split at h
 ·rename_i hu
  cases h
  refine ⟨Maps.int_keyed hu, fun v hv => ?_⟩
  obtain ⟨n, rfl, hw⟩ := isI64_eq hv
  exact ⟨_, Maps.keyOf_int_mk hu hw⟩
 ·rename_i n e hu
  split at h
  ·rename_i hue
   split at h
   ·rename_i hg
    cases h
    obtain ⟨g1, g2, g3⟩ := hg
    have A : WideMaps.ArrKey P k e n := ⟨hu, by simp [Program.plainKey, hue], g1, g2⟩
    refine ⟨Maps.Keyed.of_law A.law, fun v hv => ?_⟩
    cases v <;> simp only [shOk, Bool.false_eq_true] at hv
    rename_i C
    simp only [Bool.and_eq_true, beq_iff_eq] at hv
    obtain ⟨m, hm⟩ : ∃ m, P.types.size = m + 1 := ⟨P.types.size - 1, by omega⟩
    have hkt := A.keyType ⟨m, hm⟩
    obtain ⟨ls, hls⟩ := keyLits_row (P := P) (d := m) hue C.toList hv.2
    have hl : P.keyLits (P.types.size + 1) k C.toList = some ls.flatten := by
     rw [hm]
     unfold Program.keyLits
     rw [hu]
     simp only [g1, g2, hv.1, if_true]
     rw [← hv.1, hls]
     rfl
    have hfm : (Value.agg C).formed P k = true := by
     simp only [Value.formed, hu, beq_iff_eq]
     rw [g2, ← hv.1]
     simp
    exact ⟨.string (keyBytes ls.flatten), by simp only [keyOf, hu, hkt, hfm, Value.cells, hl, Bool.and_self, if_true, Option.map_some]⟩
   ·cases h
  ·cases h
 ·cases h
def veqs : List Value → List Value → Bool
 | [], [] => true
 | .int _ a :: x, .int _ b :: y => decide (a = b) && veqs x y
 | _, _ => false
def veq : Value → Value → Bool
 | .int _ a, .int _ b => decide (a = b)
 | .agg a, .agg b => veqs a.toList b.toList
 | _, _ => false
omit [Outer] in
theorem veqs_eq : ∀ {x y : List Value}, x.all isI64 = true → y.all isI64 = true → (veqs x y = true ↔ x = y)
 | [], [], _, _ => by simp [veqs]
 | [], b :: y, _, _ => by simp [veqs]
 | a :: x, [], _, _ => by cases a <;> simp [veqs]
 | a :: x, b :: y, hx, hy => by
  simp only [List.all_cons, Bool.and_eq_true] at hx hy
  obtain ⟨n, rfl, _⟩ := isI64_eq hx.1
  obtain ⟨m, rfl, _⟩ := isI64_eq hy.1
  simp [veqs, veqs_eq hx.2 hy.2]
omit [Outer] in
theorem veq_eq {sh : KeyShape} {x y : Value} (hx : shOk sh x = true) (hy : shOk sh y = true) : veq x y = true ↔ x = y := by
 cases sh with
 | int =>
  obtain ⟨n, rfl, _⟩ := isI64_eq hx
  obtain ⟨m, rfl, _⟩ := isI64_eq hy
  simp [veq]
 | arr n =>
  cases x <;> simp only [shOk, Bool.false_eq_true] at hx
  cases y <;> simp only [shOk, Bool.false_eq_true] at hy
  rename_i A B
  simp only [Bool.and_eq_true] at hx hy
  simp only [veq, veqs_eq hx.2 hy.2]
  exact ⟨fun h => by rw [Array.toList_inj.1 h], fun h => by cases h; rfl⟩
def mlook (es : List (Value × AV)) (k : Value) : Option AV := (es.find? fun p => veq p.1 k).map (·.2)
def mset : List (Value × AV) → Value → AV → List (Value × AV)
 | [], k, v => [(k, v)]
 | p :: es, k, v => if veq p.1 k then (p.1, v) :: es else p :: mset es k v
def concs : List AV → Option (List Value)
 | [] => some []
 | .lit v :: r => (concs r).map (v :: ·)
 | _ => none
def conc : AV → Option Value
 | .lit v => some v
 | .agg cells => (concs cells).map fun l => .agg l.toArray
 | _ => none
theorem concs_eq {S : Sit} : ∀ {as : List AV} {l cs : List Value}, concs as = some l → VRels S as cs → cs = l
 | [], l, cs, h, x => by
  simp only [concs, Option.some.injEq] at h; subst h
  cases cs with
  | nil => rfl
  | cons => simp [VRels] at x
 | a :: as, l, cs, h, x => by
  cases cs with
  | nil => simp [VRels] at x
  | cons c cs =>
   simp only [VRels] at x
   cases a with
   | lit v =>
    simp only [concs] at h
    cases hr : concs as with
    | none => simp [hr] at h
    | some r =>
     simp only [hr, Option.map_some, Option.some.injEq] at h
     subst h
     have := x.1
     simp only [VRel] at this
     rw [this, concs_eq hr x.2]
   | _ => simp [concs] at h
theorem conc_eq {S : Sit} {a : AV} {v c : Value} (h : conc a = some v) (x : VRel S a c) : c = v := by
 cases a with
 | lit u => simp only [conc, Option.some.injEq] at h; subst h; simpa only [VRel] using x
 | agg cells =>
  simp only [conc] at h
  cases hr : concs cells with
  | none => simp [hr] at h
  | some l =>
   simp only [hr, Option.map_some, Option.some.injEq] at h
   subst h
   simp only [VRel] at x
   obtain ⟨C, rfl, hc⟩ := x
   rw [← concs_eq hr hc]
 | _ => simp [conc] at h
def tmap (P : Program) (t : TypeId) : Option (KeyShape × TypeId × TypeId) :=
 match P.underlying t with
 | some (.map k e) => (tshape P k).map fun sh => (sh, k, e)
 | _ => none
omit [Outer] in
theorem tmap_eq {t k e : TypeId} {sh : KeyShape} (h : tmap P t = some (sh, k, e)) : P.underlying t = some (.map k e) ∧ tshape P k = some sh := by
 unfold tmap at h
 split at h
 ·rename_i k' e' hu
  cases hs : tshape P k' with
  | none => simp [hs] at h
  | some sh' => simp only [hs, Option.map_some, Option.some.injEq, Prod.mk.injEq] at h; obtain ⟨rfl, rfl, rfl⟩ := h; exact ⟨hu, hs⟩
 ·cases h
def KeyShape.same : KeyShape → KeyShape → Bool
 | .int, .int => true
 | .arr n, .arr m => n == m
 | _, _ => false
omit [Outer] in
theorem KeyShape.same_eq {a b : KeyShape} (h : a.same b = true) : a = b := by
 cases a <;> cases b <;> simp_all [KeyShape.same]
omit [Outer] in
theorem nodup_inj {α : Type} {x : α} : ∀ {l : List α} {i j : Nat}, l.Nodup → l[i]? = some x → l[j]? = some x → i = j
 | [], _, _, _, h, _ => by simp at h
 | a :: l, 0, 0, _, _, _ => rfl
 | a :: l, 0, j + 1, hn, hi, hj => by
  simp at hi hj; subst hi
  exact absurd (List.mem_of_getElem? hj) (List.nodup_cons.1 hn).1
 | a :: l, i + 1, 0, hn, hi, hj => by
  simp at hi hj; subst hj
  exact absurd (List.mem_of_getElem? hi) (List.nodup_cons.1 hn).1
 | a :: l, i + 1, j + 1, hn, hi, hj => by
  simp at hi hj
  rw [nodup_inj (List.nodup_cons.1 hn).2 hi hj]
theorem MRel.find {S : Sit} {sh : KeyShape} {es : List (Value × AV)} {E : Array MapEntry} {clock : Nat} {k : TypeId} (hM : MRel S sh es E clock) (hk : tshape P k = some sh) {v : Value}
  (hv : shOk sh v = true) (w : World) :
  (mlook es v = none ∧ (Instr.findKey k v E.toList).run P w = .ok none w ∧ ∀ p ∈ es, p.1 ≠ v) ∨
  ∃ a j c, ∃ e : MapEntry, mlook es v = some a ∧ (Instr.findKey k v E.toList).run P w = .ok (some (j, c)) w ∧ VRel S a c ∧ E.toList[j]? = some e ∧ e.key = v ∧ e.val = c := by
 obtain ⟨hK, hkey⟩ := tshape_keyed hk
 obtain ⟨lv, hlv⟩ := hkey v hv
 obtain ⟨es2, hp, h1, h2⟩ := hM.ents
 have hkeys2 : ∀ e ∈ E.toList, shOk sh e.key = true := by
  intro e he
  have : e.key ∈ es2.map (·.1) := by rw [← h1]; exact List.mem_map_of_mem he
  obtain ⟨p, hp2, hpe⟩ := List.mem_map.1 this
  rw [← hpe]; exact hM.keys p (hp.mem_iff.1 hp2)
 have hes : ∀ e ∈ E.toList, ∃ l, keyOf P k e.key = some l := fun e he => hkey _ (hkeys2 e he)
 have hlen : es2.length = E.toList.length := by have := congrArg List.length h1; simpa using this.symm
 -- the abstract entry at a concrete one's place
 have hat : ∀ (j : Nat) (e : MapEntry), E.toList[j]? = some e → ∃ p : Value × AV, es2[j]? = some p ∧ p.1 = e.key ∧ VRel S p.2 e.val := by
  intro j e he
  have hj : j < es2.length := by rw [hlen]; exact (List.getElem?_eq_some_iff.1 he).1
  have g1 : (E.toList.map (·.key))[j]? = some e.key := by simp [he]
  rw [h1] at g1
  have g2 : (es2.map (·.2))[j]? = some es2[j].2 := by simp [hj]
  obtain ⟨c, hc, hr⟩ := h2.get g2
  rw [List.getElem?_map, he] at hc
  simp only [Option.map_some, Option.some.injEq] at hc
  subst hc
  refine ⟨es2[j], by simp [hj], ?_, hr⟩
  simpa [hj] using g1
 have hnd2 : (es2.map (·.1)).Nodup := (hp.map _).nodup_iff.2 hM.nodup
 rcases hK.find w hlv E.toList hes with ⟨hn, hne⟩ | ⟨j, e, hf, hj, hek⟩
 ·left
  have hall : ∀ p ∈ es, p.1 ≠ v := by
   intro p hpm hpv
   have : p.1 ∈ es2.map (·.1) := List.mem_map_of_mem (hp.mem_iff.2 hpm)
   rw [← h1] at this
   obtain ⟨e, he, hee⟩ := List.mem_map.1 this
   exact hne e he (hee.trans hpv)
  refine ⟨?_, hn, hall⟩
  unfold mlook
  rw [List.find?_eq_none.2]
  ·rfl
  ·intro p hpm hveq
   exact hall p hpm ((veq_eq (hM.keys p hpm) hv).1 hveq)
 ·right
  obtain ⟨p, hpj, hpk, hpr⟩ := hat j e hj
  have hpm : p ∈ es := hp.mem_iff.1 (List.mem_of_getElem? hpj)
  have hfind : ∃ q, es.find? (fun p => veq p.1 v) = some q := by
   cases hq : es.find? (fun p => veq p.1 v) with
   | some q => exact ⟨q, rfl⟩
   | none =>
    have := List.find?_eq_none.1 hq p hpm
    exact absurd ((veq_eq (hM.keys p hpm) hv).2 (hpk.trans hek)) this
  obtain ⟨q, hq⟩ := hfind
  have hqm : q ∈ es := List.mem_of_find?_eq_some hq
  have hqv : q.1 = v := (veq_eq (hM.keys q hqm) hv).1 (by simpa using List.find?_some hq)
  have hpq : p = q := by
   have hnd := hM.nodup
   have hi1 := List.mem_iff_getElem.1 hpm
   have hi2 := List.mem_iff_getElem.1 hqm
   obtain ⟨a, ha, rfl⟩ := hi1
   obtain ⟨b, hb, rfl⟩ := hi2
   have : a = b := nodup_inj (x := v) hnd (by simp [ha, hpk, hek]) (by simp [hb, hqv])
   subst this; rfl
  subst hpq
  exact ⟨p.2, j, e.val, e, by simp [mlook, hq], hf, hpr, hj, hek, rfl⟩
def lookupOp (P : Program) (H : List Blk) (t : TypeId) (x k : AV) (ok : Bool) : Option AV :=
 match tmap P t, x, conc k with
 | some (sh, _, e), .mp id, some v =>
  match H[id]?, tz P e with
  | some (.map sh' es), some z =>
   if sh.same sh' = true ∧ shOk sh v = true then
    match mlook es v with
    | some a => some (if ok = true then .tup [a, .lit (.bool true)] else a)
    | none => some (if ok = true then .tup [.lit z, .lit (.bool false)] else .lit z)
   else none
  | _, _ => none
 | _, _, _ => none
theorem lookupOp_sound {S : Sit} (hR : Rel S) {t : TypeId} {x k a : AV} {c ck : Value} {ok : Bool} (h : lookupOp P S.H t x k ok = some a) (hx : VRel S x c) (hk : VRel S k ck) :
    ∃ r, (Instr.lookup t c ck ok).run P S.w = .ok r S.w ∧ VRel S a r := by
  unfold lookupOp at h
  split at h
  case h_2 => cases h
  rename_i sh kt e id v htm hcv
  split at h
  case h_2 => cases h
  rename_i sh' es z hB hz
  split at h
  case isFalse => cases h
  rename_i hg
  obtain ⟨hsame, hv⟩ := hg
  have := KeyShape.same_eq hsame
  subst this
  have hcv' := conc_eq hcv hk
  subst hcv'
  obtain ⟨hu, hsh⟩ := tmap_eq htm
  simp only [VRel] at hx
  obtain ⟨b, wm, hi, _, rfl⟩ := hx
  obtain ⟨B, hB', hrel⟩ := hR.blk id b wm hi
  rw [hB] at hB'; cases hB'
  obtain ⟨E, clock, hE, hM⟩ := hrel
  obtain ⟨hK, hkey⟩ := tshape_keyed hsh
  obtain ⟨lv, hlv⟩ := hkey ck hv
  have hget : (getObj b).run P S.w = .ok (.map E clock) S.w := by
    simp only [getObj, Sem.run, hE]
  have hrun : ∀ r, (Instr.findKey kt ck E.toList).run P S.w = .ok r S.w → (Instr.lookup t (.map (some b)) ck ok).run P S.w =
      .ok (if ok then .tuple #[(match r with | some (_, u) => u | none => z), .bool r.isSome] else (match r with | some (_, u) => u | none => z)) S.w := by
    intro r hr
    unfold Instr.lookup
    rw [Sem.run_bind, run_underlying hu]
    simp only [Result.andThen_ok]
    rw [Sem.run_bind, hget]
    simp only [Result.andThen_ok]
    rw [Sem.run_bind]
    simp only [Result.andThen_ok, Sem.run_pure]
    rw [Sem.run_bind, hK.check S.w E.isEmpty hlv]
    simp only [Result.andThen_ok]
    rw [Sem.run_bind, hr]
    simp only [Result.andThen_ok]
    cases r with
    | none =>
      simp only []
      rw [Sem.run_bind, run_tz hz]
      cases ok <;> rfl
    | some p => cases ok <;> rfl
  rcases hM.find hsh hv S.w with ⟨hl, hf, _⟩ | ⟨a', j, u, e', hl, hf, hr, _, _, _⟩
  · simp only [hl] at h
    refine ⟨_, hrun none hf, ?_⟩
    cases ok <;> simp only [if_true, Bool.false_eq_true, if_false, Option.some.injEq] at h <;> subst h <;> simp [VRel, VRels]
  · simp only [hl] at h
    refine ⟨_, hrun (some (j, u)) hf, ?_⟩
    cases ok <;> simp only [if_true, Bool.false_eq_true, if_false, Option.some.injEq] at h <;> subst h
    · exact hr
    · simp [VRel, VRels, hr]
omit [Outer] in
theorem mset_new {es : List (Value × AV)} {v : Value} {a : AV} (h : ∀ p ∈ es, veq p.1 v = false) : mset es v a = es ++ [(v, a)] := by
 induction es with
 | nil => rfl
 | cons p es ih => simp [mset, h p (by simp), ih fun q hq => h q (by simp [hq])]
omit [Outer] in
theorem mset_keys {sh : KeyShape} {es : List (Value × AV)} {v : Value} {a : AV} (hk : ∀ p ∈ es, shOk sh p.1 = true) (hv : shOk sh v = true) (h : ∃ p ∈ es, p.1 = v) :
  (mset es v a).map (·.1) = es.map (·.1) := by
 induction es with
 | nil => obtain ⟨p, hp, _⟩ := h; simp at hp
 | cons p es ih =>
  by_cases he : veq p.1 v = true
  ·simp [mset, he]
  ·simp only [mset, he, Bool.false_eq_true, if_false, List.map_cons]
   rw [ih (fun q hq => hk q (by simp [hq]))]
   obtain ⟨q, hq, hqv⟩ := h
   rcases List.mem_cons.1 hq with rfl | hq
   ·exact absurd ((veq_eq (hk q (by simp)) hv).2 hqv) he
   ·exact ⟨q, hq, hqv⟩
omit [Outer] in
theorem mset_mem {sh : KeyShape} {es : List (Value × AV)} {v : Value} {a : AV} (hk : ∀ p ∈ es, shOk sh p.1 = true) (hv : shOk sh v = true) :
  ∀ p ∈ mset es v a, shOk sh p.1 = true := by
 induction es with
 | nil => intro p hp; simp [mset] at hp; subst hp; exact hv
 | cons q es ih =>
  intro p hp
  simp only [mset] at hp
  split at hp
  ·rcases List.mem_cons.1 hp with rfl | hp
   ·exact hk q (by simp)
   ·exact hk p (by simp [hp])
  ·rcases List.mem_cons.1 hp with rfl | hp
   ·exact hk p (by simp)
   ·exact ih (fun r hr => hk r (by simp [hr])) p hp
omit [Outer] in
theorem mset_perm {sh : KeyShape} {es es2 : List (Value × AV)} {v : Value} {a : AV} (hk : ∀ p ∈ es, shOk sh p.1 = true) (hv : shOk sh v = true) (hn : (es.map (·.1)).Nodup)
  (hp : es2.Perm es) {j : Nat} {q : Value × AV} (hj : es2[j]? = some q) (hq : q.1 = v) : (es2.set j (v, a)).Perm (mset es v a) := by
 -- both are the list of the other entries, and the new one
 have key : ∀ (l : List (Value × AV)), (∀ p ∈ l, shOk sh p.1 = true) → (l.map (·.1)).Nodup → (∃ p ∈ l, p.1 = v) → (mset l v a).Perm ((v, a) :: l.filter fun p => !veq p.1 v) := by
  intro l
  induction l with
  | nil => intro _ _ h; obtain ⟨p, hp, _⟩ := h; simp at hp
  | cons p l ih =>
   intro hk hn h
   simp only [List.map_cons, List.nodup_cons] at hn
   by_cases he : veq p.1 v = true
   ·have hpv := (veq_eq (hk p (by simp)) hv).1 he
    simp only [mset, he, if_true, List.filter_cons, Bool.not_true, Bool.false_eq_true, if_false]
    rw [List.filter_eq_self.2]
    ·rw [hpv]
    ·intro r hr
     have : r.1 ≠ v := fun e => hn.1 (by rw [hpv, ← e]; exact List.mem_map_of_mem hr)
     simp only [Bool.not_eq_true', Bool.eq_false_iff]
     exact fun h => this ((veq_eq (hk r (by simp [hr])) hv).1 h)
   ·simp only [mset, he, Bool.false_eq_true, if_false, List.filter_cons, Bool.not_false, if_true]
    refine ((ih (fun r hr => hk r (by simp [hr])) hn.2 ?_).cons p).trans (List.Perm.swap ..)
    obtain ⟨q, hq, hqv⟩ := h
    rcases List.mem_cons.1 hq with rfl | hq
    ·exact absurd ((veq_eq (hk q (by simp)) hv).2 hqv) he
    ·exact ⟨q, hq, hqv⟩
 have hk2 : ∀ p ∈ es2, shOk sh p.1 = true := fun p h => hk p (hp.mem_iff.1 h)
 have hn2 : (es2.map (·.1)).Nodup := (hp.map _).nodup_iff.2 hn
 have hmem2 : ∃ p ∈ es2, p.1 = v := ⟨q, List.mem_of_getElem? hj, hq⟩
 have hmem : ∃ p ∈ es, p.1 = v := ⟨q, hp.mem_iff.1 (List.mem_of_getElem? hj), hq⟩
 have e2 : es2.set j (v, a) = mset es2 v a := by
  clear hp hmem hmem2
  induction es2 generalizing j with
  | nil => simp at hj
  | cons p l ih =>
   simp only [List.map_cons, List.nodup_cons] at hn2
   cases j with
   | zero =>
    simp at hj; subst hj
    have : veq p.1 v = true := (veq_eq (hk2 p (by simp)) hv).2 hq
    rw [List.set_cons_zero]; unfold mset; rw [if_pos this, hq]
   | succ j =>
    simp at hj
    have hne : veq p.1 v = false := by
     rw [Bool.eq_false_iff]
     intro h
     have := (veq_eq (hk2 p (by simp)) hv).1 h
     exact hn2.1 (by rw [this, ← hq]; exact List.mem_map_of_mem (List.mem_of_getElem? hj))
    simp [mset, hne, ih hj (fun r hr => hk2 r (by simp [hr])) hn2.2]
 rw [e2]
 exact ((key es2 hk2 hn2 hmem2).trans ((hp.filter _).cons _)).trans (key es hk hn hmem).symm
def updateOp (P : Program) (H : List Blk) (t : TypeId) (x k v : AV) : Option (List Blk) :=
 match tmap P t, x, conc k with
 | some (sh, _, _), .mp id, some u =>
  match H[id]? with
  | some (.map sh' es) => if sh.same sh' = true ∧ shOk sh u = true then some (H.set id (.map sh' (mset es u v))) else none
  | _ => none
 | _, _, _ => none
theorem VRels.set {S : Sit} : ∀ {as : List AV} {cs : List Value} {j : Nat} {a : AV} {c : Value}, VRels S as cs → VRel S a c → VRels S (as.set j a) (cs.set j c)
 | [], [], _, _, _, _, _ => by simp [VRels]
 | [], _ :: _, _, _, _, x, _ => by simp [VRels] at x
 | _ :: _, [], _, _, _, x, _ => by simp [VRels] at x
 | _ :: _, _ :: _, 0, _, _, x, h => by simp only [VRels] at x; exact ⟨h, x.2⟩
 | _ :: _, _ :: _, j + 1, _, _, x, h => by simp only [VRels] at x; exact ⟨x.1, VRels.set x.2 h⟩
theorem updateOp_sound {S : Sit} (hR : Rel S) {t : TypeId} {x k v : AV} {c ck cv : Value} {H' : List Blk} (h : updateOp P S.H t x k v = some H') (hx : VRel S x c) (hk : VRel S k ck)
    (hv : VRel S v cv) : ∃ w', (Instr.mapUpdate t c ck cv).run P S.w = .ok () w' ∧ Rel ⟨H', S.ι, w'⟩ ∧ Ev S ⟨H', S.ι, w'⟩ := by
  unfold updateOp at h
  split at h
  case h_2 => cases h
  rename_i sh kt e id u htm hcu
  split at h
  case h_2 => cases h
  rename_i sh' es hB
  split at h
  case isFalse => cases h
  rename_i hg
  obtain ⟨hsame, hok⟩ := hg
  have := KeyShape.same_eq hsame
  subst this
  cases h
  have hcu' := conc_eq hcu hk
  subst hcu'
  obtain ⟨hu, hsh⟩ := tmap_eq htm
  simp only [VRel] at hx
  obtain ⟨b, wm, hi, hnr, rfl⟩ := hx
  obtain ⟨B, hB', hrel⟩ := hR.blk id b wm hi
  rw [hB] at hB'; cases hB'
  obtain ⟨E, clock, hE, hM⟩ := hrel
  obtain ⟨hK, hkey⟩ := tshape_keyed hsh
  obtain ⟨lv, hlv⟩ := hkey ck hok
  have hget : (getObj b).run P S.w = .ok (.map E clock) S.w := by
    simp only [getObj, Sem.run, hE]
  have hbs : b < S.w.heap.size := (Array.getElem?_eq_some_iff.1 hE).1
  have hset : ∀ o, (setObj b o).run P S.w = .ok () { S.w with heap := S.w.heap.setIfInBounds b o } := by
    intro o
    simp only [setObj, Sem.run, hE]
  have hother : ∀ o b', b' ≠ b → ({ S.w with heap := S.w.heap.setIfInBounds b o } : World).heap[b']? = S.w.heap[b']? := by
    intro o b' hne
    simp [Ne.symm hne]
  have hhere : ∀ o, ({ S.w with heap := S.w.heap.setIfInBounds b o } : World).heap[b]? = some o := by
    intro o; simp [hbs]
  obtain ⟨es2, hp, h1, h2⟩ := hM.ents
  have hstart : ∀ r, (Instr.findKey kt ck E.toList).run P S.w = .ok r S.w → (Instr.mapUpdate t (.map (some b)) ck cv).run P S.w =
      (match r with
        | some (i, _) => (do
            let key ← Instr.keyThatStays (((E[i]?).map fun e : MapEntry => e.key).getD ck) ck
            setObj b (.map (E.modify i fun e => { e with key, val := cv }) clock) : Sem Unit)
        | none => setObj b (.map (E.push { key := ck, val := cv, born := clock }) (clock + 1))).run P S.w := by
    intro r hr
    unfold Instr.mapUpdate
    rw [Sem.run_bind, run_underlying hu]
    simp only [Result.andThen_ok]
    rw [Sem.run_bind, hget]
    simp only [Result.andThen_ok]
    rw [Sem.run_bind, hK.check S.w false hlv]
    simp only [Result.andThen_ok]
    rw [Sem.run_bind, hr]
    cases r <;> rfl
  rcases hM.find hsh hok S.w with ⟨hl, hf, hall⟩ | ⟨a', j, c', e', hl, hf, hr, hj, hek, hev'⟩
  · have hmset : mset es ck v = es ++ [(ck, v)] := mset_new fun p hp' => by
      rw [Bool.eq_false_iff]; exact fun hh => hall p hp' ((veq_eq (hM.keys p hp') hok).1 hh)
    refine ⟨_, by rw [hstart _ hf]; exact hset _, ?_, Ev.write hR hi hB rfl rfl (hother _)⟩
    refine Rel.write hR hi hB rfl rfl (hother _) ⟨_, _, hhere _, ?_⟩
    have hev := Ev.write hR (B' := .map sh (mset es ck v)) hi hB rfl rfl (hother (.map (E.push { key := ck, val := cv, born := clock }) (clock + 1)))
    refine ⟨⟨es2 ++ [(ck, v)], by rw [hmset]; exact hp.append_right _, by simp [h1], ?_⟩, mset_mem hM.keys hok, ?_, ?_, ?_⟩
    · simp only [List.map_append, List.map_cons, List.map_nil, Array.toList_push]
      exact VRels.ev hev _ _ (h2.append ⟨hv, by simp [VRels]⟩)
    · rw [hmset, List.map_append, List.nodup_append]
      refine ⟨hM.nodup, by simp, ?_⟩
      intro x hx y hy
      obtain ⟨p, hp', rfl⟩ := List.mem_map.1 hx
      simp at hy; subst hy
      exact hall p hp'
    · simp only [Array.toList_push, List.map_append, List.map_cons, List.map_nil, List.nodup_append]
      refine ⟨hM.stamps, by simp, ?_⟩
      intro x hx y hy
      obtain ⟨p, hp', rfl⟩ := List.mem_map.1 hx
      simp at hy; subst hy
      have := hM.born p hp'
      omega
    · intro e he
      simp only [Array.toList_push, List.mem_append, List.mem_singleton] at he
      rcases he with he | rfl
      · have := hM.born e he; omega
      · simp
  · have hjE : E[j]? = some e' := by simpa using hj
    have hstay : (Instr.keyThatStays (((E[j]?).map (·.key)).getD ck) ck).run P S.w = .ok ck S.w := by
      rw [hjE]; simp only [Option.map_some, Option.getD_some, hek]; exact hK.stays S.w hlv
    have hjlt : j < E.size := (Array.getElem?_eq_some_iff.1 hjE).1
    refine ⟨_, by rw [hstart _ hf]; simp only []; rw [Sem.run_bind, hstay]; simp only [Result.andThen_ok]; exact hset _, ?_, Ev.write hR hi hB rfl rfl (hother _)⟩
    refine Rel.write hR hi hB rfl rfl (hother _) ⟨_, _, hhere _, ?_⟩
    have hev := Ev.write hR (B' := .map sh (mset es ck v)) hi hB rfl rfl (hother (.map (E.modify j fun e => { e with key := ck, val := cv }) clock))
    have hlen : es2.length = E.toList.length := by have := congrArg List.length h1; simpa using this.symm
    have hE' : (E.modify j fun e => { e with key := ck, val := cv }).toList = E.toList.set j { e' with key := ck, val := cv } := by
      apply List.ext_getElem?
      intro i
      rw [Array.getElem?_toList, Array.getElem?_modify, List.getElem?_set]
      by_cases hij : j = i
      · subst hij
        rw [hjE]
        simp [hjlt]
      · simp [hij]
    have hq : ∃ q, es2[j]? = some q ∧ q.1 = ck := by
      have hj2 : j < es2.length := by rw [hlen]; simpa using hjlt
      refine ⟨es2[j], by simp [hj2], ?_⟩
      have : (es2.map (·.1))[j]? = some e'.key := by rw [← h1]; simp [hjE]
      simp [hj2] at this
      rw [this, hek]
    obtain ⟨q, hq1, hq2⟩ := hq
    refine ⟨⟨es2.set j (ck, v), mset_perm hM.keys hok hM.nodup hp hq1 hq2, ?_, ?_⟩, mset_mem hM.keys hok, ?_, ?_, ?_⟩
    · rw [hE', List.map_set, List.map_set, h1]
    · rw [hE', List.map_set, List.map_set]
      exact VRels.ev hev _ _ (h2.set hv)
    · rw [mset_keys hM.keys hok ⟨q, hp.mem_iff.1 (List.mem_of_getElem? hq1), hq2⟩]; exact hM.nodup
    · rw [hE', List.map_set]
      have : (E.toList.map (·.born)).set j e'.born = E.toList.map (·.born) := by
        apply List.ext_getElem?
        intro i
        rw [List.getElem?_set]
        by_cases hij : j = i
        · subst hij
          rw [List.getElem?_map, hj]
          simp [hjlt]
        · simp [hij]
      rw [this]; exact hM.stamps
    · intro e he
      rw [hE'] at he
      rcases List.mem_or_eq_of_mem_set he with he | rfl
      · exact hM.born e he
      · exact hM.born e' (List.mem_of_getElem? hj)
end Go.Vm

namespace Go.Vm
variable [Outer]
variable {P : Program}
omit [Outer] in
theorem run_callFunc {f : FuncId} (h : callable P f = true) (args : Array Value) (w : World) : (callFunc f args).run P w = .ok (.enter f args) w := by
 unfold callable at h
 unfold callFunc
 rw [Sem.run_bind]
 simp only [run_program, Result.andThen_ok]
 cases hf : P.funcs[f]? with
 | none => simp [hf] at h
 | some fn =>
  simp only [hf, Bool.and_eq_true, bne_iff_ne, ne_eq] at h
  simp only []
  rw [if_neg (by simpa using h.2), if_neg (by have := h.1; cases hb : fn.body <;> simp_all)]
  rfl
def aevs (ρ : Operand → Option AV) : List Operand → Option (List AV)
 | [] => some []
 | x :: xs => match ρ x, aevs ρ xs with
  | some a, some as => some (a :: as)
  | _, _ => none
def apairs (ρ : Operand → Option AV) : List (Nat × Operand) → Option (List (Nat × AV))
 | [] => some []
 | (i, x) :: xs => match ρ x, apairs ρ xs with
  | some a, some as => some ((i, a) :: as)
  | _, _ => none
section
variable {S : Sit} {ρ : Operand → Option AV} {e : Operand → Value} (hρ : ∀ x v, ρ x = some v → VRel S v (e x))
include hρ
theorem aevs_sound : ∀ {xs : List Operand} {as : List AV}, aevs ρ xs = some as → VRels S as (xs.map e)
 | [], as, h => by simp only [aevs, Option.some.injEq] at h; subst h; simp [VRels]
 | x :: xs, as, h => by
  simp only [aevs] at h
  split at h
  ·rename_i a as' h1 h2
   cases h
   exact ⟨hρ x a h1, aevs_sound h2⟩
  ·cases h
theorem apairs_sound : ∀ {xs : List (Nat × Operand)} {as : List (Nat × AV)}, apairs ρ xs = some as → PRels S as (xs.map fun (i, x) => (i, e x))
 | [], as, h => by simp only [apairs, Option.some.injEq] at h; subst h; simp [PRels]
 | (i, x) :: xs, as, h => by
  simp only [apairs] at h
  split at h
  ·rename_i a as' h1 h2
   cases h
   exact ⟨rfl, hρ x a h1, apairs_sound h2⟩
  ·cases h
end
def lenA (P : Program) (H : List Blk) (t : TypeId) (x : AV) : Option Nat :=
 match P.underlying t, x with
 | some .string, .lit (.string s) => some s.size
 | some (.array n _), _ => some n
 | some (.slice _), .lit (.slice _ n _) => some n
 | some (.slice _), .sl n _ _ => some n
 | some (.slice _), .hsl _ _ n _ => some n
 | some (.slice _), .msl _ _ n _ => some n
 | some (.map _ _), .mp id => match H[id]? with
  | some (.map _ es) => some es.length
  | _ => none
 | _, _ => none
theorem lenA_sound {S : Sit} (hR : Rel S) {t : TypeId} {x : AV} {c : Value} {n : Nat} {argTypes : Array TypeId} {ty : TypeId} (ht : argTypes[0]? = some t) (h : lenA P S.H t x = some n) (hx : VRel S x c) :
  (Builtin.len_ argTypes ty #[c]).run P S.w = .ok (.int .i64 n) S.w := by
 unfold lenA at h
 have h0 : (#[c] : Array Value)[0]? = some c := rfl
 unfold Builtin.len_
 simp only [ht, h0]
 split at h
 ·rename_i s hu; cases h; simp only [VRel] at hx; subst hx
  rw [Sem.run_bind, run_underlying hu]; rfl
 ·rename_i m e hu; cases h
  rw [Sem.run_bind, run_underlying hu]; rfl
 ·rename_i e a m k hu; cases h; simp only [VRel] at hx; subst hx
  rw [Sem.run_bind, run_underlying hu]; rfl
 ·rename_i e m cells tail hu; cases h; simp only [VRel] at hx
  obtain ⟨base, cap, rfl, _⟩ := hx
  rw [Sem.run_bind, run_underlying hu]; rfl
 ·rename_i e id off m cap hu; cases h; simp only [VRel] at hx
  obtain ⟨b, wm, _, _, rfl⟩ := hx
  rw [Sem.run_bind, run_underlying hu]; rfl
 ·rename_i e id gen m sz hu; cases h; simp only [VRel] at hx
  obtain ⟨b, cap, rfl, _⟩ := hx
  rw [Sem.run_bind, run_underlying hu]; rfl
 ·rename_i k e id hu
  cases hB : S.H[id]? with
  | none => simp [hB] at h
  | some B =>
   cases B with
   | map sh es =>
    simp only [hB, Option.some.injEq] at h
    subst h
    simp only [VRel] at hx
    obtain ⟨b, wm, hi, _, rfl⟩ := hx
    obtain ⟨B, hB', hrel⟩ := hR.blk id b wm hi
    rw [hB] at hB'; cases hB'
    obtain ⟨E, clock, hE, hM⟩ := hrel
    obtain ⟨es2, hp, h1, _⟩ := hM.ents
    have hl : E.size = es.length := by
     have := congrArg List.length h1
     simp only [List.length_map, Array.length_toList] at this
     rw [this]; exact hp.length_eq
    rw [Sem.run_bind, run_underlying hu]
    simp only [Result.andThen_ok]
    rw [Sem.run_bind, show (getObj b).run P S.w = .ok (.map E clock) S.w by simp only [getObj, Sem.run, hE]]
    simp only [Result.andThen_ok, hl]
    rfl
   | _ => simp [hB] at h
 ·cases h
def fnOf : AV → Option (FuncId × List AV × List AV)
 | .lit (.func (.func f) first captured) => some (f, first.toList.map .lit, captured.toList.map .lit)
 | .fn (.func f) first captured => some (f, first, captured)
 | _ => none
theorem fnOf_sound {S : Sit} {x : AV} {c : Value} {f : FuncId} {first captured : List AV} (h : fnOf x = some (f, first, captured)) (hx : VRel S x c) :
  ∃ F C : Array Value, c = .func (.func f) F C ∧ VRels S first F.toList ∧ VRels S captured C.toList := by
 unfold fnOf at h
 split at h
 ·cases h; simp only [VRel] at hx; subst hx; exact ⟨_, _, rfl, VRels.map_lit _, VRels.map_lit _⟩
 ·cases h; simpa only [VRel] using hx
 ·cases h
def notPtr : TypeDesc → Bool
 | .pointer _ => false
 | _ => true
def methodA (P : Program) (t : TypeId) (name : String) : Option FuncId :=
 match P.info? t, P.underlying t with
 | some i, some d =>
  match i.methods.find? (·.name == name) with
  | some m => match m.func with
   | some (f, false) => if m.path.isEmpty && notPtr d then some f else none
   | _ => none
  | none => none
 | _, _ => none
omit [Outer] in
theorem methodA_sound {t : TypeId} {name : String} {f : FuncId} (h : methodA P t name = some f) (hc : callable P f = true) (v : Value) (args : Array Value) (w : World) :
  (callMethod (.iface t v) name args).run P w = .ok (.enter f (#[v] ++ args)) w := by
 unfold methodA at h
 split at h
 case h_2 => cases h
 rename_i i d hi hu
 cases hm : i.methods.find? (·.name == name) with
 | none => simp [hm] at h
 | some m =>
 simp only [hm] at h
 split at h
 case h_2 => cases h
 rename_i f' hf
 split at h
 case isFalse => cases h
 rename_i hg
 cases h
 simp only [Bool.and_eq_true] at hg
 obtain ⟨hp, hd⟩ := hg
 have hpath : m.path = #[] := by simpa using hp
 unfold callMethod
 simp only []
 rw [Sem.run_bind]
 simp only [run_program, Result.andThen_ok]
 have hfuel : ∃ n, P.types.size + Made.depth = n + 1 := ⟨P.types.size + Made.depth - 1, by unfold Made.depth; omega⟩
 obtain ⟨n, hn⟩ := hfuel
 rw [hn, Sem.run_bind]
 have hrun : (method (n + 1) t v name).run P w = .ok (f, v) w := by
  unfold method
  rw [Sem.run_bind, run_typeInfo' hi]
  simp only [Result.andThen_ok, hm, hpath, hf]
  rw [Sem.run_bind]
  simp only [follow, Sem.run_pure, Result.andThen_ok]
  rw [Sem.run_bind]
  have : (receiverAt t (.val v) false (if (#[] : Array FieldStep).isEmpty = true then some ((name.splitOn ".").getLastD name) else none)).run P w = .ok v w := by
   unfold receiverAt
   rw [Sem.run_bind, run_underlying hu]
   simp only [Result.andThen_ok]
   cases d <;> first | rfl | (simp [notPtr] at hd; done)
  rw [this]
  rfl
 rw [hrun]
 simp only [Result.andThen_ok]
 exact run_callFunc hc _ _
def addrA : AV → Option AV
 | .ptr id off => some (.ptr id off)
 | .eptr cells => some (.eptr cells)
 | .mptr id gen off => some (.mptr id gen off)
 | _ => none
theorem addrA_sound {S : Sit} {x y : AV} {c : Value} (h : addrA x = some y) (hx : VRel S x c) : y = x ∧ ∃ a, c = .pointer (some a) := by
 unfold addrA at h
 split at h
 ·cases h; simp only [VRel] at hx; obtain ⟨b, wm, _, _, rfl⟩ := hx; exact ⟨rfl, _, rfl⟩
 ·cases h; simp only [VRel] at hx; obtain ⟨b, o, rfl, _⟩ := hx; exact ⟨rfl, _, rfl⟩
 ·cases h; simp only [VRel] at hx; obtain ⟨b, o, rfl, _⟩ := hx; exact ⟨rfl, _, rfl⟩
 ·cases h
def assertA (P : Program) (a : TypeId) (x : AV) : Option AV :=
 match P.underlying a with
 | some (.interface _) | none => none
 | some _ => match x with
  | .iface t v => if t = a then some (.tup [v, .lit (.bool true)]) else (tz P a).map fun z => .tup [.lit z, .lit (.bool false)]
  | _ => none
def makeSliceA (P : Program) (t : TypeId) (l c : AV) : Option (Nat × Nat × TypeId × List AV) :=
 match tslice P t, l, c with
 | some e, .lit (.int .i64 a), .lit (.int .i64 b) =>
  match tsz P e, tz P e, tbytes P e with
  | some size, some z, some bytes =>
   if z.cells.size = size ∧ 0 < size ∧ 0 ≤ a ∧ a ≤ b ∧ b ≤ 65536 ∧ bytes ≤ 65536 then some (a.toNat, b.toNat, e, (zeros z.cells.toList b.toNat).map .lit) else none
  | _, _, _ => none
 | _, _, _ => none
theorem makeSliceA_sound {S : Sit} (hR : Rel S) {t : TypeId} {l c : AV} {cl cc : Value} {n m : Nat} {e : TypeId} {cells : List AV} (h : makeSliceA P t l c = some (n, m, e, cells)) (hl : VRel S l cl) (hc : VRel S c cc) :
  ∃ v w', (Instr.makeSlice t cl cc).run P S.w = .ok v w' ∧ Rel ⟨S.H ++ [.box cells e], upd S.ι S.H.length (some (S.w.heap.size, 0)), w'⟩ ∧
   Ev S ⟨S.H ++ [.box cells e], upd S.ι S.H.length (some (S.w.heap.size, 0)), w'⟩ ∧ v = .slice (some ⟨S.w.heap.size, 0, none⟩) n m := by
 unfold makeSliceA at h
 split at h
 case h_2 => cases h
 rename_i e' a b hsl
 split at h
 case h_2 => cases h
 rename_i size z bytes hs hz hb
 split at h
 case isFalse => cases h
 rename_i hg
 obtain ⟨hzs, hpos, h0, hab, hb1, hb2⟩ := hg
 cases h
 simp only [VRel] at hl hc
 subst hl; subst hc
 have hcells : VRels S ((zeros z.cells.toList b.toNat).map .lit) ((Array.range (b.toNat * size)).map fun i => z.cells[i % z.cells.size]!).toList := by
  have := range_zeros z.cells b.toNat (by omega)
  rw [← hzs, this]
  exact VRels.map_lit _
 obtain ⟨w', h1, h2, h3⟩ := new_box (P := P) hR e hcells
 refine ⟨_, w', ?_, h2, h3, rfl⟩
 obtain ⟨ti, hti, htib⟩ : ∃ ti, P.info? e = some ti ∧ ti.bytes = bytes := by
  unfold tbytes at hb
  exact map_some hb
 have hnb : ¬ ((bytes : Int) * b > 2 ^ 48) := by
  have h1 : (bytes : Int) * b ≤ 65536 * 65536 := Int.mul_le_mul (by omega) hb1 (by omega) (by omega)
  have h2 : (2 : Int) ^ 48 = 281474976710656 := by decide
  rw [h2]; omega
 unfold Instr.makeSlice
 rw [Sem.run_bind, run_underlying (tslice_eq hsl)]
 simp only [Result.andThen_ok]
 rw [Sem.run_bind, show (asInt (Value.int .i64 a)).run P S.w = .ok a S.w from rfl]
 simp only [Result.andThen_ok]
 rw [Sem.run_bind, show (asInt (Value.int .i64 b)).run P S.w = .ok b S.w from rfl]
 simp only [Result.andThen_ok]
 rw [Sem.run_bind, run_typeInfo' hti]
 simp only [Result.andThen_ok, htib]
 rw [IntWalk.i64_in a (by omega), IntWalk.i64_in b (by omega)]
 rw [if_neg (by
  have e1 : ¬ b < 0 := by omega
  have e3 : ¬ a < 0 := by omega
  have e4 : ¬ a > b := by omega
  simp [e1, e3, e4]
  simpa using hnb)]
 rw [Sem.run_bind, run_askRoom]
 simp only [Result.andThen_ok]
 rw [Sem.run_bind, run_tsz hs]
 simp only [Result.andThen_ok]
 by_cases hl0 : b.toNat * size = 0
 ·rw [if_pos hl0]
  rw [Sem.run_bind]
  simp only [Sem.run_pure, Result.andThen_ok]
  have e0 : ((Array.range (b.toNat * size)).map fun i => (#[] : Array Value)[i % (#[] : Array Value).size]!) = ((Array.range (b.toNat * size)).map fun i => z.cells[i % z.cells.size]!) := by rw [hl0]; simp
  rw [e0, Sem.run_bind, h1]
  rfl
 ·rw [if_neg hl0]
  rw [Sem.run_bind, run_tz hz]
  simp only [Result.andThen_ok]
  rw [Sem.run_bind, Sem.run_pure]
  simp only [Result.andThen_ok]
  rw [Sem.run_bind, h1]
  rfl
def aop (P : Program) (m : Bool) (H : List Blk) (ρ : Operand → Option AV) (o : Oper) : Option AR :=
  match o.op with
  | .move x | .assign x => (ρ x).map fun v => .val v H
  | .pick c a b => match ρ c with
    | some (.lit (.bool t)) => (if t then ρ a else ρ b).map fun v => .val v H
    | _ => none
  | .alloc t => (tz P t).map fun z => .val (.ptr H.length 0) (H ++ [.box (z.cells.toList.map .lit) t])
  | .box t x => (ρ x).map fun v => .val (.ptr H.length 0) (H ++ [.box v.cellsOf t])
  | .build t parts => (apairs ρ parts.toList).bind fun ps => (buildOp P t ps).map fun v => .val v H
  | .buildSlice t n parts => (apairs ρ parts.toList).bind fun ps => (buildSliceOp P t n ps).map fun v => .val v H
  | .load t x => (ρ x).bind fun a => (loadOp P H t a).map fun v => .val v H
  | .store t x v => match ρ x, ρ v with
    | some a, some u => (storeOp P H t a u).map fun H' => .val (.lit undef) H'
    | _, _ => none
  | .binOp op t x y _ => match ρ x, ρ y with
    | some a, some b => (binB P op t a b).map fun v => .val v H
    | _, _ => none
  | .unOp op _ x => (ρ x).bind fun a => (unA op a).map fun v => .val v H
  | .convert src dst x => (ρ x).bind fun a => (convB P H src dst a).map fun v => .val v H
  | .makeInterface t x => match P.underlying t with
    | some (.interface _) | none => none
    | some _ => (ρ x).map fun v => .val (.iface t v) H
  | .makeFunc f first captured => match aevs ρ first.toList, aevs ρ captured.toList with
    | some a, some b => some (.val (.fn f a b) H)
    | _, _ => none
  | .makeMap t none => (tmap P t).map fun p => .val (.mp H.length) (H ++ [.map p.1 []])
  | .makeSlice t l c => match ρ l, ρ c with
    | some a, some b => (makeSliceA P t a b).map fun p => .val (.hsl H.length 0 p.1 p.2.1) (H ++ [.box p.2.2.2 p.2.2.1])
    | _, _ => none
  | .nilCheck x => (ρ x).bind fun y => (addrA y).map fun v => .val v H
  | .typeAssert x _ a true => (ρ x).bind fun y => (assertA P a y).map fun v => .val v H
  | .range t x => match P.underlying t, ρ x with
    | some .string, some (.lit (.string s)) => some (.val (.ptr H.length 0) (H ++ [.iterS s 0]))
    | _, _ => none
  | .next x true => match ρ x with
    | some (.ptr id 0) => match H[id]? with
      | some (.iterS s pos) => if pos < s.size then some (.val (.tup [.lit (.bool true), .lit (goInt pos), .lit (.int .i32 (Utf8.decode s pos).1)]) (H.set id (.iterS s (pos + (Utf8.decode s pos).2))))
          else some (.val (.tup [.lit (.bool false)]) H)
      | _ => none
    | _ => none
  | .slice t x lo hi mx => match ρ x, natOf (lo.bind ρ), natOf (hi.bind ρ), natOf (mx.bind ρ) with
    | some a, some l, some h, some m => if (lo.isSome == l.isSome && hi.isSome == h.isSome && mx.isSome == m.isSome) then (sliceA P t a l h m).map fun v => .val v H else none
    | _, _, _, _ => none
  | .fieldAddr t x i => (ρ x).bind fun a => (fieldOp P t a i).map fun v => .val v H
  | .field t x i => (ρ x).bind fun a => (fieldA P t a i).map fun v => .val v H
  | .indexAddr t x i => match ρ x, ρ i with
    | some a, some b => (indexOp P t a b).map fun v => .val v H
    | _, _ => none
  | .index t x i => match ρ x, ρ i with
    | some a, some b => (indexA P t a b).map fun v => .val v H
    | _, _ => none
  | .lookup t x k ok => match ρ x, ρ k with
    | some a, some b => (lookupOp P H t a b ok).map fun v => .val v H
    | _, _ => none
  | .mapUpdate t m k x | .insert t m k x => match ρ m, ρ k, ρ x with
    | some a, some b, some c => (updateOp P H t a b c).map fun H' => .val (.lit undef) H'
    | _, _, _ => none
  | .extract t i => match ρ t with
    | some (.tup vs) => (vs[i]?).map fun v => .val v H
    | _ => none
  | .panic x => match ρ x with
    | some (.iface t v) => some (.pan (.iface t v))
    | _ => none
  | .call c =>
    match aevs ρ c.args.toList with
    | none => none
    | some args =>
      match c.callee with
      | .value f => match ρ f with
        | none => none
        | some (.yld id) => match H[id]? with
          | some (.loop l) => if args.length = l.params.size then some (.round id args) else none
          | _ => none
        | some fv => match fnOf fv with
          | some (g, first, captured) => some (.call g (first ++ args ++ captured))
          | none => none
      | .invoke r name => match ρ r with
        | some (.iface t v) => (methodA P t name).map fun f => .call f (v :: args)
        | _ => none
      | .builtin .len => match c.argTypes[0]?, args with
        | some t, [x] => (lenA P H t x).map fun (n : Nat) => .val (.lit (.int .i64 (n : Int))) H
        | _, _ => none
      | .builtin .append => match c.argTypes[0]?, c.argTypes[1]?, args with
        | some sT, some xT, [s, x] => (appA P m H sT xT s x).map fun p => .val p.1 p.2
        | _, _, _ => none
      | .builtin .max => match args with
        | [.lit (.int k a), .lit (.int _ b)] => some (.val (.lit (.int k (if b > a then b else a))) H)
        | _ => none
      | .builtin .min => match args with
        | [.lit (.int k a), .lit (.int _ b)] => some (.val (.lit (.int k (if b < a then b else a))) H)
        | _ => none
      | _ => none
  | _ => none
theorem execOp_v {S : Sit} {s : Sem Value} {v : AV} {H' : List Blk} (h : ∃ c ι' w', s.run P S.w = .ok c w' ∧ Rel ⟨H', ι', w'⟩ ∧ Ev S ⟨H', ι', w'⟩ ∧ Non S ⟨H', ι', w'⟩ ∧ VRel ⟨H', ι', w'⟩ v c) :
  AR.Ok P S (.val v H') ((do pure (.value (← s)) : Sem Next).run P S.w) := by
 obtain ⟨c, ι', w', h1, h2, h3, h4, h5⟩ := h
 refine ⟨c, ι', w', .inl ?_, h2, h3, h4, h5⟩
 rw [Sem.run_bind, h1]
 rfl
theorem execOp_here {S : Sit} (hR : Rel S) {s : Sem Value} {v : AV} (h : ∃ c, s.run P S.w = .ok c S.w ∧ VRel S v c) :
  AR.Ok P S (.val v S.H) ((do pure (.value (← s)) : Sem Next).run P S.w) := by
 obtain ⟨c, h1, h2⟩ := h
 exact execOp_v ⟨c, S.ι, S.w, h1, hR, Ev.refl S, Non.refl S, h2⟩
theorem execOp_u {S : Sit} {s : Sem Unit} {H' : List Blk} (h : ∃ w', s.run P S.w = .ok () w' ∧ Rel ⟨H', S.ι, w'⟩ ∧ Ev S ⟨H', S.ι, w'⟩) :
  AR.Ok P S (.val (.lit undef) H') ((do s; pure .skip : Sem Next).run P S.w) := by
 obtain ⟨w', h1, h2, h3⟩ := h
 refine ⟨undef, S.ι, w', .inr ⟨?_, rfl⟩, h2, h3, Non.same, by simp [VRel]⟩
 rw [Sem.run_bind, h1]
 rfl
theorem natOf_rel {S : Sit} {ρ : Operand → Option AV} {e : Operand → Value} (hρ : ∀ x v, ρ x = some v → VRel S v (e x)) {lo : Option Operand} {l : Option Nat} (h : natOf (lo.bind ρ) = some l)
  (hs : lo.isSome = l.isSome) : match (generalizing := false) lo.map e, l with | none, none => True | some c, some n => ∃ k, c = Value.int k n | _, _ => False := by
 cases lo with
 | none =>
  cases l with
  | none => trivial
  | some n => simp at hs
 | some x =>
  cases l with
  | none => simp at hs
  | some n =>
   simp only [Option.bind_some, Option.map_some] at h ⊢
   cases hx : ρ x with
   | none => rw [hx] at h; simp [natOf] at h
   | some v =>
    rw [hx] at h
    have := natOf_sound (S := S) (c := some (e x)) h (hρ x v hx)
    exact this
set_option maxHeartbeats 1000000 in
theorem aop_sound {m : Bool} {S : Sit} (hR : Rel S) {ρ : Operand → Option AV} {e : Operand → Value} (hρ : ∀ x v, ρ x = some v → VRel S v (e x)) {o : Oper} {r : AR} (h : aop P m S.H ρ o = some r) :
    AR.Ok P S r ((execOp e o).run P S.w) := by
  obtain ⟨dst, op, type, pos, after, guard⟩ := o
  cases op with
  | move x =>
    obtain ⟨v, hv, rfl⟩ := map_some h
    exact AR.Ok.here hR rfl (hρ x v hv)
  | assign x =>
    obtain ⟨v, hv, rfl⟩ := map_some h
    exact AR.Ok.here hR rfl (hρ x v hv)
  | pick c a b =>
    simp only [aop] at h
    split at h
    · rename_i t ht
      obtain ⟨v, hv, rfl⟩ := map_some h
      have hc := hρ c _ ht
      simp only [VRel] at hc
      cases t
      · refine AR.Ok.here hR ?_ (hρ b v hv)
        simp only [execOp, hc]; rfl
      · refine AR.Ok.here hR ?_ (hρ a v hv)
        simp only [execOp, hc]; rfl
    · cases h
  | alloc t =>
    obtain ⟨z, hz, rfl⟩ := map_some h
    obtain ⟨w', h1, h2, h3⟩ := new_box (P := P) hR t (VRels.map_lit z.cells.toList)
    refine execOp_v ⟨.pointer (some ⟨S.w.heap.size, 0, none⟩), _, w', ?_, h2, h3, Non.alloc, ?_⟩
    · unfold Instr.alloc
      rw [Sem.run_bind, run_tz hz]
      simp only [Result.andThen_ok]
      rw [Sem.run_bind]
      unfold newVar
      rw [h1]
      rfl
    · simp only [VRel]
      exact ⟨S.w.heap.size, 0, upd_same .., ⟨.box (z.cells.toList.map .lit) t, by simp, rfl⟩, rfl⟩
  | box t x =>
    obtain ⟨v, hv, rfl⟩ := map_some h
    obtain ⟨w', h1, h2, h3⟩ := new_box (P := P) hR t (hρ x v hv).cells
    refine execOp_v ⟨.pointer (some ⟨S.w.heap.size, 0, none⟩), _, w', ?_, h2, h3, Non.alloc, ?_⟩
    · unfold Instr.box
      rw [Sem.run_bind]
      unfold newVar
      rw [h1]
      rfl
    · simp only [VRel]
      exact ⟨S.w.heap.size, 0, upd_same .., ⟨.box v.cellsOf t, by simp, rfl⟩, rfl⟩
  | build t parts =>
    obtain ⟨ps, hps, h⟩ := bind_some h
    obtain ⟨v, hv, rfl⟩ := map_some h
    refine execOp_here hR (buildOp_sound hv ?_)
    have := apairs_sound hρ hps
    simpa using this
  | buildSlice t n parts =>
    obtain ⟨ps, hps, h⟩ := bind_some h
    obtain ⟨v, hv, rfl⟩ := map_some h
    have hp := apairs_sound hρ hps
    obtain ⟨c, w', h1, h2, h3, h4⟩ := buildSliceOp_sound (cparts := parts.map fun (i, x) => (i, e x)) hR hv (by simpa using hp)
    exact execOp_v ⟨c, S.ι, w', h1, h2, h3, Non.same, h4⟩
  | load t x =>
    obtain ⟨a, ha, h⟩ := bind_some h
    obtain ⟨v, hv, rfl⟩ := map_some h
    exact execOp_here hR (loadOp_sound hR hv (hρ x a ha))
  | store t x y =>
    simp only [aop] at h
    split at h
    · rename_i a u ha hu
      obtain ⟨H', hH, rfl⟩ := map_some h
      exact execOp_u (storeOp_sound hR hH (hρ x a ha) (hρ y u hu))
    · cases h
  | binOp op t x y yt =>
    simp only [aop] at h
    split at h
    · rename_i a b ha hb
      obtain ⟨v, hv, rfl⟩ := map_some h
      exact execOp_here hR (binB_sound hv (hρ x a ha) (hρ y b hb))
    · cases h
  | unOp op t x =>
    obtain ⟨a, ha, h⟩ := bind_some h
    obtain ⟨v, hv, rfl⟩ := map_some h
    exact execOp_here hR (unA_sound hv (hρ x a ha))
  | convert src dst x =>
    simp only [aop] at h
    obtain ⟨a, ha, hq⟩ := bind_some h
    obtain ⟨v, hv, rfl⟩ := map_some hq
    exact execOp_here hR (convB_sound hR hv (hρ x a ha))
  | makeInterface t x =>
    simp only [aop] at h
    split at h
    · cases h
    · cases h
    · rename_i d hd hu
      obtain ⟨v, hv, rfl⟩ := map_some h
      refine execOp_here hR ⟨.iface t (e x), ?_, by simp only [VRel]; exact ⟨_, rfl, hρ x v hv⟩⟩
      unfold Instr.makeInterface
      rw [Sem.run_bind, run_underlying hu]
      simp only [Result.andThen_ok]
      cases d <;> first | rfl | (exact absurd rfl (hd _))
  | makeFunc f first captured =>
    simp only [aop] at h
    split at h
    · rename_i a b ha hb
      cases h
      refine execOp_here hR ⟨.func f (first.map e) (captured.map e), rfl, ?_⟩
      simp only [VRel]
      exact ⟨_, _, rfl, by simpa using aevs_sound hρ ha, by simpa using aevs_sound hρ hb⟩
    · cases h
  | makeMap t res =>
    cases res with
    | some x => simp [aop] at h
    | none =>
      obtain ⟨p, hp, rfl⟩ := map_some h
      have hev := Ev.alloc hR (w' := { S.w with heap := S.w.heap.push (.map #[] 0) }) (.map p.1 []) 0 rfl
      refine execOp_v ⟨.map (some S.w.heap.size), _, _, rfl, Rel.alloc hR (.map p.1 []) 0 rfl ⟨#[], 0, by simp, ⟨⟨[], List.Perm.refl _, rfl, by simp [VRels]⟩, by simp, by simp, by simp, by simp⟩⟩, hev, Non.alloc, ?_⟩
      simp only [VRel]
      exact ⟨S.w.heap.size, 0, upd_same .., ⟨.map p.1 [], by simp, rfl⟩, rfl⟩
  | makeSlice t l c =>
    simp only [aop] at h
    split at h
    · rename_i a b ha hb
      obtain ⟨⟨n, k, el, cells⟩, hp, rfl⟩ := map_some h
      obtain ⟨v, w', h1, h2, h3, rfl⟩ := makeSliceA_sound hR hp (hρ l a ha) (hρ c b hb)
      refine execOp_v ⟨_, _, w', h1, h2, h3, Non.alloc, ?_⟩
      simp only [VRel]
      exact ⟨S.w.heap.size, 0, upd_same .., ⟨.box cells el, by simp, rfl⟩, rfl⟩
    · cases h
  | nilCheck x =>
    simp only [aop] at h
    obtain ⟨y0, hx, hq⟩ := bind_some h
    obtain ⟨v0, hv0, rfl⟩ := map_some hq
    obtain ⟨rfl, ad, had⟩ := addrA_sound hv0 (hρ x _ hx)
    have hv := hρ x _ hx
    rw [had] at hv
    refine ⟨.pointer (some ad), S.ι, S.w, .inl ?_, hR, Ev.refl S, Non.refl S, hv⟩
    simp only [execOp, had]
    rfl
  | typeAssert x xT a ok =>
    cases ok with
    | false => simp [aop] at h
    | true =>
    simp only [aop] at h
    obtain ⟨y0, hx, hq⟩ := bind_some h
    clear h
    obtain ⟨v0, h, rfl⟩ := map_some hq
    clear hq
    unfold assertA at h
    cases hu : P.underlying a with
    | none => simp [hu] at h
    | some d =>
    rw [hu] at h
    have hd : ∀ want, d ≠ .interface want := by rintro want rfl; simp at h
    cases y0 with
    | iface t v =>
    have h2 : (if t = a then some (AV.tup [v, .lit (.bool true)]) else (tz P a).map fun z => .tup [.lit z, .lit (.bool false)]) = some v0 := by
      cases d <;> first | (exact absurd rfl (hd _); done) | exact h
    have hv := hρ x _ hx
    simp only [VRel] at hv
    obtain ⟨y, hy, hr⟩ := hv
    have hrun : ∀ (res : Value), (t = a → res = .tuple #[y, .bool true]) → (t ≠ a → ∃ z, tz P a = some z ∧ res = .tuple #[z, .bool false]) → (Instr.typeAssert (e x) xT a true).run P S.w = .ok res S.w := by
      intro res h1 h3
      unfold Instr.typeAssert
      rw [Sem.run_bind, run_underlying hu, hy]
      simp only [Result.andThen_ok]
      by_cases hta : t = a
      · rw [h1 hta]
        cases d <;> first | exact absurd rfl (hd _) | simp [hta]
      · obtain ⟨z, hz, rfl⟩ := h3 hta
        cases d <;> first | exact absurd rfl (hd _) | simp [hta, run_tz hz, Result.andThen]
    split at h2
    · rename_i hta
      cases h2
      exact execOp_here hR ⟨_, hrun _ (fun _ => rfl) (fun hne => absurd hta hne), by simp only [VRel]; exact ⟨_, rfl, hr, by simp [VRel], trivial⟩⟩
    · rename_i hta
      obtain ⟨z, hz, rfl⟩ := map_some h2
      exact execOp_here hR ⟨_, hrun _ (fun he => absurd he hta) (fun _ => ⟨z, hz, rfl⟩), by simp [VRel, VRels]⟩
    | _ => cases d <;> first | (cases h; done) | exact absurd rfl (hd _)
  | range t x =>
    simp only [aop] at h
    split at h
    · rename_i s hu hx
      cases h
      have hv := hρ x _ hx
      simp only [VRel] at hv
      have hev := Ev.alloc hR (w' := { S.w with heap := S.w.heap.push (.stringIter s 0) }) (.iterS s 0) 0 rfl
      refine execOp_v ⟨.pointer (some ⟨S.w.heap.size, 0, none⟩), _, _, ?_, Rel.alloc hR (.iterS s 0) 0 rfl (by show (S.w.heap.push _)[S.w.heap.size]? = _; simp), hev, Non.alloc, ?_⟩
      · unfold Instr.range
        rw [Sem.run_bind, run_underlying hu, hv]
        rfl
      · simp only [VRel]
        exact ⟨S.w.heap.size, 0, upd_same .., ⟨.iterS s 0, by simp, rfl⟩, rfl⟩
    · cases h
  | next x str =>
    cases str with
    | false => simp [aop] at h
    | true =>
    simp only [aop] at h
    split at h
    case h_2 => cases h
    rename_i id hx
    have hv := hρ x _ hx
    simp only [VRel] at hv
    obtain ⟨b, wm, hi, hn, hc⟩ := hv
    split at h
    case h_2 => cases h
    rename_i s pos hB
    obtain ⟨B, hB', hrel⟩ := hR.blk id b wm hi
    rw [hB] at hB'; cases hB'
    have hK : S.w.heap[b]? = some (.stringIter s pos) := hrel
    have hlt := (Array.getElem?_eq_some_iff.1 hK).1
    have hget : (getObj b).run P S.w = .ok (.stringIter s pos) S.w := by simp only [getObj, Sem.run, hK]
    split at h
    · rename_i hp
      cases h
      have hoth : ∀ b', b' ≠ b → ({ S.w with heap := S.w.heap.setIfInBounds b (.stringIter s (pos + (Utf8.decode s pos).2)) } : World).heap[b']? = S.w.heap[b']? := fun b' hne => by
        show (S.w.heap.setIfInBounds b _)[b']? = _
        rw [Array.getElem?_setIfInBounds_ne (Ne.symm hne)]
      have hev := Ev.write hR (w' := { S.w with heap := S.w.heap.setIfInBounds b (.stringIter s (pos + (Utf8.decode s pos).2)) }) (B' := .iterS s (pos + (Utf8.decode s pos).2)) hi hB rfl rfl hoth
      refine execOp_v ⟨.tuple #[.bool true, goInt pos, .int .i32 (Utf8.decode s pos).1], S.ι, _, ?_, Rel.write hR hi hB rfl rfl hoth (by show (S.w.heap.setIfInBounds b _)[b]? = _; simp [hlt]), hev, Non.same, ?_⟩
      · unfold Instr.next
        rw [hc]
        simp only
        rw [Sem.run_bind, hget]
        simp only [Result.andThen_ok, hp, if_true]
        rw [Sem.run_bind]
        simp only [setObj, Sem.run, hK]
        rfl
      · simp [VRel, VRels]
    · rename_i hp
      cases h
      refine execOp_v ⟨.tuple #[.bool false], S.ι, S.w, ?_, hR, Ev.refl S, Non.refl S, by simp [VRel, VRels]⟩
      unfold Instr.next
      rw [hc]
      simp only
      rw [Sem.run_bind, hget]
      simp only [Result.andThen_ok, hp, if_false]
      rfl
  | slice t x lo hi mx =>
    simp only [aop] at h
    split at h
    · rename_i a l hh m ha hl hhh hm
      split at h
      · rename_i hg
        simp only [Bool.and_eq_true, beq_iff_eq] at hg
        obtain ⟨v, hv, rfl⟩ := map_some h
        exact execOp_here hR (sliceA_sound (natOf_rel hρ hl hg.1.1) (natOf_rel hρ hhh hg.1.2) (natOf_rel hρ hm hg.2) hv (hρ x a ha))
      · cases h
    · cases h
  | fieldAddr t x i =>
    obtain ⟨a, ha, h⟩ := bind_some h
    obtain ⟨v, hv, rfl⟩ := map_some h
    exact execOp_here hR (fieldOp_sound hv (hρ x a ha))
  | field t x i =>
    obtain ⟨a, ha, h⟩ := bind_some h
    obtain ⟨v, hv, rfl⟩ := map_some h
    exact execOp_here hR (fieldA_sound hv (hρ x a ha))
  | indexAddr t x i =>
    simp only [aop] at h
    split at h
    · rename_i a b ha hb
      obtain ⟨v, hv, rfl⟩ := map_some h
      exact execOp_here hR (indexOp_sound hv (hρ x a ha) (hρ i b hb))
    · cases h
  | index t x i =>
    simp only [aop] at h
    split at h
    · rename_i a b ha hb
      obtain ⟨v, hv, rfl⟩ := map_some h
      exact execOp_here hR (indexA_sound hv (hρ x a ha) (hρ i b hb))
    · cases h
  | lookup t x k ok =>
    simp only [aop] at h
    split at h
    · rename_i a b ha hb
      obtain ⟨v, hv, rfl⟩ := map_some h
      exact execOp_here hR (lookupOp_sound hR hv (hρ x a ha) (hρ k b hb))
    · cases h
  | mapUpdate t m k x =>
    simp only [aop] at h
    split at h
    · rename_i a b c ha hb hc
      obtain ⟨H', hH, rfl⟩ := map_some h
      exact execOp_u (updateOp_sound hR hH (hρ m a ha) (hρ k b hb) (hρ x c hc))
    · cases h
  | insert t m k x =>
    simp only [aop] at h
    split at h
    · rename_i a b c ha hb hc
      obtain ⟨H', hH, rfl⟩ := map_some h
      exact execOp_u (updateOp_sound hR hH (hρ m a ha) (hρ k b hb) (hρ x c hc))
    · cases h
  | extract t i =>
    simp only [aop] at h
    split at h
    · rename_i vs ht
      obtain ⟨v, hv, rfl⟩ := map_some h
      have hx := hρ t _ ht
      simp only [VRel] at hx
      obtain ⟨C, hc, hr⟩ := hx
      obtain ⟨c, hc1, hc2⟩ := hr.get hv
      refine execOp_here hR ⟨c, ?_, hc2⟩
      rw [hc]
      have : C[i]? = some c := by simpa using hc1
      simp only [Instr.extract, this]
      rfl
    · cases h
  | panic x =>
    simp only [aop] at h
    split at h
    · rename_i t v hv
      cases h
      have hx := hρ x _ hv
      have hx' := hx
      simp only [VRel] at hx
      obtain ⟨y, hy, _⟩ := hx
      refine ⟨e x, ?_, hx'⟩
      simp only [execOp]
      rw [Sem.run_bind, hy]
      rfl
    · cases h
  | call c =>
    simp only [aop] at h
    cases hargs : aevs ρ c.args.toList with
    | none => simp [hargs] at h
    | some args =>
    simp only [hargs] at h
    have hA := aevs_sound hρ hargs
    have hA' : VRels S args (c.args.map e).toList := by simpa using hA
    obtain ⟨callee, cargs, argTypes⟩ := c
    cases callee with
    | value f =>
      simp only [] at h
      cases hf : ρ f with
      | none => simp [hf] at h
      | some fv =>
        simp only [hf] at h
        have hfv := hρ f fv hf
        have key : ∀ g first captured, fnOf fv = some (g, first, captured) →
            AR.Ok P S (.call g (first ++ args ++ captured)) ((execOp e { dst, op := .call { callee := .value f, args := cargs, argTypes }, type, pos, after, guard }).run P S.w) := by
          intro g first captured hg hc
          obtain ⟨F, C, hfe, h1, h2⟩ := fnOf_sound hg hfv
          refine ⟨F ++ cargs.map e ++ C, ?_, ?_⟩
          · simp only [execOp, resolve, hfe, Deferred.ofValue]
            rw [Sem.run_bind]
            simp only [Sem.run_pure, Result.andThen_ok, invoke]
            exact run_callFunc hc _ _
          · simpa using (h1.append hA').append h2
        have hkey2 : (match fnOf fv with
            | some (g, first, captured) => some (AR.call g (first ++ args ++ captured))
            | none => none) = some r → AR.Ok P S r ((execOp e { dst, op := .call { callee := .value f, args := cargs, argTypes := argTypes }, type, pos, after, guard }).run P S.w) := by
          intro h
          cases hfo : fnOf fv with
          | none => simp [hfo] at h
          | some p =>
            obtain ⟨g, first, captured⟩ := p
            simp only [hfo] at h
            cases h
            exact key g first captured hfo
        cases fv with
        | yld id =>
          dsimp only at h
          cases hB : S.H[id]? with
          | none => rw [hB] at h; cases h
          | some B =>
          rw [hB] at h
          cases B with
          | loop l =>
            simp only [] at h
            split at h
            · rename_i hl
              cases h
              simp only [VRel] at hfv
              obtain ⟨b, wm, hi, hn, hfe⟩ := hfv
              obtain ⟨B, hB', hrel⟩ := hR.blk id b wm hi
              rw [hB] at hB'; cases hB'
              obtain ⟨L, hL, hLR⟩ := hrel
              have hsz : (cargs.map e).size = L.params.size := by
                rw [hLR.params, ← hl]
                have := hA'.length
                simpa using this.symm
              refine ⟨b, wm, L, cargs.map e, hi, hn, hL, hsz, ?_, hA'⟩
              simp only [execOp, resolve, hfe, Deferred.ofValue]
              rw [Sem.run_bind]
              simp only [Sem.run_pure, Result.andThen_ok, invoke, Instr.yield]
              rw [Sem.run_bind, show (Instr.getLoop b).run P S.w = .ok L S.w by
                unfold Instr.getLoop
                rw [Sem.run_bind, show (getObj b).run P S.w = .ok (.loop L) S.w by simp only [getObj, Sem.run, hL]]
                rfl]
              simp only [Result.andThen_ok]
              have e0 : (#[] : Array Value) ++ cargs.map e = cargs.map e := by simp
              rw [e0, if_neg (by simp [hsz])]
              rfl
            · cases h
          | box _ _ => cases h
          | row _ => cases h
          | mrow _ _ => cases h
          | map _ _ => cases h
          | defd => cases h
          | iterS _ _ => cases h
          | spent => cases h
          | obj o => cases h
        | lit _ => exact hkey2 h
        | agg _ => exact hkey2 h
        | tup _ => exact hkey2 h
        | ptr _ _ => exact hkey2 h
        | eptr _ => exact hkey2 h
        | sl _ _ _ => exact hkey2 h
        | hsl _ _ _ _ => exact hkey2 h
        | mp _ => exact hkey2 h
        | fn _ _ _ => exact hkey2 h
        | iface _ _ => exact hkey2 h
        | msl _ _ _ _ => exact hkey2 h
        | mptr _ _ _ => exact hkey2 h
        | mpx => exact hkey2 h
    | invoke r' name =>
      simp only [] at h
      split at h
      · rename_i t v hv
        obtain ⟨f, hf, rfl⟩ := map_some h
        have hx := hρ r' _ hv
        simp only [VRel] at hx
        obtain ⟨y, hy, hr⟩ := hx
        intro hcal
        refine ⟨#[y] ++ cargs.map e, ?_, ?_⟩
        · simp only [execOp, resolve, hy]
          rw [Sem.run_bind]
          simp only [Sem.run_pure, Result.andThen_ok, invoke]
          have h0 : (#[Value.iface t y] ++ cargs.map e)[0]? = some (.iface t y) := by
            rw [Array.getElem?_append_left (by simp)]; rfl
          simp only [h0]
          have h1 : (#[Value.iface t y] ++ cargs.map e).extract 1 (#[Value.iface t y] ++ cargs.map e).size = cargs.map e := by
            apply Array.ext'; rw [Array.toList_extract, List.extract_eq_take_drop]; simp [List.take_of_length_le]
          rw [h1]
          exact methodA_sound hf hcal y _ _
        · have : (#[y] ++ cargs.map e).toList = y :: cargs.toList.map e := by simp
          rw [this]; exact ⟨hr, hA⟩
      · cases h
    | builtin b =>
      cases b with
      | len =>
        simp only [] at h
        split at h
        · rename_i t x ht
          obtain ⟨n, hn, rfl⟩ := map_some h
          have hc1 : ∃ x0, cargs = #[x0] := by
            have := hA'.length
            simp at this
            obtain ⟨l⟩ := cargs
            match l, this with
            | [a], _ => exact ⟨a, rfl⟩
          obtain ⟨x0, rfl⟩ := hc1
          simp only [List.map_cons, List.map_nil, VRels, and_true] at hA
          refine AR.Ok.here hR (c := .int .i64 (n : Int)) ?_ (by simp [VRel])
          have := lenA_sound (P := P) (ty := type) hR ht hn hA
          simp only [execOp, resolve]
          rw [Sem.run_bind]
          simp only [Sem.run_pure, Result.andThen_ok, invoke, builtin]
          rw [Sem.run_bind]
          rw [show (#[x0].map e) = #[e x0] by simp, this]
          rfl
        · cases h
      | append =>
        simp only [] at h
        split at h
        · rename_i sT xT s x h0 h1
          obtain ⟨p, hp, rfl⟩ := map_some h
          have hc1 : ∃ x0 x1, cargs = #[x0, x1] := by
            have := hA'.length
            simp at this
            obtain ⟨l⟩ := cargs
            match l, this with
            | [a, b], _ => exact ⟨a, b, rfl⟩
          obtain ⟨x0, x1, rfl⟩ := hc1
          simp only [List.map_cons, List.map_nil, VRels, and_true] at hA
          obtain ⟨u, ι', w', k1, k2, k3, k4, k5⟩ := appA_sound (P := P) (ty := type) hR h0 h1 (v := p.1) (H' := p.2) hp hA.1 hA.2
          refine ⟨u, ι', w', .inl ?_, k2, k3, k4, k5⟩
          simp only [execOp, resolve]
          rw [Sem.run_bind]
          simp only [Sem.run_pure, Result.andThen_ok, invoke, builtin]
          rw [Sem.run_bind]
          rw [show (#[x0, x1].map e) = #[e x0, e x1] by simp, k1]
          rfl
        · cases h
      | max =>
        simp only [] at h
        split at h
        · rename_i k a k' b
          cases h
          have hc1 : ∃ x0 x1, cargs = #[x0, x1] := by
            have := hA'.length
            simp at this
            obtain ⟨l⟩ := cargs
            match l, this with
            | [a, b], _ => exact ⟨a, b, rfl⟩
          obtain ⟨x0, x1, rfl⟩ := hc1
          simp only [List.map_cons, List.map_nil, VRels, VRel, and_true] at hA
          refine AR.Ok.here hR (c := .int k (if b > a then b else a)) ?_ (by simp [VRel])
          simp only [execOp, resolve]
          rw [Sem.run_bind]
          simp only [Sem.run_pure, Result.andThen_ok, invoke, builtin]
          rw [Sem.run_bind]
          rw [show (#[x0, x1].map e) = #[e x0, e x1] by simp, hA.1, hA.2]
          rfl
        · cases h
      | min =>
        simp only [] at h
        split at h
        · rename_i k a k' b
          cases h
          have hc1 : ∃ x0 x1, cargs = #[x0, x1] := by
            have := hA'.length
            simp at this
            obtain ⟨l⟩ := cargs
            match l, this with
            | [a, b], _ => exact ⟨a, b, rfl⟩
          obtain ⟨x0, x1, rfl⟩ := hc1
          simp only [List.map_cons, List.map_nil, VRels, VRel, and_true] at hA
          refine AR.Ok.here hR (c := .int k (if b < a then b else a)) ?_ (by simp [VRel])
          simp only [execOp, resolve]
          rw [Sem.run_bind]
          simp only [Sem.run_pure, Result.andThen_ok, invoke, builtin]
          rw [Sem.run_bind]
          rw [show (#[x0, x1].map e) = #[e x0, e x1] by simp, hA.1, hA.2]
          rfl
        · cases h
      | _ => simp at h
  | _ => simp [aop] at h
end Go.Vm
