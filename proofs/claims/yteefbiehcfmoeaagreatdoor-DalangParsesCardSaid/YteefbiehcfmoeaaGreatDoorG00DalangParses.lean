/-
  Texts of the proof, part 0: the machine, contracts of functions, plain laws. (Own work.)
-/
import Derived.CallsIn
import Derived.Laws.Sem

namespace Go.Vm
def tabO : Option (Nat × Array Value) := some (1, #[.int .u64 1, .int .u64 10, .int .u64 100, .int .u64 1000, .int .u64 10000, .int .u64 100000, .int .u64 1000000, .int .u64 10000000, .int .u64 100000000, .int .u64 1000000000, .int .u64 10000000000, .int .u64 100000000000, .int .u64 1000000000000, .int .u64 10000000000000, .int .u64 100000000000000, .int .u64 1000000000000000, .int .u64 10000000000000000, .int .u64 100000000000000000, .int .u64 1000000000000000000, .int .u64 10000000000000000000])
end Go.Vm

namespace Go.Vm
theorem map_some {α β : Type} {x : Option α} {f : α → β} {r : β} (h : x.map f = some r) : ∃ a, x = some a ∧ f a = r := by
 cases x with
 | none => simp at h
 | some a => simp at h; exact ⟨a, rfl, h⟩
theorem bind_some {α β : Type} {x : Option α} {f : α → Option β} {r : β} (h : x.bind f = some r) : ∃ a, x = some a ∧ f a = some r := by
 cases x with
 | none => simp at h
 | some a => simp at h; exact ⟨a, rfl, h⟩
inductive Tail where
 | unk
 | full
 | own (id gen sz : Nat)
inductive AV where
 | lit (v : Value)
 | agg (cells : List AV)
 | tup (vs : List AV)
 | ptr (id off : Nat)
 | eptr (cells : List AV)
 | sl (len : Nat) (cells : List AV) (tail : Tail)
 | hsl (id off len cap : Nat)
 | mp (id : Nat)
 | fn (f : Fn) (first captured : List AV)
 | yld (id : Nat)
 | iface (t : TypeId) (v : AV)
 | msl (id gen len sz : Nat)
 | mptr (id gen off : Nat)
 | mpx
 deriving Inhabited
inductive Trie (α : Type) where
 | nil
 | node (v : Option α) (l r : Trie α)
structure ALoop where
 state : LoopState
 pending : Option Code
 n : Nat
 vars : Trie AV
 params : Array Tmp
 assign : Code
 body : Code
 defers : Nat
inductive KeyShape where
 | int
 | arr (n : Nat)
inductive Blk where
 | box (cells : List AV) (t : TypeId)
 | row (gen : Nat)
 | mrow (gen : Nat) (cells : List AV)
 | map (sh : KeyShape) (es : List (Value × AV))
 | loop (l : ALoop)
 | defd
 | iterS (s : ByteArray) (pos : Nat)
 | spent
 | obj (o : Obj)
def Blk.isRow : Blk → Bool
 | .row _ => true
 | .mrow _ _ => true
 | _ => false
def Blk.mgen : Blk → Option Nat
 | .row g => some g
 | .mrow g _ => some g
 | _ => none
structure Sit where
 H : List Blk
 ι : Nat → Option (Nat × Nat)
 w : World
class Outer where
 out : Nat → Option (Option Nat)
instance (priority := low) : Outer := ⟨fun _ => none⟩
section
variable [Outer]
def Fix (S : Sit) (b lim : Nat) : Prop :=
 ∃ C t f, S.w.heap[b]? = some (.cells C t f) ∧ lim ≤ C.size ∧
  (∀ id wm, S.ι id = some (b, wm) → (∃ g, S.H[id]? = some (.row g)) ∧ lim ≤ wm) ∧ ∀ x, Outer.out b = some x → ∃ l, x = some l ∧ lim ≤ l
def TailRel (S : Sit) (tail : Tail) (base : Option Addr) (len cap n : Nat) : Prop :=
  match tail with
  | .unk => True
  | .full => cap = len
  | .own id g sz => n = len * sz ∧ ∃ g0, S.H[id]? = some (.row g0) ∧ g ≤ g0 ∧
      (g = g0 → cap = len ∨
        ∃ b o C t, base = some ⟨b, o, none⟩ ∧ S.ι id = some (b, o + n) ∧ S.w.heap[b]? = some (.cells C t (0, 0)) ∧ o + cap * sz ≤ C.size)
def MRef (S : Sit) (id gen : Nat) (K : Nat → Nat → Prop) : Prop :=
 ∃ B g, S.H[id]? = some B ∧ B.mgen = some g ∧ gen ≤ g ∧ (g = gen → (∃ c1, B = .mrow gen c1) → ∃ b wm C t, S.ι id = some (b, wm) ∧ S.w.heap[b]? = some (.cells C t (0, 0)) ∧ K b C.size)
def MNil (S : Sit) (id gen : Nat) : Prop := ∃ B g, S.H[id]? = some B ∧ B.mgen = some g ∧ gen ≤ g
def SRef (S : Sit) (id gen sz : Nat) (base : Option Addr) (cap : Nat) : Prop :=
 (∃ b, base = some ⟨b, 0, none⟩ ∧ MRef S id gen (fun b' n => b' = b ∧ cap * sz ≤ n)) ∨ (base = none ∧ cap = 0 ∧ MNil S id gen)
def notRow (H : List Blk) (id : Nat) : Prop := ∃ B, H[id]? = some B ∧ B.isRow = false
mutual
def VRel (S : Sit) : AV → Value → Prop
  | .lit v, c => c = v
  | .agg cells, c => ∃ C : Array Value, c = .agg C ∧ VRels S cells C.toList
  | .tup vs, c => ∃ C : Array Value, c = .tuple C ∧ VRels S vs C.toList
  | .ptr id off, c => ∃ b wm, S.ι id = some (b, wm) ∧ notRow S.H id ∧ c = .pointer (some ⟨b, off, none⟩)
  | .eptr cells, c => ∃ b o, c = .pointer (some ⟨b, o, none⟩) ∧ Fix S b (o + cells.length) ∧ VRow S b o cells
  | .sl len cells tail, c => ∃ base cap, c = .slice base len cap ∧ len ≤ cap ∧
      (cells = [] ∨ ∃ b o, base = some ⟨b, o, none⟩ ∧ Fix S b (o + cells.length) ∧ VRow S b o cells) ∧
      TailRel S tail base len cap cells.length
  | .hsl id off len cap, c => ∃ b wm, S.ι id = some (b, wm) ∧ notRow S.H id ∧ c = .slice (some ⟨b, off, none⟩) len cap
  | .mp id, c => ∃ b wm, S.ι id = some (b, wm) ∧ notRow S.H id ∧ c = .map (some b)
  | .fn f first captured, c => ∃ F C : Array Value, c = .func f F C ∧ VRels S first F.toList ∧ VRels S captured C.toList
  | .yld id, c => ∃ b wm, S.ι id = some (b, wm) ∧ notRow S.H id ∧ c = .func (.yield b) #[] #[]
  | .iface t v, c => ∃ x, c = .iface t x ∧ VRel S v x
  | .msl id gen len sz, c => ∃ base cap, c = .slice base len cap ∧ len ≤ cap ∧ SRef S id gen sz base cap
  | .mptr id gen off, c => ∃ b o, c = .pointer (some ⟨b, o, none⟩) ∧ MRef S id gen (fun b' _ => b' = b ∧ o = off)
  | .mpx, c => ∃ b, c = .map b
def VRels (S : Sit) : List AV → List Value → Prop
 | [], [] => True
 | a :: as, c :: cs => VRel S a c ∧ VRels S as cs
 | _, _ => False
def VRow (S : Sit) (b : Nat) : Nat → List AV → Prop
 | _, [] => True
 | o, a :: as => (∃ c, S.w.cell? ⟨b, o, none⟩ = some c ∧ VRel S a c) ∧ VRow S b (o + 1) as
end
def Rest (w w' : World) : Prop := w'.os = w.os ∧ w'.output = w.output
omit [Outer] in
theorem Rest.refl (w : World) : Rest w w := ⟨rfl, rfl⟩
omit [Outer] in
theorem Rest.trans {w w' w'' : World} (h : Rest w w') (h' : Rest w' w'') : Rest w w'' := ⟨h'.1.trans h.1, h'.2.trans h.2⟩
def Mk (S : Sit) (b : Nat) : Prop := S.w.heap[b]? = some (.deferred (some [])) ∧ ∀ id wm, S.ι id ≠ some (b, wm)
structure Ev (S S' : Sit) : Prop where
 ptr : ∀ id, notRow S.H id → notRow S'.H id ∧ ∀ b wm, S.ι id = some (b, wm) → ∃ wm', S'.ι id = some (b, wm')
 fix : ∀ b lim, Fix S b lim → Fix S' b lim ∧ ∀ j, j < lim → S'.w.cell? ⟨b, j, none⟩ = S.w.cell? ⟨b, j, none⟩
 tok : ∀ id g0, S.H[id]? = some (.row g0) → ∃ g1, S'.H[id]? = some (.row g1) ∧ g0 ≤ g1 ∧
  (g1 = g0 → S'.ι id = S.ι id ∧ ∀ b wm C t, S.ι id = some (b, wm) → S.w.heap[b]? = some (.cells C t (0, 0)) →
   ∃ C' t', S'.w.heap[b]? = some (.cells C' t' (0, 0)) ∧ C'.size = C.size)
 mtok : ∀ id g0 c0, S.H[id]? = some (.mrow g0 c0) → ∃ B g1, S'.H[id]? = some B ∧ B.mgen = some g1 ∧ g0 ≤ g1 ∧
  (g1 = g0 → (∃ c1, B = .mrow g0 c1) ∧ S'.ι id = S.ι id ∧ ∀ b wm C t, S.ι id = some (b, wm) → S.w.heap[b]? = some (.cells C t (0, 0)) →
   ∃ C' t', S'.w.heap[b]? = some (.cells C' t' (0, 0)) ∧ C'.size = C.size)
 out : ∀ b x, Outer.out b = some x → S'.w.heap[b]? = S.w.heap[b]?
 rest : Rest S.w S'.w
 mark : ∀ b, Mk S b → Mk S' b
def Non (S S' : Sit) : Prop := ∀ id, notRow S.H id → S.ι id = none → S'.ι id = none
theorem Ev.refl (S : Sit) : Ev S S where
 ptr := fun _ h => ⟨h, fun _ wm e => ⟨wm, e⟩⟩
 fix := fun _ _ h => ⟨h, fun _ _ => rfl⟩
 tok := fun _ g0 h => ⟨g0, h, Nat.le_refl _, fun _ => ⟨rfl, fun _ _ C t _ h => ⟨C, t, h, rfl⟩⟩⟩
 mtok := fun _ g0 c0 h => ⟨_, g0, h, rfl, Nat.le_refl _, fun _ => ⟨⟨c0, rfl⟩, rfl, fun _ _ C t _ h => ⟨C, t, h, rfl⟩⟩⟩
 out := fun _ _ _ => rfl
 rest := Rest.refl _
 mark := fun _ h => h
theorem Ev.trans {S S' S'' : Sit} (h : Ev S S') (h' : Ev S' S'') : Ev S S'' where
 ptr := fun id hn => by
  obtain ⟨a, e⟩ := h.ptr id hn
  obtain ⟨a', e'⟩ := h'.ptr id a
  refine ⟨a', fun b wm x => ?_⟩
  obtain ⟨wm', y⟩ := e b wm x
  exact e' b wm' y
 fix := fun b lim x => by
  obtain ⟨a, e⟩ := h.fix b lim x
  obtain ⟨a', e'⟩ := h'.fix b lim a
  exact ⟨a', fun j hj => (e' j hj).trans (e j hj)⟩
 tok := fun id g0 x => by
  obtain ⟨g1, a, hle, e⟩ := h.tok id g0 x
  obtain ⟨g2, a', hle', e'⟩ := h'.tok id g1 a
  refine ⟨g2, a', Nat.le_trans hle hle', fun hg => ?_⟩
  obtain rfl : g1 = g0 := by omega
  obtain ⟨e1, k1⟩ := e rfl
  obtain ⟨e2, k2⟩ := e' (by omega)
  refine ⟨e2.trans e1, fun b wm C t hi hC => ?_⟩
  obtain ⟨C', t', hC', hs⟩ := k1 b wm C t hi hC
  obtain ⟨C'', t'', hC'', hs'⟩ := k2 b wm C' t' (e1.trans hi) hC'
  exact ⟨C'', t'', hC'', hs'.trans hs⟩
 mtok := fun id g0 c0 x => by
  obtain ⟨B, g1, a, hm, hle, e⟩ := h.mtok id g0 c0 x
  cases B <;> simp only [Blk.mgen, reduceCtorEq, Option.some.injEq] at hm
  ·subst hm
   rename_i gr
   have hlt : g0 < gr := by
    rcases Nat.lt_or_ge g0 gr with h | h
    ·exact h
    ·obtain ⟨⟨c1, hc⟩, _⟩ := e (by omega); cases hc
   obtain ⟨g2, a', hle', _⟩ := h'.tok id gr a
   exact ⟨_, g2, a', rfl, by omega, fun hg => by omega⟩
  ·subst hm
   rename_i gr c1
   obtain ⟨B2, g2, a', hm2, hle', e'⟩ := h'.mtok id gr c1 a
   refine ⟨B2, g2, a', hm2, Nat.le_trans hle hle', fun hg => ?_⟩
   obtain rfl : gr = g0 := by omega
   obtain ⟨_, e1, k1⟩ := e rfl
   obtain ⟨hB2, e2, k2⟩ := e' (by omega)
   refine ⟨hB2, e2.trans e1, fun b wm C t hi hC => ?_⟩
   obtain ⟨C', t', hC', hs⟩ := k1 b wm C t hi hC
   obtain ⟨C'', t'', hC'', hs'⟩ := k2 b wm C' t' (e1.trans hi) hC'
   exact ⟨C'', t'', hC'', hs'.trans hs⟩
 out := fun b x e => (h'.out b x e).trans (h.out b x e)
 rest := h.rest.trans h'.rest
 mark := fun b x => h'.mark b (h.mark b x)
omit [Outer] in
theorem Non.refl (S : Sit) : Non S S := fun _ _ h => h
theorem Non.trans {S S' S'' : Sit} (e : Ev S S') (h : Non S S') (h' : Non S' S'') : Non S S'' := fun id hn x => h' id (e.ptr id hn).1 (h id hn x)
theorem TailRel.ev {S S' : Sit} (h : Ev S S') {tail : Tail} {base : Option Addr} {len cap n : Nat}
  (x : TailRel S tail base len cap n) : TailRel S' tail base len cap n := by
 cases tail with
 | unk => trivial
 | full => exact x
 | own id g sz =>
  obtain ⟨hn, g0, h0, hle, hx⟩ := x
  obtain ⟨g1, h1, hle1, e⟩ := h.tok id g0 h0
  refine ⟨hn, g1, h1, Nat.le_trans hle hle1, fun hg => ?_⟩
  obtain rfl : g = g0 := by omega
  obtain ⟨e1, k1⟩ := e hg.symm
  rcases hx rfl with a | ⟨b, o, C, t, hb, hi, hC, hs⟩
  ·exact .inl a
  ·obtain ⟨C', t', hC', hs'⟩ := k1 b _ C t hi hC
   exact .inr ⟨b, o, C', t', hb, by rw [e1]; exact hi, hC', by rw [hs']; exact hs⟩
theorem MRef.ev {S S' : Sit} (h : Ev S S') {id gen : Nat} {K : Nat → Nat → Prop} (x : MRef S id gen K) : MRef S' id gen K := by
 obtain ⟨B, g, hB, hm, hle, k⟩ := x
 cases B <;> simp only [Blk.mgen, reduceCtorEq, Option.some.injEq] at hm
 ·subst hm
  obtain ⟨g1, h1, hle1, _⟩ := h.tok id _ hB
  exact ⟨_, g1, h1, rfl, by omega, fun _ hc => by obtain ⟨c1, hc⟩ := hc; cases hc⟩
 ·subst hm
  rename_i gr c0
  obtain ⟨B', g1, h1, hm1, hle1, e⟩ := h.mtok id gr c0 hB
  refine ⟨B', g1, h1, hm1, by omega, fun hg hc => ?_⟩
  obtain rfl : gr = gen := by omega
  obtain ⟨_, e1, k1⟩ := e hg
  obtain ⟨b, wm, C, t, hi, hC, hK⟩ := k rfl ⟨c0, rfl⟩
  obtain ⟨C', t', hC', hs⟩ := k1 b wm C t hi hC
  exact ⟨b, wm, C', t', e1.trans hi, hC', by rw [hs]; exact hK⟩
theorem MNil.ev {S S' : Sit} (h : Ev S S') {id gen : Nat} (x : MNil S id gen) : MNil S' id gen := by
 obtain ⟨B, g, hB, hm, hle⟩ := x
 cases B <;> simp only [Blk.mgen, reduceCtorEq, Option.some.injEq] at hm
 ·subst hm
  obtain ⟨g1, h1, hle1, _⟩ := h.tok id _ hB
  exact ⟨_, g1, h1, rfl, by omega⟩
 ·subst hm
  rename_i gr c0
  obtain ⟨B', g1, h1, hm1, hle1, e⟩ := h.mtok id gr c0 hB
  exact ⟨B', g1, h1, hm1, by omega⟩
theorem SRef.ev {S S' : Sit} (h : Ev S S') {id gen sz cap : Nat} {base : Option Addr} (x : SRef S id gen sz base cap) : SRef S' id gen sz base cap := by
 rcases x with ⟨b, e, hm⟩ | ⟨e, e2, hm⟩
 ·exact .inl ⟨b, e, hm.ev h⟩
 ·exact .inr ⟨e, e2, hm.ev h⟩
mutual
theorem VRel.ev {S S' : Sit} (h : Ev S S') : ∀ (a : AV) (c : Value), VRel S a c → VRel S' a c
 | .lit v, c, x => by simpa [VRel] using x
 | .agg cells, c, x => by
  simp only [VRel] at x ⊢
  obtain ⟨C, hc, hr⟩ := x
  exact ⟨C, hc, VRels.ev h cells _ hr⟩
 | .tup vs, c, x => by
  simp only [VRel] at x ⊢
  obtain ⟨C, hc, hr⟩ := x
  exact ⟨C, hc, VRels.ev h vs _ hr⟩
 | .ptr id off, c, x => by
  simp only [VRel] at x ⊢
  obtain ⟨b, wm, hi, hn, hc⟩ := x
  obtain ⟨hn', e⟩ := h.ptr id hn
  obtain ⟨wm', e'⟩ := e b wm hi
  exact ⟨b, wm', e', hn', hc⟩
 | .eptr cells, c, x => by
  simp only [VRel] at x ⊢
  obtain ⟨b, o, hc, hf, hr⟩ := x
  obtain ⟨hf', e⟩ := h.fix _ _ hf
  exact ⟨b, o, hc, hf', VRow.ev h b cells o (o + cells.length) (Nat.le_refl _) e hr⟩
 | .sl len cells tail, c, x => by
  simp only [VRel] at x ⊢
  obtain ⟨base, cap, hc, hle, hcells, ht⟩ := x
  refine ⟨base, cap, hc, hle, ?_, ht.ev h⟩
  rcases hcells with hcells | ⟨b, o, hb, hf, hr⟩
  ·exact .inl hcells
  ·obtain ⟨hf', e⟩ := h.fix _ _ hf
   exact .inr ⟨b, o, hb, hf', VRow.ev h b cells o (o + cells.length) (Nat.le_refl _) e hr⟩
 | .hsl id off len cap, c, x => by
  simp only [VRel] at x ⊢
  obtain ⟨b, wm, hi, hn, hc⟩ := x
  obtain ⟨hn', e⟩ := h.ptr id hn
  obtain ⟨wm', e'⟩ := e b wm hi
  exact ⟨b, wm', e', hn', hc⟩
 | .mp id, c, x => by
  simp only [VRel] at x ⊢
  obtain ⟨b, wm, hi, hn, hc⟩ := x
  obtain ⟨hn', e⟩ := h.ptr id hn
  obtain ⟨wm', e'⟩ := e b wm hi
  exact ⟨b, wm', e', hn', hc⟩
 | .fn f first captured, c, x => by
  simp only [VRel] at x ⊢
  obtain ⟨F, C, hc, h1, h2⟩ := x
  exact ⟨F, C, hc, VRels.ev h first _ h1, VRels.ev h captured _ h2⟩
 | .yld id, c, x => by
  simp only [VRel] at x ⊢
  obtain ⟨b, wm, hi, hn, hc⟩ := x
  obtain ⟨hn', e⟩ := h.ptr id hn
  obtain ⟨wm', e'⟩ := e b wm hi
  exact ⟨b, wm', e', hn', hc⟩
 | .iface t v, c, x => by
  simp only [VRel] at x ⊢
  obtain ⟨y, hc, hr⟩ := x
  exact ⟨y, hc, VRel.ev h v y hr⟩
 | .msl id gen len sz, c, x => by
  simp only [VRel] at x ⊢
  obtain ⟨base, cap, hc, hle, hm⟩ := x
  exact ⟨base, cap, hc, hle, hm.ev h⟩
 | .mptr id gen off, c, x => by
  simp only [VRel] at x ⊢
  obtain ⟨b, o, hc, hm⟩ := x
  exact ⟨b, o, hc, hm.ev h⟩
 | .mpx, c, x => by
  simp only [VRel] at x ⊢
  exact x
theorem VRels.ev {S S' : Sit} (h : Ev S S') : ∀ (as : List AV) (cs : List Value), VRels S as cs → VRels S' as cs
 | [], [], x => by simp [VRels]
 | [], _ :: _, x => by simp [VRels] at x
 | _ :: _, [], x => by simp [VRels] at x
 | a :: as, c :: cs, x => by
  simp only [VRels] at x ⊢
  exact ⟨VRel.ev h a c x.1, VRels.ev h as cs x.2⟩
theorem VRow.ev {S S' : Sit} (h : Ev S S') (b : Nat) : ∀ (as : List AV) (o lim : Nat), o + as.length ≤ lim →
  (∀ j, j < lim → S'.w.cell? ⟨b, j, none⟩ = S.w.cell? ⟨b, j, none⟩) → VRow S b o as → VRow S' b o as
 | [], o, lim, _, _, _ => by simp [VRow]
 | a :: as, o, lim, hl, he, x => by
  simp only [VRow] at x ⊢
  obtain ⟨⟨c, hc, hr⟩, x2⟩ := x
  simp only [List.length_cons] at hl
  exact ⟨⟨c, by rw [he o (by omega)]; exact hc, VRel.ev h a c hr⟩, VRow.ev h b as (o + 1) lim (by omega) he x2⟩
end
end
end Go.Vm

namespace Go.Vm
theorem cell_eq (w : World) (b o : Nat) : w.cell? ⟨b, o, none⟩ = match w.heap[b]? with | some (.cells c _ _) => c[o]? | _ => none := by
 unfold World.cell?
 cases w.heap[b]? with
 | none => rfl
 | some o => cases o <;> rfl
inductive Path where
 | stop
 | lo (p : Path)
 | hi (p : Path)
noncomputable def pathN : Nat → Nat → Path :=
 Nat.rec (fun _ => .stop) (fun _ ih k => Nat.rec .stop (fun k' _ => Nat.rec (.lo (ih (Nat.shiftRight k' 1))) (fun _ _ => .hi (ih (Nat.shiftRight k' 1))) (Nat.land k' 1)) k)
noncomputable def pathOf (k : Nat) : Path := pathN k k
noncomputable def valT {α : Type} (t : Trie α) : Option α := Trie.rec none (fun v _ _ _ _ => v) t
noncomputable def leftT {α : Type} (t : Trie α) : Trie α := Trie.rec .nil (fun _ l _ _ _ => l) t
noncomputable def rightT {α : Type} (t : Trie α) : Trie α := Trie.rec .nil (fun _ _ r _ _ => r) t
noncomputable def getP {α : Type} (p : Path) : Trie α → Option α :=
 Path.rec valT (fun _ ih t => ih (leftT t)) (fun _ ih t => ih (rightT t)) p
noncomputable def setP {α : Type} (p : Path) : Trie α → α → Trie α :=
 Path.rec (fun t x => Trie.rec (.node (some x) .nil .nil) (fun _ l r _ _ => .node (some x) l r) t)
  (fun _ ih t x => Trie.rec (.node none (ih .nil x) .nil) (fun v l r _ _ => .node v (ih l x) r) t)
  (fun _ ih t x => Trie.rec (.node none .nil (ih .nil x)) (fun v l r _ _ => .node v l (ih r x)) t) p
noncomputable def get {α : Type} (t : Trie α) (k : Nat) : Option α := getP (pathOf k) t
noncomputable def set {α : Type} (t : Trie α) (k : Nat) (x : α) : Trie α := setP (pathOf k) t x
section
variable {α : Type}
theorem pathN_succ (n k : Nat) : pathN (n + 1) (k + 1) = if k % 2 = 0 then .lo (pathN n (k / 2)) else .hi (pathN n (k / 2)) := by
 show (Nat.rec (.lo (pathN n (Nat.shiftRight k 1))) (fun _ _ => .hi (pathN n (Nat.shiftRight k 1))) (Nat.land k 1) : Path) = _
 have e1 : Nat.land k 1 = k % 2 := Nat.and_one_is_mod k
 have e2 : Nat.shiftRight k 1 = k / 2 := rfl
 rw [e1, e2]
 rcases Nat.mod_two_eq_zero_or_one k with h | h <;> rw [h] <;> rfl
theorem pathN_zero (n : Nat) : pathN n 0 = .stop := by cases n <;> rfl
theorem pathN_fuel : ∀ (n m k : Nat), k ≤ n → k ≤ m → pathN n k = pathN m k
 | n, m, 0, _, _ => by rw [pathN_zero, pathN_zero]
 | n + 1, m + 1, k + 1, h, h' => by
  rw [pathN_succ, pathN_succ, pathN_fuel n m (k / 2) (by omega) (by omega)]
 | 0, _, k + 1, h, _ => by omega
 | _ + 1, 0, k + 1, _, h => by omega
theorem pathOf_zero : pathOf 0 = .stop := rfl
theorem pathOf_succ (k : Nat) : pathOf (k + 1) = if k % 2 = 0 then .lo (pathOf (k / 2)) else .hi (pathOf (k / 2)) := by
 unfold pathOf
 rw [pathN_succ, pathN_fuel k (k / 2) (k / 2) (by omega) (by omega)]
theorem pathOf_inj : ∀ (k j : Nat), pathOf k = pathOf j → k = j
 | 0, 0, _ => rfl
 | 0, j + 1, h => by rw [pathOf_zero, pathOf_succ] at h; split at h <;> cases h
 | k + 1, 0, h => by rw [pathOf_zero, pathOf_succ] at h; split at h <;> cases h
 | k + 1, j + 1, h => by
  rw [pathOf_succ, pathOf_succ] at h
  split at h <;> split at h
  ·have := pathOf_inj _ _ (Path.lo.inj h); omega
  ·cases h
  ·cases h
  ·have := pathOf_inj _ _ (Path.hi.inj h); omega
theorem getP_nil : ∀ (p : Path), getP p (.nil : Trie α) = none
 | .stop => rfl
 | .lo p => getP_nil p
 | .hi p => getP_nil p
theorem get_nil (k : Nat) : get (.nil : Trie α) k = none := getP_nil _
theorem get_node_zero (v : Option α) (l r : Trie α) : get (.node v l r) 0 = v := rfl
theorem get_node_succ (v : Option α) (l r : Trie α) (k : Nat) : get (.node v l r) (k + 1) = if k % 2 = 0 then get l (k / 2) else get r (k / 2) := by
 unfold get
 rw [pathOf_succ]
 split <;> rfl
theorem getP_setP_same : ∀ (p : Path) (t : Trie α) (x : α), getP p (setP p t x) = some x
 | .stop, t, x => by cases t <;> rfl
 | .lo p, t, x => by
  cases t with
  | nil => exact getP_setP_same p .nil x
  | node v l r => exact getP_setP_same p l x
 | .hi p, t, x => by
  cases t with
  | nil => exact getP_setP_same p .nil x
  | node v l r => exact getP_setP_same p r x
theorem getP_setP_other : ∀ (p q : Path) (t : Trie α) (x : α), p ≠ q → getP q (setP p t x) = getP q t
 | .stop, .stop, _, _, h => absurd rfl h
 | .stop, .lo q, t, x, _ => by cases t with | nil => exact (getP_nil q).trans (getP_nil q).symm | node v l r => rfl
 | .stop, .hi q, t, x, _ => by cases t with | nil => exact (getP_nil q).trans (getP_nil q).symm | node v l r => rfl
 | .lo p, .stop, t, x, _ => by cases t <;> rfl
 | .hi p, .stop, t, x, _ => by cases t <;> rfl
 | .lo p, .lo q, t, x, h => by
  have h' : p ≠ q := fun e => h (by rw [e])
  cases t with
  | nil => exact (getP_setP_other p q .nil x h').trans rfl
  | node v l r => exact getP_setP_other p q l x h'
 | .hi p, .hi q, t, x, h => by
  have h' : p ≠ q := fun e => h (by rw [e])
  cases t with
  | nil => exact (getP_setP_other p q .nil x h').trans rfl
  | node v l r => exact getP_setP_other p q r x h'
 | .lo p, .hi q, t, x, _ => by cases t <;> rfl
 | .hi p, .lo q, t, x, _ => by cases t <;> rfl
theorem get_set_same (l : Trie α) (k : Nat) (x : α) : get (set l k x) k = some x := getP_setP_same _ _ _
theorem get_set_other (l : Trie α) (k j : Nat) (x : α) (h : k ≠ j) : get (set l k x) j = get l j :=
 getP_setP_other _ _ _ _ fun e => h (pathOf_inj _ _ e)
end
section
variable [Outer]
def VarsRel (S : Sit) (vars : Trie AV) (tmps : Array Value) : Prop :=
 ∀ t v, get vars t = some v → ∃ c, tmps[t]? = some c ∧ VRel S v c
theorem VarsRel.ev {S S' : Sit} (h : Ev S S') {vars : Trie AV} {tmps : Array Value} (x : VarsRel S vars tmps) : VarsRel S' vars tmps := by
 intro t v hg
 obtain ⟨c, hc, hr⟩ := x t v hg
 exact ⟨c, hc, hr.ev h⟩
theorem VarsRel.set {S : Sit} {vars : Trie AV} {tmps : Array Value} (x : VarsRel S vars tmps) {k : Nat} {v : AV} {c : Value}
  (hk : k < tmps.size) (hv : VRel S v c) : VarsRel S (Vm.set vars k v) (tmps.setIfInBounds k c) := by
 intro t u hg
 by_cases h : k = t
 ·subst h
  rw [get_set_same] at hg
  cases hg
  exact ⟨c, by simp [hk], hv⟩
 ·rw [get_set_other _ _ _ _ h] at hg
  obtain ⟨c', hc', hr⟩ := x t u hg
  exact ⟨c', by simp [h, hc'], hr⟩
structure LRel (S : Sit) (l : ALoop) (L : Loop) : Prop where
 state : L.state = l.state
 pending : L.pending = l.pending
 params : L.params = l.params
 assign : L.assign = l.assign
 body : L.body = l.body
 size : L.tmps.size = l.n
 vars : VarsRel S l.vars L.tmps
 defers : ∃ wm, S.ι l.defers = some (L.defers, wm) ∧ notRow S.H l.defers
theorem LRel.ev {S S' : Sit} (h : Ev S S') {l : ALoop} {L : Loop} (x : LRel S l L) : LRel S' l L where
 state := x.state
 pending := x.pending
 params := x.params
 assign := x.assign
 body := x.body
 size := x.size
 vars := x.vars.ev h
 defers := by
  obtain ⟨wm, hi, hn⟩ := x.defers
  obtain ⟨hn', e⟩ := h.ptr _ hn
  obtain ⟨wm', e'⟩ := e _ _ hi
  exact ⟨wm', e', hn'⟩
def isI64 : Value → Bool
 | .int .i64 n => decide (-9223372036854775808 ≤ n) && decide (n ≤ 9223372036854775807)
 | _ => false
def shOk : KeyShape → Value → Bool
 | .int, v => isI64 v
 | .arr n, .agg C => C.toList.length == n && C.toList.all isI64
 | .arr _, _ => false
structure MRel (S : Sit) (sh : KeyShape) (es : List (Value × AV)) (E : Array MapEntry) (clock : Nat) : Prop where
 ents : ∃ es2 : List (Value × AV), es2.Perm es ∧ E.toList.map (·.key) = es2.map (·.1) ∧ VRels S (es2.map (·.2)) (E.toList.map (·.val))
 keys : ∀ p ∈ es, shOk sh p.1 = true
 nodup : (es.map (·.1)).Nodup
 stamps : (E.toList.map (·.born)).Nodup
 born : ∀ e ∈ E.toList, e.born < clock
theorem MRel.ev {S S' : Sit} (h : Ev S S') {sh : KeyShape} {es : List (Value × AV)} {E : Array MapEntry} {clock : Nat} (x : MRel S sh es E clock) : MRel S' sh es E clock where
 ents := by
  obtain ⟨es2, hp, h1, h2⟩ := x.ents
  exact ⟨es2, hp, h1, h2.ev h⟩
 keys := x.keys
 nodup := x.nodup
 stamps := x.stamps
 born := x.born
def BlkRel (S : Sit) (b wm : Nat) : Blk → Prop
 | .box cells t => ∃ C, S.w.heap[b]? = some (.cells C t (0, 0)) ∧ VRels S cells C.toList
 | .row _ => ∃ C t, S.w.heap[b]? = some (.cells C t (0, 0)) ∧ wm ≤ C.size
 | .mrow _ cells => ∃ C t, S.w.heap[b]? = some (.cells C t (0, 0)) ∧ VRels S cells (C.toList.take cells.length)
 | .map sh es => ∃ E clock, S.w.heap[b]? = some (.map E clock) ∧ MRel S sh es E clock
 | .loop l => ∃ L, S.w.heap[b]? = some (.loop L) ∧ LRel S l L
 | .defd => S.w.heap[b]? = some (.deferred (some []))
 | .iterS s pos => S.w.heap[b]? = some (.stringIter s pos)
 | .spent => ∃ o, S.w.heap[b]? = some o
 | .obj o => S.w.heap[b]? = some o
theorem BlkRel.ev {S S' : Sit} (h : Ev S S') {b wm : Nat} {B : Blk} (x : BlkRel S b wm B) (hb : S'.w.heap[b]? = S.w.heap[b]?) : BlkRel S' b wm B := by
 cases B with
 | box cells t => obtain ⟨C, h1, h2⟩ := x; exact ⟨C, hb.trans h1, h2.ev h⟩
 | row g => obtain ⟨C, t, h1, h2⟩ := x; exact ⟨C, t, hb.trans h1, h2⟩
 | mrow g cells => obtain ⟨C, t, h1, h2⟩ := x; exact ⟨C, t, hb.trans h1, h2.ev h⟩
 | map sh es => obtain ⟨E, c, h1, h2⟩ := x; exact ⟨E, c, hb.trans h1, h2.ev h⟩
 | loop l => obtain ⟨L, h1, h2⟩ := x; exact ⟨L, hb.trans h1, h2.ev h⟩
 | defd => exact hb.trans x
 | iterS s pos => exact hb.trans x
 | spent => obtain ⟨o, h1⟩ := x; exact ⟨o, hb.trans h1⟩
 | obj o => exact hb.trans x
def TabR (w : World) : Prop := ∀ N C, tabO = some (N, C) → (∃ x, Outer.out N = some x) ∧ ∃ t f, w.heap[N]? = some (.cells C t f)
theorem TabR.keep {w w' : World} (h : TabR w) (hs : ∀ b x, Outer.out b = some x → w'.heap[b]? = w.heap[b]?) : TabR w' := fun N C e => by
 obtain ⟨⟨x, hx⟩, t, f, ht⟩ := h N C e
 exact ⟨⟨x, hx⟩, t, f, (hs N x hx).trans ht⟩
omit [Outer] in
theorem TabR.more {O O' : Outer} {w : World} (h : @TabR O w) (hs : ∀ b x, O.out b = some x → ∃ y, O'.out b = some y) : @TabR O' w := fun N C e => by
 obtain ⟨⟨x, hx⟩, ht⟩ := h N C e
 exact ⟨hs N x hx, ht⟩
structure Rel (S : Sit) : Prop where
 blk : ∀ id b wm, S.ι id = some (b, wm) → ∃ B, S.H[id]? = some B ∧ BlkRel S b wm B
 inj : ∀ i j b wm wm', S.ι i = some (b, wm) → S.ι j = some (b, wm') → i = j
 out : ∀ b x, Outer.out b = some x → b < S.w.heap.size ∧ ∀ id wm, S.ι id ≠ some (b, wm)
 tab : TabR S.w
omit [Outer] in
theorem lt_of_same {w w' : World} {b : Nat} (h : w'.heap[b]? = w.heap[b]?) (hb : b < w.heap.size) : b < w'.heap.size := by
 have : w.heap[b]? = some w.heap[b] := by simp [hb]
 rw [this] at h
 exact (Array.getElem?_eq_some_iff.1 h).1
theorem Rel.lt {S : Sit} (h : Rel S) {id : Nat} {p : Nat × Nat} (hi : S.ι id = some p) : id < S.H.length := by
 obtain ⟨b, wm⟩ := p
 obtain ⟨B, hB, _⟩ := h.blk id b wm hi
 exact (List.getElem?_eq_some_iff.1 hB).1
theorem BlkRel.block {S : Sit} {b wm : Nat} {B : Blk} (x : BlkRel S b wm B) : b < S.w.heap.size := by
 have key : ∀ o, S.w.heap[b]? = some o → b < S.w.heap.size := fun o h => (Array.getElem?_eq_some_iff.1 h).1
 cases B with
 | box cells t => obtain ⟨C, h1, _⟩ := x; exact key _ h1
 | row g => obtain ⟨C, t, h1, _⟩ := x; exact key _ h1
 | mrow g cells => obtain ⟨C, t, h1, _⟩ := x; exact key _ h1
 | map sh es => obtain ⟨E, c, h1, _⟩ := x; exact key _ h1
 | loop l => obtain ⟨L, h1, _⟩ := x; exact key _ h1
 | defd => exact key _ x
 | iterS s pos => exact key _ x
 | spent => obtain ⟨o, h1⟩ := x; exact key _ h1
 | obj o => exact key _ x
theorem Rel.block {S : Sit} (h : Rel S) {id b wm : Nat} (hi : S.ι id = some (b, wm)) : b < S.w.heap.size := by
 obtain ⟨B, _, hr⟩ := h.blk id b wm hi
 exact hr.block
def upd (ι : Nat → Option (Nat × Nat)) (id : Nat) (p : Option (Nat × Nat)) : Nat → Option (Nat × Nat) := fun i => if i = id then p else ι i
omit [Outer] in
theorem upd_same (ι : Nat → Option (Nat × Nat)) (id : Nat) (p : Option (Nat × Nat)) : upd ι id p id = p := by simp [upd]
omit [Outer] in
theorem upd_other (ι : Nat → Option (Nat × Nat)) (id i : Nat) (p : Option (Nat × Nat)) (h : i ≠ id) : upd ι id p i = ι i := by simp [upd, h]
theorem Fix.lt {S : Sit} {b lim : Nat} (h : Fix S b lim) : b < S.w.heap.size := by
 obtain ⟨C, t, f, a, _⟩ := h
 exact (Array.getElem?_eq_some_iff.1 a).1
theorem Ev.grow {S : Sit} (hR : Rel S) {w' : World} {H2 : List Blk} {ι' : Nat → Option (Nat × Nat)}
  (hw : ∀ b, b < S.w.heap.size → w'.heap[b]? = S.w.heap[b]?)
  (hι : ∀ id, id < S.H.length → ι' id = S.ι id)
  (hnew : ∀ id b wm, S.H.length ≤ id → ι' id = some (b, wm) → S.w.heap.size ≤ b) (hos : Rest S.w w' := by exact ⟨rfl, rfl⟩) : Ev S ⟨S.H ++ H2, ι', w'⟩ where
 ptr := fun id h => by
  obtain ⟨B, hB, hr⟩ := h
  have hlt := (List.getElem?_eq_some_iff.1 hB).1
  refine ⟨⟨B, by show (S.H ++ H2)[id]? = _; rw [List.getElem?_append_left hlt]; exact hB, hr⟩, fun b wm e => ⟨wm, by show ι' id = _; rw [hι id hlt]; exact e⟩⟩
 fix := fun b lim h => by
  have hb := h.lt
  obtain ⟨C, t, f, a, hl, r, ro⟩ := h
  refine ⟨⟨C, t, f, by show w'.heap[b]? = _; rw [hw b hb]; exact a, hl, fun id wm e => ?_, ro⟩, fun j _ => ?_⟩
  ·have e' : ι' id = some (b, wm) := e
   by_cases hlt : id < S.H.length
   ·rw [hι id hlt] at e'
    obtain ⟨⟨g, hg⟩, hle⟩ := r id wm e'
    exact ⟨⟨g, by show (S.H ++ H2)[id]? = _; rw [List.getElem?_append_left hlt]; exact hg⟩, hle⟩
   ·exact absurd (hnew id b wm (by omega) e') (by omega)
  ·rw [cell_eq, cell_eq]; show (match w'.heap[b]? with | some (.cells c _ _) => c[j]? | _ => none) = _; rw [hw b hb]
 tok := fun id g0 h => by
  have hlt := (List.getElem?_eq_some_iff.1 h).1
  refine ⟨g0, by show (S.H ++ H2)[id]? = _; rw [List.getElem?_append_left hlt]; exact h, Nat.le_refl _, fun _ => ⟨hι id hlt, fun b wm C t hi hC => ⟨C, t, ?_, rfl⟩⟩⟩
  show w'.heap[b]? = _
  rw [hw b (hR.block hi)]; exact hC
 mtok := fun id g0 c0 h => by
  have hlt := (List.getElem?_eq_some_iff.1 h).1
  refine ⟨_, g0, by show (S.H ++ H2)[id]? = _; rw [List.getElem?_append_left hlt]; exact h, rfl, Nat.le_refl _, fun _ => ⟨⟨c0, rfl⟩, hι id hlt, fun b wm C t hi hC => ⟨C, t, ?_, rfl⟩⟩⟩
  show w'.heap[b]? = _
  rw [hw b (hR.block hi)]; exact hC
 out := fun b x e => hw b (hR.out b x e).1
 rest := hos
 mark := fun b x => by
  have hb : b < S.w.heap.size := (Array.getElem?_eq_some_iff.1 x.1).1
  refine ⟨by show w'.heap[b]? = _; rw [hw b hb]; exact x.1, fun id wm e => ?_⟩
  have e' : ι' id = some (b, wm) := e
  by_cases hlt : id < S.H.length
  ·rw [hι id hlt] at e'; exact x.2 id wm e'
  ·exact absurd (hnew id b wm (by omega) e') (by omega)
theorem Rel.grow {S : Sit} (hR : Rel S) {w' : World} {H2 : List Blk} {ι' : Nat → Option (Nat × Nat)}
  (hw : ∀ b, b < S.w.heap.size → w'.heap[b]? = S.w.heap[b]?)
  (hι : ∀ id, id < S.H.length → ι' id = S.ι id)
  (hnew : ∀ id b wm, S.H.length ≤ id → ι' id = some (b, wm) → S.w.heap.size ≤ b ∧ ∃ B, (S.H ++ H2)[id]? = some B ∧ BlkRel ⟨S.H ++ H2, ι', w'⟩ b wm B)
  (hinj : ∀ i j b wm wm', S.H.length ≤ i → S.H.length ≤ j → ι' i = some (b, wm) → ι' j = some (b, wm') → i = j) (hos : Rest S.w w' := by exact ⟨rfl, rfl⟩) : Rel ⟨S.H ++ H2, ι', w'⟩ where
 blk := fun id b wm e => by
  have e' : ι' id = some (b, wm) := e
  by_cases hlt : id < S.H.length
  ·rw [hι id hlt] at e'
   obtain ⟨B, hB, hr⟩ := hR.blk id b wm e'
   exact ⟨B, by show (S.H ++ H2)[id]? = _; rw [List.getElem?_append_left hlt]; exact hB,
    hr.ev (Ev.grow hR hw hι (fun id b wm hl he => (hnew id b wm hl he).1) hos) (hw b hr.block)⟩
  ·exact (hnew id b wm (by omega) e').2
 inj := fun i j b wm wm' hi hj => by
  have hi' : ι' i = some (b, wm) := hi
  have hj' : ι' j = some (b, wm') := hj
  by_cases h1 : i < S.H.length
  ·by_cases h2 : j < S.H.length
   ·rw [hι i h1] at hi'; rw [hι j h2] at hj'
    exact hR.inj i j b wm wm' hi' hj'
   ·rw [hι i h1] at hi'
    have := hR.block hi'
    exact absurd (hnew j b wm' (by omega) hj').1 (by omega)
  ·by_cases h2 : j < S.H.length
   ·rw [hι j h2] at hj'
    have := hR.block hj'
    exact absurd (hnew i b wm (by omega) hi').1 (by omega)
   ·exact hinj i j b wm wm' (by omega) (by omega) hi' hj'
 tab := hR.tab.keep fun b x e => hw b (hR.out b x e).1
 out := fun b x e => by
  obtain ⟨h1, h2⟩ := hR.out b x e
  refine ⟨lt_of_same (hw b h1) h1, fun id wm h => ?_⟩
  have h' : ι' id = some (b, wm) := h
  by_cases hlt : id < S.H.length
  ·rw [hι id hlt] at h'; exact h2 id wm h'
  ·exact absurd (hnew id b wm (by omega) h').1 (by omega)
theorem Ev.alloc {S : Sit} (hR : Rel S) {w' : World} {o : Obj} (B : Blk) (wm : Nat) (hw : w'.heap = S.w.heap.push o) (hos : Rest S.w w' := by exact ⟨rfl, rfl⟩) :
  Ev S ⟨S.H ++ [B], upd S.ι S.H.length (some (S.w.heap.size, wm)), w'⟩ :=
 Ev.grow hR (fun b hb => by rw [hw, Array.getElem?_push_lt hb]; simp [hb])
  (fun id hlt => upd_other _ _ _ _ (by omega)) (fun id b wm' hl e => by
   by_cases h : id = S.H.length
   ·subst h; rw [upd_same] at e; cases e; exact Nat.le_refl _
   ·rw [upd_other _ _ _ _ h] at e; exact absurd (hR.lt e) (by omega)) hos
theorem Rel.alloc {S : Sit} (hR : Rel S) {w' : World} {o : Obj} (B : Blk) (wm : Nat) (hw : w'.heap = S.w.heap.push o)
  (hB : BlkRel ⟨S.H ++ [B], upd S.ι S.H.length (some (S.w.heap.size, wm)), w'⟩ S.w.heap.size wm B) (hos : Rest S.w w' := by exact ⟨rfl, rfl⟩) :
  Rel ⟨S.H ++ [B], upd S.ι S.H.length (some (S.w.heap.size, wm)), w'⟩ :=
 Rel.grow hR (fun b hb => by rw [hw, Array.getElem?_push_lt hb]; simp [hb])
  (fun id hlt => upd_other _ _ _ _ (by omega)) (fun id b wm' hl e => by
   by_cases h : id = S.H.length
   ·subst h; rw [upd_same] at e; cases e
    exact ⟨Nat.le_refl _, B, by simp, hB⟩
   ·rw [upd_other _ _ _ _ h] at e; exact absurd (hR.lt e) (by omega))
  (fun i j b wm1 wm2 hi hj ei ej => by
   by_cases h : i = S.H.length
   ·by_cases h' : j = S.H.length
    ·omega
    ·rw [upd_other _ _ _ _ h'] at ej; exact absurd (hR.lt ej) (by omega)
   ·rw [upd_other _ _ _ _ h] at ei; exact absurd (hR.lt ei) (by omega)) hos
theorem Ev.fresh {S : Sit} (hR : Rel S) {w' : World} {H2 : List Blk} (hw : ∀ b, b < S.w.heap.size → w'.heap[b]? = S.w.heap[b]?) (hos : Rest S.w w' := by exact ⟨rfl, rfl⟩) : Ev S ⟨S.H ++ H2, S.ι, w'⟩ :=
 Ev.grow hR hw (fun _ _ => rfl) (fun id b wm hl e => absurd (hR.lt e) (by omega)) hos
theorem Rel.fresh {S : Sit} (hR : Rel S) {w' : World} {H2 : List Blk} (hw : ∀ b, b < S.w.heap.size → w'.heap[b]? = S.w.heap[b]?) (hos : Rest S.w w' := by exact ⟨rfl, rfl⟩) : Rel ⟨S.H ++ H2, S.ι, w'⟩ :=
 Rel.grow hR hw (fun _ _ => rfl) (fun id b wm hl e => absurd (hR.lt e) (by omega)) (fun i j b wm wm' hl _ e _ => absurd (hR.lt e) (by omega)) hos
omit [Outer] in
theorem heap_cell {w w' : World} {b : Nat} (h : w'.heap[b]? = w.heap[b]?) (j : Nat) : w'.cell? ⟨b, j, none⟩ = w.cell? ⟨b, j, none⟩ := by
 rw [cell_eq, cell_eq, h]
theorem Ev.write {S : Sit} (hR : Rel S) {w' : World} {id b wm : Nat} {B B' : Blk} (hi : S.ι id = some (b, wm)) (hB : S.H[id]? = some B)
  (hn : B.isRow = false) (hn' : B'.isRow = false) (hw : ∀ b', b' ≠ b → w'.heap[b']? = S.w.heap[b']?) (hos : Rest S.w w' := by exact ⟨rfl, rfl⟩) : Ev S ⟨S.H.set id B', S.ι, w'⟩ where
 ptr := fun i h => by
  refine ⟨?_, fun b wm e => ⟨wm, e⟩⟩
  obtain ⟨B0, h0, hr0⟩ := h
  have hlt := (List.getElem?_eq_some_iff.1 h0).1
  by_cases h : id = i
  ·subst h; exact ⟨B', by show (S.H.set id B')[id]? = _; simp [hlt], hn'⟩
  ·exact ⟨B0, by show (S.H.set id B')[i]? = _; rw [List.getElem?_set_ne h]; exact h0, hr0⟩
 fix := fun b0 lim h => by
  obtain ⟨C, t, f, a, hl, r, ro⟩ := h
  have hne : b0 ≠ b := by
   rintro rfl
   obtain ⟨⟨g, hg⟩, _⟩ := r id wm hi
   rw [hB] at hg; cases hg; simp [Blk.isRow] at hn
  refine ⟨⟨C, t, f, by show w'.heap[b0]? = _; rw [hw b0 hne]; exact a, hl, fun i wm' e => ?_, ro⟩, fun j _ => heap_cell (hw b0 hne) j⟩
  obtain ⟨⟨g, hg⟩, hle⟩ := r i wm' e
  refine ⟨⟨g, ?_⟩, hle⟩
  show (S.H.set id B')[i]? = _
  rw [List.getElem?_set_ne]
  ·exact hg
  ·rintro rfl; rw [hB] at hg; cases hg; simp [Blk.isRow] at hn
 tok := fun i g0 h => by
  have hne : id ≠ i := by rintro rfl; rw [hB] at h; cases h; simp [Blk.isRow] at hn
  refine ⟨g0, by show (S.H.set id B')[i]? = _; rw [List.getElem?_set_ne hne]; exact h, Nat.le_refl _, fun _ => ⟨rfl, fun b1 wm1 C t h1 hC => ⟨C, t, ?_, rfl⟩⟩⟩
  show w'.heap[b1]? = _
  rw [hw b1]
  ·exact hC
  ·rintro rfl; exact hne (hR.inj id i b1 wm wm1 hi h1)
 mtok := fun i g0 c0 h => by
  have hne : id ≠ i := by rintro rfl; rw [hB] at h; cases h; simp [Blk.isRow] at hn
  refine ⟨_, g0, by show (S.H.set id B')[i]? = _; rw [List.getElem?_set_ne hne]; exact h, rfl, Nat.le_refl _, fun _ => ⟨⟨c0, rfl⟩, rfl, fun b1 wm1 C t h1 hC => ⟨C, t, ?_, rfl⟩⟩⟩
  show w'.heap[b1]? = _
  rw [hw b1]
  ·exact hC
  ·rintro rfl; exact hne (hR.inj id i b1 wm wm1 hi h1)
 out := fun b0 x e => hw b0 fun h => (hR.out b0 x e).2 id wm (h ▸ hi)
 rest := hos
 mark := fun b0 x => ⟨by
  show w'.heap[b0]? = _
  rw [hw b0 (by rintro rfl; exact x.2 id wm hi)]; exact x.1, x.2⟩
theorem Rel.write {S : Sit} (hR : Rel S) {w' : World} {id b wm : Nat} {B B' : Blk} (hi : S.ι id = some (b, wm)) (hB : S.H[id]? = some B)
  (hn : B.isRow = false) (hn' : B'.isRow = false) (hw : ∀ b', b' ≠ b → w'.heap[b']? = S.w.heap[b']?)
  (hB' : BlkRel ⟨S.H.set id B', S.ι, w'⟩ b wm B') (hos : Rest S.w w' := by exact ⟨rfl, rfl⟩) : Rel ⟨S.H.set id B', S.ι, w'⟩ where
 blk := fun i b1 wm1 e => by
  have e' : S.ι i = some (b1, wm1) := e
  by_cases h : i = id
  ·subst h
   rw [hi] at e'; cases e'
   exact ⟨B', by show (S.H.set i B')[i]? = _; simp [hR.lt hi], hB'⟩
  ·obtain ⟨B0, h0, hr⟩ := hR.blk i b1 wm1 e'
   refine ⟨B0, by show (S.H.set id B')[i]? = _; rw [List.getElem?_set_ne (Ne.symm h)]; exact h0, hr.ev (Ev.write hR hi hB hn hn' hw hos) (hw b1 ?_)⟩
   rintro rfl; exact h (hR.inj i id b1 wm1 wm e' hi)
 inj := hR.inj
 out := fun b0 x e => ⟨lt_of_same (hw b0 fun h => (hR.out b0 x e).2 id wm (h ▸ hi)) (hR.out b0 x e).1, (hR.out b0 x e).2⟩
 tab := hR.tab.keep fun b0 x e => hw b0 fun h => (hR.out b0 x e).2 id wm (h ▸ hi)
theorem Ev.row {S : Sit} (hR : Rel S) {w' : World} {id g nb wm' : Nat} (hid : S.H[id]? = some (.row g))
  (hsame : ∀ b, (∀ wm, S.ι id ≠ some (b, wm)) → b < S.w.heap.size → w'.heap[b]? = S.w.heap[b]?)
  (hown : ∀ b wm, S.ι id = some (b, wm) → ∃ C C' t t', S.w.heap[b]? = some (.cells C t (0, 0)) ∧ w'.heap[b]? = some (.cells C' t' (0, 0)) ∧ C'.size = C.size ∧
   ∀ j, j < wm → C'[j]? = C[j]?)
  (hnb : (∃ wm, S.ι id = some (nb, wm) ∧ wm ≤ wm') ∨ S.w.heap.size ≤ nb) (hos : Rest S.w w' := by exact ⟨rfl, rfl⟩) :
  Ev S ⟨S.H.set id (.row (g + 1)), upd S.ι id (some (nb, wm')), w'⟩ where
 ptr := fun i h => by
  obtain ⟨B0, h0, hr0⟩ := h
  have hne : id ≠ i := by rintro rfl; rw [hid] at h0; cases h0; simp [Blk.isRow] at hr0
  exact ⟨⟨B0, by show (S.H.set id _)[i]? = _; rw [List.getElem?_set_ne hne]; exact h0, hr0⟩, fun b wm e => ⟨wm, by show upd _ _ _ i = _; rw [upd_other _ _ _ _ (Ne.symm hne)]; exact e⟩⟩
 fix := fun b lim h => by
  have hb := h.lt
  obtain ⟨C, t, f, a, hl, r, ro⟩ := h
  by_cases hx : ∃ wm, S.ι id = some (b, wm)
  ·obtain ⟨wm, hx⟩ := hx
   obtain ⟨C0, C', t0, t', h0, h', hs, hc⟩ := hown b wm hx
   rw [h0] at a; cases a
   have hlw := (r id wm hx).2
   refine ⟨⟨C', t', (0, 0), h', by omega, fun i wm1 e => ?_, ro⟩, fun j hj => ?_⟩
   ·by_cases hi : i = id
    ·subst hi
     have e' : some (nb, wm') = some (b, wm1) := by rw [← upd_same S.ι i (some (nb, wm'))]; exact e
     cases e'
     refine ⟨⟨g + 1, by show (S.H.set i _)[i]? = _; simp [hR.lt hx]⟩, ?_⟩
     rcases hnb with ⟨wm2, h2, hle⟩ | hlt
     ·rw [hx] at h2; cases h2; omega
     ·omega
    ·have e' : S.ι i = some (b, wm1) := by rw [← upd_other S.ι id i (some (nb, wm')) hi]; exact e
     exact absurd (hR.inj i id b wm1 wm e' hx) hi
   ·rw [cell_eq, cell_eq, h0]
    show (match w'.heap[b]? with | some (.cells c _ _) => c[j]? | _ => none) = _
    rw [h']; exact hc j (by omega)
  ·have hw := hsame b (fun wm e => hx ⟨wm, e⟩) hb
   refine ⟨⟨C, t, f, by show w'.heap[b]? = _; rw [hw]; exact a, hl, fun i wm1 e => ?_, ro⟩, fun j _ => heap_cell hw j⟩
   by_cases hi : i = id
   ·subst hi
    have e' : some (nb, wm') = some (b, wm1) := by rw [← upd_same S.ι i (some (nb, wm'))]; exact e
    cases e'
    rcases hnb with ⟨wm2, h2, hle⟩ | hlt
    ·exact absurd ⟨wm2, h2⟩ hx
    ·omega
   ·have e' : S.ι i = some (b, wm1) := by rw [← upd_other S.ι id i (some (nb, wm')) hi]; exact e
    obtain ⟨⟨g1, hg1⟩, hle⟩ := r i wm1 e'
    exact ⟨⟨g1, by show (S.H.set id _)[i]? = _; rw [List.getElem?_set_ne (Ne.symm hi)]; exact hg1⟩, hle⟩
 tok := fun i g0 h => by
  by_cases hi : i = id
  ·subst hi
   rw [hid] at h; cases h
   exact ⟨g + 1, by show (S.H.set i _)[i]? = _; simp [(List.getElem?_eq_some_iff.1 hid).1], by omega, fun e => by omega⟩
  ·refine ⟨g0, by show (S.H.set id _)[i]? = _; rw [List.getElem?_set_ne (Ne.symm hi)]; exact h, Nat.le_refl _, fun _ => ⟨upd_other _ _ _ _ hi, fun b1 wm1 C t h1 hC => ⟨C, t, ?_, rfl⟩⟩⟩
   show w'.heap[b1]? = _
   rw [hsame b1 (fun wm e => hi (hR.inj i id b1 wm1 wm h1 e)) (hR.block h1)]; exact hC
 mtok := fun i g0 c0 h => by
  have hi : i ≠ id := by rintro rfl; rw [hid] at h; cases h
  refine ⟨_, g0, by show (S.H.set id _)[i]? = _; rw [List.getElem?_set_ne (Ne.symm hi)]; exact h, rfl, Nat.le_refl _, fun _ => ⟨⟨c0, rfl⟩, upd_other _ _ _ _ hi, fun b1 wm1 C t h1 hC => ⟨C, t, ?_, rfl⟩⟩⟩
  show w'.heap[b1]? = _
  rw [hsame b1 (fun wm e => hi (hR.inj i id b1 wm1 wm h1 e)) (hR.block h1)]; exact hC
 out := fun b x e => hsame b (fun wm => (hR.out b x e).2 id wm) (hR.out b x e).1
 rest := hos
 mark := fun b x => by
  have hb : b < S.w.heap.size := (Array.getElem?_eq_some_iff.1 x.1).1
  refine ⟨by show w'.heap[b]? = _; rw [hsame b (fun wm => x.2 id wm) hb]; exact x.1, fun i wm1 e => ?_⟩
  by_cases hi : i = id
  ·subst hi
   have e' : some (nb, wm') = some (b, wm1) := by rw [← upd_same S.ι i (some (nb, wm'))]; exact e
   cases e'
   rcases hnb with ⟨wm2, h2, _⟩ | hlt
   ·exact x.2 _ _ h2
   ·omega
  ·exact x.2 i wm1 (by rw [← upd_other S.ι id i (some (nb, wm')) hi]; exact e)
theorem Rel.row {S : Sit} (hR : Rel S) {w' : World} {id g nb wm' : Nat} (hid : S.H[id]? = some (.row g))
  (hsame : ∀ b, (∀ wm, S.ι id ≠ some (b, wm)) → b < S.w.heap.size → w'.heap[b]? = S.w.heap[b]?)
  (hown : ∀ b wm, S.ι id = some (b, wm) → ∃ C C' t t', S.w.heap[b]? = some (.cells C t (0, 0)) ∧ w'.heap[b]? = some (.cells C' t' (0, 0)) ∧ C'.size = C.size ∧
   ∀ j, j < wm → C'[j]? = C[j]?)
  (hnb : (∃ wm, S.ι id = some (nb, wm) ∧ wm ≤ wm') ∨ S.w.heap.size ≤ nb)
  (hnew : ∃ C t, w'.heap[nb]? = some (.cells C t (0, 0)) ∧ wm' ≤ C.size) (hos : Rest S.w w' := by exact ⟨rfl, rfl⟩) :
  Rel ⟨S.H.set id (.row (g + 1)), upd S.ι id (some (nb, wm')), w'⟩ where
 blk := fun i b1 wm1 e => by
  by_cases hi : i = id
  ·subst hi
   have e' : some (nb, wm') = some (b1, wm1) := by rw [← upd_same S.ι i (some (nb, wm'))]; exact e
   cases e'
   exact ⟨.row (g + 1), by show (S.H.set i _)[i]? = _; simp [(List.getElem?_eq_some_iff.1 hid).1], hnew⟩
  ·have e' : S.ι i = some (b1, wm1) := by rw [← upd_other S.ι id i (some (nb, wm')) hi]; exact e
   obtain ⟨B0, h0, hr⟩ := hR.blk i b1 wm1 e'
   exact ⟨B0, by show (S.H.set id _)[i]? = _; rw [List.getElem?_set_ne (Ne.symm hi)]; exact h0,
    hr.ev (Ev.row hR hid hsame hown hnb hos) (hsame b1 (fun wm e => hi (hR.inj i id b1 wm1 wm e' e)) (hR.block e'))⟩
 inj := fun i j b wm1 wm2 hi hj => by
  have key : ∀ j wm2, j ≠ id → upd S.ι id (some (nb, wm')) j = some (nb, wm2) → False := by
   intro j wm2 hj e
   rw [upd_other _ _ _ _ hj] at e
   rcases hnb with ⟨wm3, h3, _⟩ | hlt
   ·exact hj (hR.inj j id nb wm2 wm3 e h3)
   ·exact absurd (hR.block e) (by omega)
  have hi' : upd S.ι id (some (nb, wm')) i = some (b, wm1) := hi
  have hj' : upd S.ι id (some (nb, wm')) j = some (b, wm2) := hj
  by_cases h1 : i = id
  ·by_cases h2 : j = id
   ·rw [h1, h2]
   ·subst h1; rw [upd_same] at hi'; cases hi'
    exact (key j wm2 h2 hj').elim
  ·by_cases h2 : j = id
   ·subst h2; rw [upd_same] at hj'; cases hj'
    exact (key i wm1 h1 hi').elim
   ·rw [upd_other _ _ _ _ h1] at hi'; rw [upd_other _ _ _ _ h2] at hj'
    exact hR.inj i j b wm1 wm2 hi' hj'
 tab := hR.tab.keep fun b x e => hsame b (fun wm => (hR.out b x e).2 id wm) (hR.out b x e).1
 out := fun b x e => by
  obtain ⟨h1, h2⟩ := hR.out b x e
  refine ⟨lt_of_same (hsame b (fun wm => h2 id wm) h1) h1, fun i wm1 h => ?_⟩
  have h' : upd S.ι id (some (nb, wm')) i = some (b, wm1) := h
  by_cases hi : i = id
  ·subst hi; rw [upd_same] at h'; cases h'
   rcases hnb with ⟨wm2, h3, _⟩ | hlt
   ·exact h2 _ _ h3
   ·omega
  ·rw [upd_other _ _ _ _ hi] at h'; exact h2 _ _ h'
theorem Ev.mrow {S : Sit} (hR : Rel S) {w' : World} {id g g' : Nat} {c : List AV} {B' : Blk} {p : Option (Nat × Nat)} (hid : S.H[id]? = some (.mrow g c)) (hB' : B'.mgen = some g') (hg : g ≤ g')
  (hsame : ∀ b, (∀ wm, S.ι id ≠ some (b, wm)) → b < S.w.heap.size → w'.heap[b]? = S.w.heap[b]?)
  (hk : g' = g → (∃ c1, B' = .mrow g c1) ∧ p = S.ι id ∧ ∀ b wm C t, S.ι id = some (b, wm) → S.w.heap[b]? = some (.cells C t (0, 0)) → ∃ C' t', w'.heap[b]? = some (.cells C' t' (0, 0)) ∧ C'.size = C.size)
  (hnb : ∀ nb wm, p = some (nb, wm) → (∃ wm0, S.ι id = some (nb, wm0)) ∨ S.w.heap.size ≤ nb) (hos : Rest S.w w' := by exact ⟨rfl, rfl⟩) :
  Ev S ⟨S.H.set id B', upd S.ι id p, w'⟩ where
 ptr := fun i h => by
  obtain ⟨B0, h0, hr0⟩ := h
  have hne : id ≠ i := by rintro rfl; rw [hid] at h0; cases h0; simp [Blk.isRow] at hr0
  exact ⟨⟨B0, by show (S.H.set id _)[i]? = _; rw [List.getElem?_set_ne hne]; exact h0, hr0⟩, fun b wm e => ⟨wm, by show upd _ _ _ i = _; rw [upd_other _ _ _ _ (Ne.symm hne)]; exact e⟩⟩
 fix := fun b lim h => by
  have hb := h.lt
  obtain ⟨C, t, f, a, hl, r, ro⟩ := h
  have hx : ∀ wm, S.ι id ≠ some (b, wm) := fun wm e => by
   obtain ⟨⟨g1, hg1⟩, _⟩ := r id wm e
   rw [hid] at hg1; cases hg1
  have hw := hsame b hx hb
  refine ⟨⟨C, t, f, by show w'.heap[b]? = _; rw [hw]; exact a, hl, fun i wm1 e => ?_, ro⟩, fun j _ => heap_cell hw j⟩
  by_cases hi : i = id
  ·subst hi
   have e' : p = some (b, wm1) := by rw [← upd_same S.ι i p]; exact e
   rcases hnb b wm1 e' with ⟨wm0, h0⟩ | hlt
   ·exact absurd h0 (hx wm0)
   ·omega
  ·have e' : S.ι i = some (b, wm1) := by rw [← upd_other S.ι id i p hi]; exact e
   obtain ⟨⟨g1, hg1⟩, hle⟩ := r i wm1 e'
   exact ⟨⟨g1, by show (S.H.set id _)[i]? = _; rw [List.getElem?_set_ne (Ne.symm hi)]; exact hg1⟩, hle⟩
 tok := fun i g0 h => by
  have hi : i ≠ id := by rintro rfl; rw [hid] at h; cases h
  refine ⟨g0, by show (S.H.set id _)[i]? = _; rw [List.getElem?_set_ne (Ne.symm hi)]; exact h, Nat.le_refl _, fun _ => ⟨upd_other _ _ _ _ hi, fun b1 wm1 C t h1 hC => ⟨C, t, ?_, rfl⟩⟩⟩
  show w'.heap[b1]? = _
  rw [hsame b1 (fun wm e => hi (hR.inj i id b1 wm1 wm h1 e)) (hR.block h1)]; exact hC
 mtok := fun i g0 c0 h => by
  by_cases hi : i = id
  ·subst hi
   rw [hid] at h; cases h
   refine ⟨B', g', by show (S.H.set i _)[i]? = _; simp [(List.getElem?_eq_some_iff.1 hid).1], hB', hg, fun e => ?_⟩
   obtain ⟨k1, k2, k3⟩ := hk e
   exact ⟨k1, by show upd _ _ _ i = _; rw [upd_same]; exact k2, k3⟩
  ·refine ⟨_, g0, by show (S.H.set id _)[i]? = _; rw [List.getElem?_set_ne (Ne.symm hi)]; exact h, rfl, Nat.le_refl _, fun _ => ⟨⟨c0, rfl⟩, upd_other _ _ _ _ hi, fun b1 wm1 C t h1 hC => ⟨C, t, ?_, rfl⟩⟩⟩
   show w'.heap[b1]? = _
   rw [hsame b1 (fun wm e => hi (hR.inj i id b1 wm1 wm h1 e)) (hR.block h1)]; exact hC
 out := fun b x e => hsame b (fun wm => (hR.out b x e).2 id wm) (hR.out b x e).1
 rest := hos
 mark := fun b x => by
  have hb : b < S.w.heap.size := (Array.getElem?_eq_some_iff.1 x.1).1
  refine ⟨by show w'.heap[b]? = _; rw [hsame b (fun wm => x.2 id wm) hb]; exact x.1, fun i wm1 e => ?_⟩
  by_cases hi : i = id
  ·subst hi
   have e' : p = some (b, wm1) := by rw [← upd_same S.ι i p]; exact e
   rcases hnb b wm1 e' with ⟨wm2, h2⟩ | hlt
   ·exact x.2 _ _ h2
   ·omega
  ·exact x.2 i wm1 (by rw [← upd_other S.ι id i p hi]; exact e)
theorem Rel.mrow {S : Sit} (hR : Rel S) {w' : World} {id g g' : Nat} {c : List AV} {B' : Blk} {nb wm' : Nat} (hid : S.H[id]? = some (.mrow g c)) (hB' : B'.mgen = some g') (hg : g ≤ g')
  (hsame : ∀ b, (∀ wm, S.ι id ≠ some (b, wm)) → b < S.w.heap.size → w'.heap[b]? = S.w.heap[b]?)
  (hk : g' = g → (∃ c1, B' = .mrow g c1) ∧ some (nb, wm') = S.ι id ∧ ∀ b wm C t, S.ι id = some (b, wm) → S.w.heap[b]? = some (.cells C t (0, 0)) → ∃ C' t', w'.heap[b]? = some (.cells C' t' (0, 0)) ∧ C'.size = C.size)
  (hnb : (∃ wm0, S.ι id = some (nb, wm0)) ∨ S.w.heap.size ≤ nb)
  (hnew : BlkRel ⟨S.H.set id B', upd S.ι id (some (nb, wm')), w'⟩ nb wm' B') (hos : Rest S.w w' := by exact ⟨rfl, rfl⟩) :
  Rel ⟨S.H.set id B', upd S.ι id (some (nb, wm')), w'⟩ where
 blk := fun i b1 wm1 e => by
  by_cases hi : i = id
  ·subst hi
   have e' : some (nb, wm') = some (b1, wm1) := by rw [← upd_same S.ι i (some (nb, wm'))]; exact e
   cases e'
   exact ⟨B', by show (S.H.set i _)[i]? = _; simp [(List.getElem?_eq_some_iff.1 hid).1], hnew⟩
  ·have e' : S.ι i = some (b1, wm1) := by rw [← upd_other S.ι id i (some (nb, wm')) hi]; exact e
   obtain ⟨B0, h0, hr⟩ := hR.blk i b1 wm1 e'
   exact ⟨B0, by show (S.H.set id _)[i]? = _; rw [List.getElem?_set_ne (Ne.symm hi)]; exact h0,
    hr.ev (Ev.mrow hR hid hB' hg hsame hk (fun nb1 wm1 h1 => by cases h1; exact hnb) hos) (hsame b1 (fun wm e => hi (hR.inj i id b1 wm1 wm e' e)) (hR.block e'))⟩
 inj := fun i j b wm1 wm2 hi hj => by
  have key : ∀ j wm2, j ≠ id → upd S.ι id (some (nb, wm')) j = some (nb, wm2) → False := by
   intro j wm2 hj e
   rw [upd_other _ _ _ _ hj] at e
   rcases hnb with ⟨wm3, h3⟩ | hlt
   ·exact hj (hR.inj j id nb wm2 wm3 e h3)
   ·exact absurd (hR.block e) (by omega)
  have hi' : upd S.ι id (some (nb, wm')) i = some (b, wm1) := hi
  have hj' : upd S.ι id (some (nb, wm')) j = some (b, wm2) := hj
  by_cases h1 : i = id
  ·by_cases h2 : j = id
   ·rw [h1, h2]
   ·subst h1; rw [upd_same] at hi'; cases hi'
    exact (key j wm2 h2 hj').elim
  ·by_cases h2 : j = id
   ·subst h2; rw [upd_same] at hj'; cases hj'
    exact (key i wm1 h1 hi').elim
   ·rw [upd_other _ _ _ _ h1] at hi'; rw [upd_other _ _ _ _ h2] at hj'
    exact hR.inj i j b wm1 wm2 hi' hj'
 tab := hR.tab.keep fun b x e => hsame b (fun wm => (hR.out b x e).2 id wm) (hR.out b x e).1
 out := fun b x e => by
  obtain ⟨h1, h2⟩ := hR.out b x e
  refine ⟨lt_of_same (hsame b (fun wm => h2 id wm) h1) h1, fun i wm1 h => ?_⟩
  have h' : upd S.ι id (some (nb, wm')) i = some (b, wm1) := h
  by_cases hi : i = id
  ·subst hi; rw [upd_same] at h'; cases h'
   rcases hnb with ⟨wm2, h3⟩ | hlt
   ·exact h2 _ _ h3
   ·omega
  ·rw [upd_other _ _ _ _ hi] at h'; exact h2 _ _ h'
omit [Outer] in
theorem notRow.lt {H : List Blk} {id : Nat} (h : notRow H id) : id < H.length := by
 obtain ⟨B, hB, _⟩ := h
 exact (List.getElem?_eq_some_iff.1 hB).1
omit [Outer] in
theorem Non.grow {S : Sit} {w' : World} {H' : List Blk} {ι' : Nat → Option (Nat × Nat)} (hι : ∀ id, id < S.H.length → ι' id = S.ι id) : Non S ⟨H', ι', w'⟩ :=
 fun id hn h => (hι id hn.lt).trans h
omit [Outer] in
theorem Non.alloc {S : Sit} {w' : World} {H' : List Blk} {p : Option (Nat × Nat)} : Non S ⟨H', upd S.ι S.H.length p, w'⟩ :=
 Non.grow fun id hlt => upd_other _ _ _ _ (by omega)
omit [Outer] in
theorem Non.same {S : Sit} {w' : World} {H' : List Blk} : Non S ⟨H', S.ι, w'⟩ := fun _ _ h => h
omit [Outer] in
theorem Non.row {S : Sit} {w' : World} {H' : List Blk} {id g : Nat} {p : Option (Nat × Nat)} (hid : S.H[id]? = some (.row g)) : Non S ⟨H', upd S.ι id p, w'⟩ :=
 fun i hn h => by
  obtain ⟨B, hB, hr⟩ := hn
  have hne : i ≠ id := by rintro rfl; rw [hid] at hB; cases hB; simp [Blk.isRow] at hr
  show upd _ _ _ i = _
  rw [upd_other _ _ _ _ hne]; exact h
omit [Outer] in
theorem Non.mrow {S : Sit} {w' : World} {H' : List Blk} {id g : Nat} {c : List AV} {p : Option (Nat × Nat)} (hid : S.H[id]? = some (.mrow g c)) : Non S ⟨H', upd S.ι id p, w'⟩ :=
 fun i hn h => by
  obtain ⟨B, hB, hr⟩ := hn
  have hne : i ≠ id := by rintro rfl; rw [hid] at hB; cases hB; simp [Blk.isRow] at hr
  show upd _ _ _ i = _
  rw [upd_other _ _ _ _ hne]; exact h
theorem Ev.place {S : Sit} (hR : Rel S) {w' : World} {id wm : Nat} {o : Obj} {B : Blk} (hB : S.H[id]? = some B) (hn : B.isRow = false) (hi : S.ι id = none)
  (hw : w'.heap = S.w.heap.push o) (hos : Rest S.w w' := by exact ⟨rfl, rfl⟩) : Ev S ⟨S.H, upd S.ι id (some (S.w.heap.size, wm)), w'⟩ := by
 have hwb : ∀ b, b < S.w.heap.size → w'.heap[b]? = S.w.heap[b]? := fun b hb => by rw [hw, Array.getElem?_push_lt hb]; simp [hb]
 have key : ∀ i p, S.ι i = some p → upd S.ι id (some (S.w.heap.size, wm)) i = some p := fun i p e => by
  rw [upd_other _ _ _ _ (by rintro rfl; rw [hi] at e; cases e)]; exact e
 refine ⟨fun i h => ⟨h, fun b wm0 e => ⟨wm0, key i _ e⟩⟩, fun b lim h => ?_, fun i g0 h => ⟨g0, h, Nat.le_refl _, fun _ => ⟨?_, fun b wm0 C t e hC => ⟨C, t, ?_, rfl⟩⟩⟩,
  fun i g0 c0 h => ⟨_, g0, h, rfl, Nat.le_refl _, fun _ => ⟨⟨c0, rfl⟩, ?_, fun b wm0 C t e hC => ⟨C, t, ?_, rfl⟩⟩⟩, fun b x e => hwb b (hR.out b x e).1, hos, fun b x => ?_⟩
 ·have hb := h.lt
  obtain ⟨C, t, f, a, hl, r, ro⟩ := h
  refine ⟨⟨C, t, f, by show w'.heap[b]? = _; rw [hwb b hb]; exact a, hl, fun i wm1 e => ?_, ro⟩, fun j _ => heap_cell (hwb b hb) j⟩
  have e' : upd S.ι id (some (S.w.heap.size, wm)) i = some (b, wm1) := e
  by_cases h : i = id
  ·subst h; rw [upd_same] at e'; cases e'; omega
  ·rw [upd_other _ _ _ _ h] at e'; exact r i wm1 e'
 ·have hne : i ≠ id := by rintro rfl; rw [hB] at h; cases h; simp [Blk.isRow] at hn
  exact upd_other _ _ _ _ hne
 ·show w'.heap[b]? = _
  rw [hwb b (hR.block e)]; exact hC
 ·have hne : i ≠ id := by rintro rfl; rw [hB] at h; cases h; simp [Blk.isRow] at hn
  exact upd_other _ _ _ _ hne
 ·show w'.heap[b]? = _
  rw [hwb b (hR.block e)]; exact hC
 ·have hb : b < S.w.heap.size := (Array.getElem?_eq_some_iff.1 x.1).1
  refine ⟨by show w'.heap[b]? = _; rw [hwb b hb]; exact x.1, fun i wm1 e => ?_⟩
  have e' : upd S.ι id (some (S.w.heap.size, wm)) i = some (b, wm1) := e
  by_cases h : i = id
  ·subst h; rw [upd_same] at e'; cases e'; omega
  ·rw [upd_other _ _ _ _ h] at e'; exact x.2 i wm1 e'
theorem Rel.place {S : Sit} (hR : Rel S) {w' : World} {id wm : Nat} {o : Obj} {B : Blk} (hB : S.H[id]? = some B) (hn : B.isRow = false) (hi : S.ι id = none)
  (hw : w'.heap = S.w.heap.push o) (hB' : BlkRel ⟨S.H, upd S.ι id (some (S.w.heap.size, wm)), w'⟩ S.w.heap.size wm B) (hos : Rest S.w w' := by exact ⟨rfl, rfl⟩) :
  Rel ⟨S.H, upd S.ι id (some (S.w.heap.size, wm)), w'⟩ where
 blk := fun i b wm0 e => by
  have e' : upd S.ι id (some (S.w.heap.size, wm)) i = some (b, wm0) := e
  by_cases h : i = id
  ·subst h; rw [upd_same] at e'; cases e'; exact ⟨B, hB, hB'⟩
  ·rw [upd_other _ _ _ _ h] at e'
   obtain ⟨B0, h0, hr⟩ := hR.blk i b wm0 e'
   exact ⟨B0, h0, hr.ev (Ev.place hR hB hn hi hw hos) (by show w'.heap[b]? = _; rw [hw, Array.getElem?_push_lt (hR.block e')]; simp [hR.block e'])⟩
 inj := fun i j b wm1 wm2 e1 e2 => by
  have e1' : upd S.ι id (some (S.w.heap.size, wm)) i = some (b, wm1) := e1
  have e2' : upd S.ι id (some (S.w.heap.size, wm)) j = some (b, wm2) := e2
  by_cases h1 : i = id
  ·by_cases h2 : j = id
   ·rw [h1, h2]
   ·subst h1; rw [upd_same] at e1'; cases e1'
    rw [upd_other _ _ _ _ h2] at e2'; exact absurd (hR.block e2') (by omega)
  ·by_cases h2 : j = id
   ·subst h2; rw [upd_same] at e2'; cases e2'
    rw [upd_other _ _ _ _ h1] at e1'; exact absurd (hR.block e1') (by omega)
   ·rw [upd_other _ _ _ _ h1] at e1'; rw [upd_other _ _ _ _ h2] at e2'
    exact hR.inj i j b wm1 wm2 e1' e2'
 tab := hR.tab.keep fun b x e => by
  have hb := (hR.out b x e).1
  rw [hw, Array.getElem?_push_lt hb]; simp [hb]
 out := fun b x e => by
  obtain ⟨h1, h2⟩ := hR.out b x e
  refine ⟨by show b < w'.heap.size; rw [hw, Array.size_push]; omega, fun i wm1 h => ?_⟩
  have h' : upd S.ι id (some (S.w.heap.size, wm)) i = some (b, wm1) := h
  by_cases hi : i = id
  ·subst hi; rw [upd_same] at h'; cases h'; omega
  ·rw [upd_other _ _ _ _ hi] at h'; exact h2 _ _ h'
def cutι (ι : Nat → Option (Nat × Nat)) (n : Nat) : Nat → Option (Nat × Nat) := fun i => if i < n then ι i else none
def Tail.under (n : Nat) : Tail → Prop
 | .unk => True
 | .full => True
 | .own id _ _ => id < n
mutual
def AV.under (n : Nat) : AV → Prop
 | .lit _ => True
 | .agg cells => AV.unders n cells
 | .tup vs => AV.unders n vs
 | .ptr id _ => id < n
 | .eptr cells => AV.unders n cells
 | .sl _ cells tail => AV.unders n cells ∧ tail.under n
 | .hsl id _ _ _ => id < n
 | .mp id => id < n
 | .fn _ first captured => AV.unders n first ∧ AV.unders n captured
 | .yld id => id < n
 | .iface _ v => v.under n
 | .msl id _ _ _ => id < n
 | .mptr id _ _ => id < n
 | .mpx => True
def AV.unders (n : Nat) : List AV → Prop
 | [] => True
 | a :: as => a.under n ∧ AV.unders n as
end
theorem Fix.cut {S : Sit} {n b lim : Nat} (h : Fix S b lim) : Fix ⟨S.H.take n, cutι S.ι n, S.w⟩ b lim := by
 obtain ⟨C, t, f, a, hl, r, ro⟩ := h
 refine ⟨C, t, f, a, hl, fun id wm e => ?_, ro⟩
 have e' : cutι S.ι n id = some (b, wm) := e
 unfold cutι at e'
 split at e'
 ·rename_i hlt
  obtain ⟨⟨g, hg⟩, hle⟩ := r id wm e'
  exact ⟨⟨g, by show (S.H.take n)[id]? = _; rw [List.getElem?_take_of_lt hlt]; exact hg⟩, hle⟩
 ·cases e'
omit [Outer] in
theorem notRow.cut {H : List Blk} {id n : Nat} (h : notRow H id) (hlt : id < n) : notRow (H.take n) id := by
 obtain ⟨B, hB, hr⟩ := h
 exact ⟨B, by rw [List.getElem?_take_of_lt hlt]; exact hB, hr⟩
omit [Outer] in
theorem TailRel.cut {S : Sit} {n : Nat} {tail : Tail} {base : Option Addr} {len cap k : Nat}
  (x : TailRel S tail base len cap k) (hb : tail.under n) : TailRel ⟨S.H.take n, cutι S.ι n, S.w⟩ tail base len cap k := by
 cases tail with
 | unk => trivial
 | full => exact x
 | own id g sz =>
  have hlt : id < n := hb
  obtain ⟨hn, g0, h0, hle, hx⟩ := x
  have hc : cutι S.ι n id = S.ι id := by simp [cutι, hlt]
  refine ⟨hn, g0, by show (S.H.take n)[id]? = _; rw [List.getElem?_take_of_lt hlt]; exact h0, hle, fun hg => ?_⟩
  rcases hx hg with a | ⟨b, o, C, t, hb, hi, hC, hs⟩
  ·exact .inl a
  ·exact .inr ⟨b, o, C, t, hb, hc.trans hi, hC, hs⟩
omit [Outer] in
theorem MRef.cut {S : Sit} {n id gen : Nat} {K : Nat → Nat → Prop} (x : MRef S id gen K) (hb : id < n) : MRef ⟨S.H.take n, cutι S.ι n, S.w⟩ id gen K := by
 obtain ⟨B, g, hB, hm, hle, k⟩ := x
 refine ⟨B, g, by show (S.H.take n)[id]? = _; rw [List.getElem?_take_of_lt hb]; exact hB, hm, hle, fun hg hc => ?_⟩
 obtain ⟨b, wm, C, t, hi, hC, hK⟩ := k hg hc
 exact ⟨b, wm, C, t, by show cutι S.ι n id = _; simp [cutι, hb, hi], hC, hK⟩
omit [Outer] in
theorem SRef.cut {S : Sit} {n id gen sz cap : Nat} {base : Option Addr} (x : SRef S id gen sz base cap) (hb : id < n) : SRef ⟨S.H.take n, cutι S.ι n, S.w⟩ id gen sz base cap := by
 rcases x with ⟨b, e, hm⟩ | ⟨e, e2, B, g, hB, h1, h2⟩
 ·exact .inl ⟨b, e, hm.cut hb⟩
 ·exact .inr ⟨e, e2, B, g, by show (S.H.take n)[id]? = _; rw [List.getElem?_take_of_lt hb]; exact hB, h1, h2⟩
mutual
theorem VRel.cut {S : Sit} {n : Nat} : ∀ (a : AV) (c : Value), a.under n → VRel S a c → VRel ⟨S.H.take n, cutι S.ι n, S.w⟩ a c
 | .lit v, c, _, x => by simpa [VRel] using x
 | .agg cells, c, hb, x => by
  simp only [VRel, AV.under] at x hb ⊢
  obtain ⟨C, hc, hr⟩ := x
  exact ⟨C, hc, VRels.cut cells _ hb hr⟩
 | .tup vs, c, hb, x => by
  simp only [VRel, AV.under] at x hb ⊢
  obtain ⟨C, hc, hr⟩ := x
  exact ⟨C, hc, VRels.cut vs _ hb hr⟩
 | .ptr id off, c, hb, x => by
  simp only [VRel, AV.under] at x hb ⊢
  obtain ⟨b, wm, hi, hn, hc⟩ := x
  exact ⟨b, wm, by simp [cutι, hb, hi], hn.cut hb, hc⟩
 | .eptr cells, c, hb, x => by
  simp only [VRel, AV.under] at x hb ⊢
  obtain ⟨b, o, hc, hf, hr⟩ := x
  exact ⟨b, o, hc, hf.cut, VRow.cut b cells o hb hr⟩
 | .sl len cells tail, c, hb, x => by
  simp only [VRel, AV.under] at x hb ⊢
  obtain ⟨base, cap, hc, hle, hcells, ht⟩ := x
  refine ⟨base, cap, hc, hle, ?_, ht.cut hb.2⟩
  rcases hcells with hcells | ⟨b, o, hb', hf, hr⟩
  ·exact .inl hcells
  ·exact .inr ⟨b, o, hb', hf.cut, VRow.cut b cells o hb.1 hr⟩
 | .hsl id off len cap, c, hb, x => by
  simp only [VRel, AV.under] at x hb ⊢
  obtain ⟨b, wm, hi, hn, hc⟩ := x
  exact ⟨b, wm, by simp [cutι, hb, hi], hn.cut hb, hc⟩
 | .mp id, c, hb, x => by
  simp only [VRel, AV.under] at x hb ⊢
  obtain ⟨b, wm, hi, hn, hc⟩ := x
  exact ⟨b, wm, by simp [cutι, hb, hi], hn.cut hb, hc⟩
 | .fn f first captured, c, hb, x => by
  simp only [VRel, AV.under] at x hb ⊢
  obtain ⟨F, C, hc, h1, h2⟩ := x
  exact ⟨F, C, hc, VRels.cut first _ hb.1 h1, VRels.cut captured _ hb.2 h2⟩
 | .yld id, c, hb, x => by
  simp only [VRel, AV.under] at x hb ⊢
  obtain ⟨b, wm, hi, hn, hc⟩ := x
  exact ⟨b, wm, by simp [cutι, hb, hi], hn.cut hb, hc⟩
 | .iface t v, c, hb, x => by
  simp only [VRel, AV.under] at x hb ⊢
  obtain ⟨y, hc, hr⟩ := x
  exact ⟨y, hc, VRel.cut v y hb hr⟩
 | .msl id gen len sz, c, hb, x => by
  simp only [VRel, AV.under] at x hb ⊢
  obtain ⟨base, cap, hc, hle, hm⟩ := x
  exact ⟨base, cap, hc, hle, hm.cut hb⟩
 | .mptr id gen off, c, hb, x => by
  simp only [VRel, AV.under] at x hb ⊢
  obtain ⟨b, o, hc, hm⟩ := x
  exact ⟨b, o, hc, hm.cut hb⟩
 | .mpx, c, hb, x => by
  simp only [VRel] at x ⊢
  exact x
theorem VRels.cut {S : Sit} {n : Nat} : ∀ (as : List AV) (cs : List Value), AV.unders n as → VRels S as cs → VRels ⟨S.H.take n, cutι S.ι n, S.w⟩ as cs
 | [], [], _, x => by simp [VRels]
 | [], _ :: _, _, x => by simp [VRels] at x
 | _ :: _, [], _, x => by simp [VRels] at x
 | a :: as, c :: cs, hb, x => by
  simp only [VRels, AV.unders] at x hb ⊢
  exact ⟨VRel.cut a c hb.1 x.1, VRels.cut as cs hb.2 x.2⟩
theorem VRow.cut {S : Sit} {n : Nat} (b : Nat) : ∀ (as : List AV) (o : Nat), AV.unders n as → VRow S b o as → VRow ⟨S.H.take n, cutι S.ι n, S.w⟩ b o as
 | [], o, _, _ => by simp [VRow]
 | a :: as, o, hb, x => by
  simp only [VRow, AV.unders] at x hb ⊢
  obtain ⟨⟨c, hc, hr⟩, x2⟩ := x
  exact ⟨⟨c, hc, VRel.cut a c hb.1 hr⟩, VRow.cut b as (o + 1) hb.2 x2⟩
end
theorem VarsRel.cut {S : Sit} {n : Nat} {vars : Trie AV} {tmps : Array Value} (x : VarsRel S vars tmps)
  (hb : ∀ t v, get vars t = some v → v.under n) : VarsRel ⟨S.H.take n, cutι S.ι n, S.w⟩ vars tmps := by
 intro t v hg
 obtain ⟨c, hc, hr⟩ := x t v hg
 exact ⟨c, hc, VRel.cut v c (hb t v hg) hr⟩
def Blk.under (n : Nat) : Blk → Prop
 | .box cells _ => AV.unders n cells
 | .row _ => True
 | .mrow _ cells => AV.unders n cells
 | .map _ es => AV.unders n (es.map (·.2))
 | .loop l => (∀ t v, get l.vars t = some v → v.under n) ∧ l.defers < n
 | .defd => True
 | .iterS _ _ => True
 | .spent => True
 | .obj _ => True
omit [Outer] in
theorem AV.unders_mem {n : Nat} : ∀ {l : List AV}, AV.unders n l ↔ ∀ a ∈ l, a.under n
 | [] => by simp [AV.unders]
 | a :: l => by simp [AV.unders, AV.unders_mem (l := l)]
theorem BlkRel.cut {S : Sit} {n b wm : Nat} {B : Blk} (x : BlkRel S b wm B) (hb : B.under n) : BlkRel ⟨S.H.take n, cutι S.ι n, S.w⟩ b wm B := by
 cases B with
 | box cells t => obtain ⟨C, h1, h2⟩ := x; exact ⟨C, h1, VRels.cut _ _ hb h2⟩
 | row g => exact x
 | mrow g cells => obtain ⟨C, t, h1, h2⟩ := x; exact ⟨C, t, h1, VRels.cut _ _ hb h2⟩
 | map sh es =>
  obtain ⟨E, c, h1, h2⟩ := x
  refine ⟨E, c, h1, ?_, h2.keys, h2.nodup, h2.stamps, h2.born⟩
  obtain ⟨es2, hp, k1, k2⟩ := h2.ents
  refine ⟨es2, hp, k1, VRels.cut _ _ ?_ k2⟩
  rw [AV.unders_mem]; intro a ha; exact AV.unders_mem.1 hb a ((hp.map _).mem_iff.1 ha)
 | loop l =>
  obtain ⟨L, h1, h2⟩ := x
  refine ⟨L, h1, ⟨h2.state, h2.pending, h2.params, h2.assign, h2.body, h2.size, h2.vars.cut hb.1, ?_⟩⟩
  obtain ⟨wm', hi, hn⟩ := h2.defers
  exact ⟨wm', by show cutι S.ι n _ = _; simp [cutι, hb.2, hi], hn.cut hb.2⟩
 | defd => exact x
 | iterS s pos => exact x
 | spent => exact x
 | obj o => exact x
theorem Rel.cut {S : Sit} {n : Nat} (hR : Rel S) (hb : ∀ B ∈ S.H.take n, B.under n) : Rel ⟨S.H.take n, cutι S.ι n, S.w⟩ where
 blk := fun id b wm e => by
  have e' : cutι S.ι n id = some (b, wm) := e
  unfold cutι at e'
  split at e'
  ·rename_i hlt
   obtain ⟨B, hB, hr⟩ := hR.blk id b wm e'
   have hB' : (S.H.take n)[id]? = some B := by rw [List.getElem?_take_of_lt hlt]; exact hB
   exact ⟨B, hB', hr.cut (hb B (List.mem_of_getElem? hB'))⟩
  ·cases e'
 inj := fun i j b wm wm' ei ej => by
  have ei' : cutι S.ι n i = some (b, wm) := ei
  have ej' : cutι S.ι n j = some (b, wm') := ej
  unfold cutι at ei' ej'
  split at ei' <;> split at ej' <;> first | exact hR.inj i j b wm wm' ei' ej' | (cases ei') | (cases ej')
 tab := hR.tab
 out := fun b x e => by
  obtain ⟨h1, h2⟩ := hR.out b x e
  refine ⟨h1, fun i wm h => ?_⟩
  have h' : cutι S.ι n i = some (b, wm) := h
  unfold cutι at h'
  split at h'
  ·exact h2 _ _ h'
  ·cases h'
theorem Ev.cut {S S' : Sit} (h : Ev S S') : Ev S ⟨S'.H.take S.H.length, cutι S'.ι S.H.length, S'.w⟩ where
 ptr := fun id hn => by
  obtain ⟨hn', e⟩ := h.ptr id hn
  have hlt := hn.lt
  refine ⟨hn'.cut hlt, fun b wm x => ?_⟩
  obtain ⟨wm', y⟩ := e b wm x
  exact ⟨wm', by show cutι S'.ι _ id = _; simp [cutι, hlt, y]⟩
 fix := fun b lim x => by
  obtain ⟨a, e⟩ := h.fix b lim x
  exact ⟨a.cut, e⟩
 tok := fun id g0 x => by
  obtain ⟨g1, a, hle, e⟩ := h.tok id g0 x
  have hlt := (List.getElem?_eq_some_iff.1 x).1
  refine ⟨g1, by show (S'.H.take S.H.length)[id]? = _; rw [List.getElem?_take_of_lt hlt]; exact a, hle, fun hg => ?_⟩
  obtain ⟨e1, k1⟩ := e hg
  exact ⟨by show cutι S'.ι _ id = _; simp [cutι, hlt, e1], k1⟩
 mtok := fun id g0 c0 x => by
  obtain ⟨B, g1, a, hm, hle, e⟩ := h.mtok id g0 c0 x
  have hlt := (List.getElem?_eq_some_iff.1 x).1
  refine ⟨B, g1, by show (S'.H.take S.H.length)[id]? = _; rw [List.getElem?_take_of_lt hlt]; exact a, hm, hle, fun hg => ?_⟩
  obtain ⟨e0, e1, k1⟩ := e hg
  exact ⟨e0, by show cutι S'.ι _ id = _; simp [cutι, hlt, e1], k1⟩
 out := h.out
 rest := h.rest
 mark := fun b x => by
  obtain ⟨h1, h2⟩ := h.mark b x
  refine ⟨h1, fun i wm e => ?_⟩
  have e' : cutι S'.ι S.H.length i = some (b, wm) := e
  unfold cutι at e'
  split at e'
  ·exact h2 _ _ e'
  ·cases e'
omit [Outer] in
theorem Non.cut {S S' : Sit} (h : Non S S') : Non S ⟨S'.H.take S.H.length, cutι S'.ι S.H.length, S'.w⟩ := fun id hn x => by
 show cutι S'.ι _ id = none
 simp [cutι, hn.lt, h id hn x]
end
end Go.Vm
