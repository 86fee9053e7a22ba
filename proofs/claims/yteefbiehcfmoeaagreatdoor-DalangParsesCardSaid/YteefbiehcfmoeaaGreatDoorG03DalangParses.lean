/-
  Texts of the proof, part 3: the machine, contracts of functions, plain laws. (Own work.)
-/
import Derived.Test.YteefbiehcfmoeaaGreatDoorG02DalangParses
import Derived.Laws.StructEq
import Derived.Laws.BytesString

namespace Go.Vm
variable [Outer]
variable {P : Program}
def binInt (op : BinOp) (k : IntKind) (a b : Int) : Option Value :=
 match op with
 | .add => some (.int k (k.wrap (a + b)))
 | .sub => some (.int k (k.wrap (a - b)))
 | .mul => some (.int k (k.wrap (a * b)))
 | .quo => if b = 0 then none else some (.int k (k.wrap (a.tdiv b)))
 | .rem => if b = 0 then none else some (.int k (a.tmod b))
 | .and => some (.int k (k.wrap (BitVec.ofInt k.bits a &&& BitVec.ofInt k.bits b).toNat))
 | .or => some (.int k (k.wrap (BitVec.ofInt k.bits a ||| BitVec.ofInt k.bits b).toNat))
 | .eql => some (.bool (a == b))
 | .neq => some (.bool (a != b))
 | .lss => some (.bool (a < b))
 | .leq => some (.bool (a ≤ b))
 | .gtr => some (.bool (a > b))
 | .geq => some (.bool (a ≥ b))
 | _ => none
def binStr (op : BinOp) (a b : ByteArray) : Option Value :=
 match op with
 | .add => if a.size + b.size ≤ 1073741824 then some (.string (a ++ b)) else none
 | .eql => some (.bool (a.toList == b.toList))
 | .neq => some (.bool !(a.toList == b.toList))
 | _ => none
def binLit (P : Program) (op : BinOp) (t : TypeId) (x y : Value) : Option Value :=
 match x, y with
 | .int k a, .int k' b =>
  match op with
  | .shl => if 0 ≤ b then some (.int k (k.wrap (a * 2 ^ (min b.toNat k.bits)))) else none
  | .shr => if 0 ≤ b then some (.int k (a.fdiv (2 ^ (min b.toNat k.bits)))) else none
  | _ => if k = k' then binInt op k a b else none
 | .string a, .string b => binStr op a b
 | .bool a, .bool b => match P.underlying t, op with
  | some .bool, .eql => some (.bool (a == b))
  | some .bool, .neq => some (.bool !(a == b))
  | _, _ => none
 | .slice none _ _, .slice b _ _ => match P.underlying t, op with
  | some (.slice _), .eql => some (.bool b.isNone)
  | some (.slice _), .neq => some (.bool !b.isNone)
  | _, _ => none
 | .slice (some _) _ _, .slice none _ _ => match P.underlying t, op with
  | some (.slice _), .eql => some (.bool false)
  | some (.slice _), .neq => some (.bool true)
  | _, _ => none
 | _, _ => none
omit [Outer] in
theorem equalIn_slice_nil {t e : TypeId} (d : Nat) (w : World) (hu : P.underlying t = some (.slice e)) (a : Option Addr) (l k l' k' : Nat) :
  (Op.equalIn (d + 1) t (.slice a l k) (.slice none l' k')).run P w = .ok a.isNone w := by
 cases a <;> simp [Op.equalIn, run_underlying hu]
omit [Outer] in
theorem equalIn_nil_slice {t e : TypeId} (d : Nat) (w : World) (hu : P.underlying t = some (.slice e)) (a : Option Addr) (l k l' k' : Nat) :
  (Op.equalIn (d + 1) t (.slice none l' k') (.slice a l k)).run P w = .ok a.isNone w := by
 cases a <;> simp [Op.equalIn, run_underlying hu]
omit [Outer] in
theorem binLit_sound {op : BinOp} {t : TypeId} {x y v : Value} (h : binLit P op t x y = some v) (w : World) : (binOp op t x y).run P w = .ok v w := by
  unfold binLit at h
  split at h
  · rename_i k a k' b
    split at h
    · split at h
      · rename_i hb; cases h
        simp only [binOp, Op.shift]
        rw [if_neg (by omega)]
        rfl
      · cases h
    · split at h
      · rename_i hb; cases h
        simp only [binOp, Op.shift]
        rw [if_neg (by omega)]
        rfl
      · cases h
    · split at h
      · rename_i hk; subst hk
        unfold binInt at h
        split at h <;> first
          | (cases h; done)
          | (cases h; simp only [binOp]; rw [if_neg (by simp)]; rfl)
          | (split at h
             · cases h
             · rename_i hb; cases h; simp only [binOp]; rw [if_neg (by simp)]; simp only [Op.intDiv]; rw [if_neg hb]; rfl)
      · cases h
  · rename_i a b
    unfold binStr at h
    split at h
    · split at h
      · rename_i hs; cases h
        simp only [binOp, Op.stringOp]
        have : IntKind.i64.max = 9223372036854775807 := by decide
        rw [if_neg (by rw [this]; omega)]
        rfl
      · cases h
    · cases h; rfl
    · cases h; rfl
    · cases h
  · rename_i a b
    split at h
    · rename_i hu; cases h
      simp only [binOp]
      rw [Sem.run_bind, show (Op.equal t (.bool a) (.bool b)).run P w = .ok (a == b) w from run_equalIn_bool' w 9999 t a b hu]
      rfl
    · rename_i hu; cases h
      simp only [binOp]
      rw [Sem.run_bind, show (Op.equal t (.bool a) (.bool b)).run P w = .ok (a == b) w from run_equalIn_bool' w 9999 t a b hu]
      rfl
    · cases h
  · rename_i l1 k1 b l2 k2
    split at h
    · rename_i hu; cases h
      simp only [binOp]
      rw [Sem.run_bind, show (Op.equal t (.slice none l1 k1) (.slice b l2 k2)).run P w = .ok b.isNone w from equalIn_nil_slice 9999 w hu b l2 k2 l1 k1]
      rfl
    · rename_i hu; cases h
      simp only [binOp]
      rw [Sem.run_bind, show (Op.equal t (.slice none l1 k1) (.slice b l2 k2)).run P w = .ok b.isNone w from equalIn_nil_slice 9999 w hu b l2 k2 l1 k1]
      rfl
    · cases h
  · rename_i a l1 k1 l2 k2
    split at h
    · rename_i hu; cases h
      simp only [binOp]
      rw [Sem.run_bind, show (Op.equal t (.slice (some a) l1 k1) (.slice none l2 k2)).run P w = .ok (some a).isNone w from equalIn_slice_nil 9999 w hu (some a) l1 k1 l2 k2]
      rfl
    · rename_i hu; cases h
      simp only [binOp]
      rw [Sem.run_bind, show (Op.equal t (.slice (some a) l1 k1) (.slice none l2 k2)).run P w = .ok (some a).isNone w from equalIn_slice_nil 9999 w hu (some a) l1 k1 l2 k2]
      rfl
    · cases h
  · cases h
omit [Outer] in
theorem eqGuard_plain {op : BinOp} {t : TypeId} {x y : Operand} {a b : Value} (h : (∀ C, a ≠ .agg C) ∧ a ≠ .nilIface) (w : World) : (eqGuard op t x y a b).run P w = .ok () w := by
 cases op <;> first
  | rfl
  | (cases a <;> first | rfl | (exact absurd rfl (h.1 _)) | exact absurd rfl h.2)
def isNil : AV → Option Bool
 | .lit (.slice none _ _) => some true
 | .sl _ (_ :: _) _ => some false
 | .hsl _ _ _ _ => some false
 | .msl _ _ (_ + 1) _ => some false
 | _ => none
theorem isNil_sound {S : Sit} {x : AV} {c : Value} {b : Bool} (h : isNil x = some b) (hx : VRel S x c) : ∃ a l k, c = .slice a l k ∧ a.isNone = b := by
 unfold isNil at h
 split at h
 ·cases h; simp only [VRel] at hx; subst hx; exact ⟨_, _, _, rfl, rfl⟩
 ·cases h; simp only [VRel] at hx
  obtain ⟨base, cap, rfl, _, hc, _⟩ := hx
  rcases hc with hc | ⟨b, o, rfl, _⟩
  ·cases hc
  ·exact ⟨_, _, _, rfl, rfl⟩
 ·cases h; simp only [VRel] at hx
  obtain ⟨b, wm, _, _, rfl⟩ := hx
  exact ⟨_, _, _, rfl, rfl⟩
 ·cases h; simp only [VRel] at hx
  obtain ⟨base, cap, rfl, hle, hs⟩ := hx
  rcases hs with ⟨b, rfl, _⟩ | ⟨rfl, rfl, _⟩
  ·exact ⟨_, _, _, rfl, rfl⟩
  ·omega
 ·cases h
def binA (P : Program) (op : BinOp) (t : TypeId) (x y : AV) : Option AV :=
 match x, y with
 | .lit v, .lit u =>
  match v with
  | .agg _ | .nilIface => none
  | _ => (binLit P op t v u).map .lit
 | x, .lit (.slice none 0 0) =>
  match P.underlying t, op, isNil x with
  | some (.slice _), .eql, some b => some (.lit (.bool b))
  | some (.slice _), .neq, some b => some (.lit (.bool !b))
  | _, _, _ => none
 | _, _ => none
theorem binA_sound {S : Sit} {op : BinOp} {t : TypeId} {ox oy : Operand} {x y v : AV} {c d : Value} (h : binA P op t x y = some v) (hx : VRel S x c) (hy : VRel S y d) :
    ∃ r, (do eqGuard op t ox oy c d; binOp op t c d : Sem Value).run P S.w = .ok r S.w ∧ VRel S v r := by
  unfold binA at h
  split at h
  · rename_i v' u'
    simp only [VRel] at hx hy; subst hx hy
    split at h
    · cases h
    · cases h
    · rename_i h1 h2
      cases hb : binLit P op t c d with
      | none => simp [hb] at h
      | some r =>
        simp only [hb, Option.map_some, Option.some.injEq] at h
        subst h
        refine ⟨r, ?_, by simp [VRel]⟩
        rw [Sem.run_bind, eqGuard_plain ⟨fun C e => h1 C e, fun e => h2 e⟩]
        exact binLit_sound hb _
  · rename_i x' hne
    simp only [VRel] at hy; subst hy
    have key : ∀ (b : Bool) (E : TypeId), isNil x = some b → P.underlying t = some (.slice E) →
        (do eqGuard .eql t ox oy c (.slice none 0 0); binOp .eql t c (.slice none 0 0) : Sem Value).run P S.w = .ok (.bool b) S.w ∧
        (do eqGuard .neq t ox oy c (.slice none 0 0); binOp .neq t c (.slice none 0 0) : Sem Value).run P S.w = .ok (.bool !b) S.w := by
      intro b E hb hu
      obtain ⟨a, l, k, rfl, rfl⟩ := isNil_sound hb hx
      constructor
      · rw [Sem.run_bind, eqGuard_plain ⟨fun C e => (by cases e), fun e => (by cases e)⟩]
        simp only [Result.andThen_ok, binOp]
        rw [Sem.run_bind, show (Op.equal t (.slice a l k) (.slice none 0 0)).run P S.w = .ok a.isNone S.w from equalIn_slice_nil 9999 S.w hu a l k 0 0]
        rfl
      · rw [Sem.run_bind, eqGuard_plain ⟨fun C e => (by cases e), fun e => (by cases e)⟩]
        simp only [Result.andThen_ok, binOp]
        rw [Sem.run_bind, show (Op.equal t (.slice a l k) (.slice none 0 0)).run P S.w = .ok a.isNone S.w from equalIn_slice_nil 9999 S.w hu a l k 0 0]
        rfl
    split at h
    · rename_i E b hu hb
      cases h
      exact ⟨_, (key b E hb hu).1, by simp [VRel]⟩
    · rename_i E b hu hb
      cases h
      exact ⟨_, (key b E hb hu).2, by simp [VRel]⟩
    · cases h
  · cases h
def unA (op : UnOp) (x : AV) : Option AV :=
 match op, x with
 | .not, .lit (.bool b) => some (.lit (.bool !b))
 | .neg, .lit (.int k n) => some (.lit (.int k (k.wrap (0 - n))))
 | _, _ => none
theorem unA_sound {S : Sit} {op : UnOp} {x v : AV} {c : Value} (h : unA op x = some v) (hx : VRel S x c) : ∃ r, (Op.unary op c).run P S.w = .ok r S.w ∧ VRel S v r := by
 unfold unA at h
 split at h
 ·cases h; simp only [VRel] at hx; subst hx; exact ⟨_, rfl, by simp [VRel]⟩
 ·cases h; simp only [VRel] at hx; subst hx; exact ⟨_, rfl, by simp [VRel]⟩
 ·cases h
def bytesOf : List AV → Option (List UInt8)
 | [] => some []
 | .lit (.int .u8 n) :: r => (bytesOf r).map fun l => UInt8.ofNat n.toNat :: l
 | _ => none
def convA (P : Program) (H : List Blk) (src dst : TypeId) (x : AV) : Option AV :=
 match P.underlying dst, x with
 | some (.int k), .lit (.int _ n) => some (.lit (.int k (k.wrap n)))
 | some .string, x =>
  match P.underlying src with
  | some (.slice e) => match P.underlying e, srcCells H 1 x with
   | some (.int .u8), some (_, cells) => (match x with | .lit (.string _) => none | _ => (bytesOf cells).map fun l => .lit (.string ⟨l.toArray⟩))
   | _, _ => none
  | _ => none
 | _, _ => none
theorem convA_int {S : Sit} {src dst : TypeId} {x v : AV} {c : Value} {k : IntKind} (hd : P.underlying dst = some (.int k)) {d0 : TypeDesc} (hs : P.underlying src = some d0)
  (h : convA P S.H src dst x = some v) (hx : VRel S x c) : ∃ r, (convert src dst c).run P S.w = .ok r S.w ∧ VRel S v r := by
 unfold convA at h
 rw [hd] at h
 split at h
 ·rename_i k' k'' n hk
  cases hk; cases h
  simp only [VRel] at hx; subst hx
  refine ⟨.int k (k.wrap n), ?_, by simp [VRel]⟩
  unfold convert
  rw [Sem.run_bind, run_underlying hs]
  simp only [Result.andThen_ok]
  rw [Sem.run_bind, run_underlying hd]
  rfl
 ·rename_i hk; cases hk
 ·cases h
def partA (P : Program) (t : TypeId) (cells : List AV) (off : Nat) : Option AV :=
 match tagg P t, tsz P t with
 | some true, some n => some (.agg ((cells.drop off).take n))
 | some false, _ => cells[off]?
 | _, _ => none
theorem partA_sound {S : Sit} {t : TypeId} {cells : List AV} {off : Nat} {v : AV} {C : Array Value} (h : partA P t cells off = some v) (hc : VRels S cells C.toList) :
  ∃ c, (part t C off).run P S.w = .ok c S.w ∧ VRel S v c := by
 unfold partA at h
 split at h
 ·rename_i n ha hs
  cases h
  refine ⟨.agg (C.extract off (off + n)), ?_, ?_⟩
  ·unfold part
   rw [Sem.run_bind, run_tagg ha]
   simp only [Result.andThen_ok, if_true]
   rw [Sem.run_bind, run_tsz hs]
   rfl
  ·simp only [VRel]
   refine ⟨_, rfl, ?_⟩
   have := (hc.drop off).take n
   simpa [List.extract_eq_take_drop] using this
 ·rename_i ha
  obtain ⟨c, hc1, hr⟩ := hc.get h
  refine ⟨c, ?_, hr⟩
  unfold part
  rw [Sem.run_bind, run_tagg ha]
  simp only [Result.andThen_ok, Bool.false_eq_true, if_false]
  have : C[off]? = some c := by simpa using hc1
  simp only [this]
  rfl
 ·cases h
def aggCells : AV → Option (List AV)
 | .agg cells => some cells
 | .lit (.agg C) => some (C.toList.map .lit)
 | _ => none
theorem aggCells_sound {S : Sit} {x : AV} {c : Value} {cells : List AV} (h : aggCells x = some cells) (hx : VRel S x c) : ∃ C, c = .agg C ∧ VRels S cells C.toList := by
 unfold aggCells at h
 split at h
 ·cases h; simpa only [VRel] using hx
 ·cases h; simp only [VRel] at hx; subst hx; exact ⟨_, rfl, VRels.map_lit _⟩
 ·cases h
def eqFieldsA (P : Program) (xs ys : List AV) : List Field → Option Bool
  | [] => some true
  | f :: fs => if f.name ≠ "_" then
      match P.underlying f.type, partA P f.type xs f.offset, partA P f.type ys f.offset with
      | some (.int _), some (.lit (.int k a)), some (.lit (.int k' b)) => if k = k' then (if a == b then eqFieldsA P xs ys fs else some false) else none
      | _, _, _ => none
    else eqFieldsA P xs ys fs
theorem eqFieldsA_sound {S : Sit} {xs ys : List AV} {C D : Array Value} (hx : VRels S xs C.toList) (hy : VRels S ys D.toList) (d : Nat) : ∀ {fs : List Field} {b : Bool}, eqFieldsA P xs ys fs = some b →
  (Op.eqFields (d + 1) C D fs).run P S.w = .ok b S.w
 | [], b, h => by simp only [eqFieldsA, Option.some.injEq] at h; subst h; rfl
 | f :: fs, b, h => by
  simp only [eqFieldsA] at h
  unfold Op.eqFields
  split at h
  ·rename_i hn
   rw [if_pos hn]
   split at h
   ·rename_i k0 k a k' b' hu h1 h2
    split at h
    ·rename_i hk
     subst hk
     obtain ⟨c1, r1, v1⟩ := partA_sound (P := P) h1 hx
     obtain ⟨c2, r2, v2⟩ := partA_sound (P := P) h2 hy
     simp only [VRel] at v1 v2; subst v1 v2
     rw [Sem.run_bind, r1]
     simp only [Result.andThen_ok]
     rw [Sem.run_bind, r2]
     simp only [Result.andThen_ok]
     rw [Sem.run_bind, run_equalIn_int S.w d f.type k k0 a b' hu]
     simp only [Result.andThen_ok]
     split at h
     ·rename_i hab
      rw [hab]
      exact eqFieldsA_sound hx hy d h
     ·rename_i hab
      cases h
      have : (a == b') = false := by simpa using hab
      rw [this]
      rfl
    ·cases h
   ·cases h
  ·rename_i hn
   rw [if_neg hn]
   exact eqFieldsA_sound hx hy d h
def structEq (P : Program) (t : TypeId) (x y : AV) : Option Bool :=
 match P.underlying t, aggCells x, aggCells y with
 | some (.struct fs), some xs, some ys => if P.stoodInHeld t = false ∧ P.eqGuardType P.depth t = false then eqFieldsA P xs ys fs.toList else none
 | _, _, _ => none
theorem structEq_sound {S : Sit} {t : TypeId} {x y : AV} {b : Bool} {c d : Value} {ox oy : Operand} (h : structEq P t x y = some b) (hx : VRel S x c) (hy : VRel S y d) :
  (do eqGuard .eql t ox oy c d; binOp .eql t c d : Sem Value).run P S.w = .ok (.bool b) S.w ∧ (do eqGuard .neq t ox oy c d; binOp .neq t c d : Sem Value).run P S.w = .ok (.bool !b) S.w := by
 unfold structEq at h
 split at h
 ·rename_i fs xs ys hu hcx hcy
  split at h
  ·rename_i hg
   obtain ⟨C, rfl, hC⟩ := aggCells_sound hcx hx
   obtain ⟨D, rfl, hD⟩ := aggCells_sound hcy hy
   have hf : P.fieldsOf t = fs := by unfold Program.fieldsOf; rw [hu]
   have he : (Op.equalIn 10000 t (.agg C) (.agg D)).run P S.w = .ok b S.w := by
    rw [run_equalIn_agg S.w 9999 t C D (by rw [hf]; exact hu) hg.1, hf]
    exact eqFieldsA_sound hC hD 9998 h
   constructor
   ·rw [Sem.run_bind, run_eqGuard_agg S.w .eql t ox oy C D hg.2]
    simp only [Result.andThen_ok]
    rw [run_eql_struct, he]
    rfl
   ·rw [Sem.run_bind, run_eqGuard_agg S.w .neq t ox oy C D hg.2]
    simp only [Result.andThen_ok]
    rw [run_neq_struct, he]
    rfl
  ·cases h
 ·cases h
def nilEq (P : Program) (t : TypeId) (x y : AV) : Option Bool :=
 match P.underlying t with
 | some (.interface ms) => match x, y with
  | .lit .nilIface, .lit .nilIface => if ms.isEmpty = true then some true else none
  | .iface _ _, .lit .nilIface => some false
  | _, _ => none
 | some (.pointer _) => match x, y with
  | .ptr _ _, .lit (.pointer none) => some false
  | .lit (.pointer none), .lit (.pointer none) => some true
  | _, _ => none
 | _ => none
omit [Outer] in
theorem equalIn_ptr {t e : TypeId} (hu : P.underlying t = some (.pointer e)) (d : Nat) (w : World) (a : Option Addr) : (Op.equalIn (d + 1) t (.pointer a) (.pointer none)).run P w = .ok a.isNone w := by
 cases a <;> simp [Op.equalIn, run_underlying hu]
omit [Outer] in
theorem equalIn_nilI {t : TypeId} {ms : Array (String × TypeId)} (hu : P.underlying t = some (.interface ms)) (d : Nat) (w : World) : (Op.equalIn (d + 1) t .nilIface .nilIface).run P w = .ok true w := by
 simp [Op.equalIn, run_underlying hu]
omit [Outer] in
theorem equalIn_someI {t t' : TypeId} {z : Value} {ms : Array (String × TypeId)} (hu : P.underlying t = some (.interface ms)) (d : Nat) (w : World) : (Op.equalIn (d + 1) t (.iface t' z) .nilIface).run P w = .ok false w := by
 simp [Op.equalIn, run_underlying hu]
omit [Outer] in
theorem eqGuardIn_nilI {t : TypeId} {ms : Array (String × TypeId)} (hu : P.underlying t = some (.interface ms)) (hms : ms.isEmpty = true) (d : Nat) (w : World) : (Op.eqGuardIn (d + 1) t .nilIface .nilIface).run P w = .ok false w := by
 simp [Op.eqGuardIn, run_underlying hu, hms]
omit [Outer] in
theorem eqGuard_nilI {t : TypeId} {ms : Array (String × TypeId)} (hu : P.underlying t = some (.interface ms)) (hms : ms.isEmpty = true) {op : BinOp} (ox oy : Operand) (w : World) : (eqGuard op t ox oy .nilIface .nilIface).run P w = .ok () w := by
 have key : ∀ (b : Bool) (u : Unsupported), (if b = true then pure () else (do if ← Op.eqGuardIn Op.maxDepth t .nilIface .nilIface then unsupported u) : Sem Unit).run P w = .ok () w := by
  intro b u
  cases b with
  | true => rfl
  | false =>
   rw [if_neg (by decide), Sem.run_bind, show (Op.eqGuardIn Op.maxDepth t .nilIface .nilIface).run P w = .ok false w from eqGuardIn_nilI hu hms 9999 w]
   rfl
 cases op <;> first | rfl | exact key _ _
theorem nilEq_sound {S : Sit} {t : TypeId} {ox oy : Operand} {x y : AV} {c d : Value} {b : Bool} (h : nilEq P t x y = some b) (hx : VRel S x c) (hy : VRel S y d) :
    (do eqGuard .eql t ox oy c d; binOp .eql t c d : Sem Value).run P S.w = .ok (.bool b) S.w ∧ (do eqGuard .neq t ox oy c d; binOp .neq t c d : Sem Value).run P S.w = .ok (.bool !b) S.w := by
  have ptr : ∀ (e : TypeId) (a : Option Addr), P.underlying t = some (.pointer e) → (do eqGuard .eql t ox oy (.pointer a) (.pointer none); binOp .eql t (.pointer a) (.pointer none) : Sem Value).run P S.w = .ok (.bool a.isNone) S.w ∧
      (do eqGuard .neq t ox oy (.pointer a) (.pointer none); binOp .neq t (.pointer a) (.pointer none) : Sem Value).run P S.w = .ok (.bool !a.isNone) S.w := by
    intro e a hu
    have heq : (Op.equal t (.pointer a) (.pointer none)).run P S.w = .ok a.isNone S.w := equalIn_ptr hu 9999 S.w a
    constructor
    · rw [Sem.run_bind, eqGuard_plain ⟨fun C e => (by cases e), fun e => (by cases e)⟩]
      simp only [Result.andThen_ok, binOp]
      rw [Sem.run_bind, heq]
      rfl
    · rw [Sem.run_bind, eqGuard_plain ⟨fun C e => (by cases e), fun e => (by cases e)⟩]
      simp only [Result.andThen_ok, binOp]
      rw [Sem.run_bind, heq]
      rfl
  unfold nilEq at h
  split at h
  case h_3 => cases h
  case h_2 e hu =>
    split at h
    · cases h
      simp only [VRel] at hx hy
      obtain ⟨b, wm, _, _, rfl⟩ := hx
      subst hy
      exact ptr e _ hu
    · cases h
      simp only [VRel] at hx hy; subst hx hy
      exact ptr e none hu
    · cases h
  rename_i ms hu
  split at h
  · split at h
    case isFalse => cases h
    rename_i hms
    cases h
    simp only [VRel] at hx hy; subst hx hy
    have heq : (Op.equal t .nilIface .nilIface).run P S.w = .ok true S.w := equalIn_nilI hu 9999 S.w
    have hg : ∀ op, (eqGuard op t ox oy .nilIface .nilIface).run P S.w = .ok () S.w := fun op => eqGuard_nilI hu hms ox oy S.w
    constructor
    · rw [Sem.run_bind, hg]
      simp only [Result.andThen_ok, binOp]
      rw [Sem.run_bind, heq]
      rfl
    · rw [Sem.run_bind, hg]
      simp only [Result.andThen_ok, binOp]
      rw [Sem.run_bind, heq]
      rfl
  · cases h
    simp only [VRel] at hx hy; subst hy
    obtain ⟨z, rfl, _⟩ := hx
    have heq : ∀ k, (Op.equal t (.iface k z) .nilIface).run P S.w = .ok false S.w := fun _ => equalIn_someI hu 9999 S.w
    constructor
    · rw [Sem.run_bind, eqGuard_plain ⟨fun C e => (by cases e), fun e => (by cases e)⟩]
      simp only [Result.andThen_ok, binOp]
      rw [Sem.run_bind, heq]
      rfl
    · rw [Sem.run_bind, eqGuard_plain ⟨fun C e => (by cases e), fun e => (by cases e)⟩]
      simp only [Result.andThen_ok, binOp]
      rw [Sem.run_bind, heq]
      rfl
  · cases h
def binB (P : Program) (op : BinOp) (t : TypeId) (x y : AV) : Option AV :=
 match binA P op t x y with
 | some v => some v
 | none => match op, structEq P t x y with
  | .eql, some b => some (.lit (.bool b))
  | .neq, some b => some (.lit (.bool !b))
  | .eql, none => (nilEq P t x y).map fun b => .lit (.bool b)
  | .neq, none => (nilEq P t x y).map fun b => .lit (.bool !b)
  | _, _ => none
theorem binB_sound {S : Sit} {op : BinOp} {t : TypeId} {ox oy : Operand} {x y v : AV} {c d : Value} (h : binB P op t x y = some v) (hx : VRel S x c) (hy : VRel S y d) :
  ∃ r, (do eqGuard op t ox oy c d; binOp op t c d : Sem Value).run P S.w = .ok r S.w ∧ VRel S v r := by
 unfold binB at h
 split at h
 ·rename_i u hu
  cases h
  exact binA_sound hu hx hy
 ·split at h
  ·rename_i hb _
   cases h
   exact ⟨_, (structEq_sound hb hx hy).1, by simp [VRel]⟩
  ·rename_i hb _
   cases h
   exact ⟨_, (structEq_sound hb hx hy).2, by simp [VRel]⟩
  ·obtain ⟨b, hb, rfl⟩ := map_some h
   exact ⟨_, (nilEq_sound hb hx hy).1, by simp [VRel]⟩
  ·obtain ⟨b, hb, rfl⟩ := map_some h
   exact ⟨_, (nilEq_sound hb hx hy).2, by simp [VRel]⟩
  ·cases h
def fieldA (P : Program) (t : TypeId) (x : AV) (i : Nat) : Option AV :=
 match tfield P t i, aggCells x with
 | some f, some cells => partA P f.type cells f.offset
 | _, _ => none
theorem fieldA_sound {S : Sit} {t : TypeId} {x v : AV} {i : Nat} {c : Value} (h : fieldA P t x i = some v) (hx : VRel S x c) :
  ∃ d, (Instr.field t c i).run P S.w = .ok d S.w ∧ VRel S v d := by
 unfold fieldA at h
 split at h
 ·rename_i f cells hf hc
  obtain ⟨fs, hu, hi⟩ := tfield_eq hf
  obtain ⟨C, rfl, hr⟩ := aggCells_sound hc hx
  obtain ⟨d, hd, hv⟩ := partA_sound h hr
  refine ⟨d, ?_, hv⟩
  unfold Instr.field
  rw [Sem.run_bind, run_underlying hu]
  simp only [Result.andThen_ok, hi]
  exact hd
 ·cases h
def indexA (P : Program) (t : TypeId) (x ix : AV) : Option AV :=
 match ix with
 | .lit (.int _ i) =>
  match P.underlying t, x with
  | some (.array len elem), x => match tsz P elem, aggCells x with
   | some n, some cells => if 0 ≤ i ∧ i < len then partA P elem cells (i.toNat * n) else none
   | _, _ => none
  | some .string, .lit (.string s) => if 0 ≤ i then (s[i.toNat]?).map fun b => .lit (.int .u8 b.toNat) else none
  | _, _ => none
 | _ => none
theorem indexA_sound {S : Sit} {t : TypeId} {x ix v : AV} {c ci : Value} (h : indexA P t x ix = some v) (hx : VRel S x c) (hi : VRel S ix ci) :
  ∃ d, (Instr.index t c ci).run P S.w = .ok d S.w ∧ VRel S v d := by
 unfold indexA at h
 split at h
 case h_2 => cases h
 rename_i k i
 simp only [VRel] at hi; subst hi
 split at h
 ·rename_i len elem hu
  split at h
  ·rename_i n cells hs hc
   split at h
   ·rename_i hb
    obtain ⟨C, rfl, hr⟩ := aggCells_sound hc hx
    obtain ⟨d, hd, hv⟩ := partA_sound h hr
    refine ⟨d, ?_, hv⟩
    unfold Instr.index
    rw [Sem.run_bind]
    simp only [asIntOf, Sem.run_pure, Result.andThen_ok]
    rw [Sem.run_bind, run_underlying hu]
    simp only [Result.andThen_ok, if_pos hb]
    rw [Sem.run_bind, run_tsz hs]
    exact hd
   ·cases h
  ·cases h
 ·rename_i s hu
  simp only [VRel] at hx; subst hx
  split at h
  ·rename_i hb
   cases hg : s[i.toNat]? with
   | none => simp [hg] at h
   | some b =>
    simp only [hg, Option.map_some, Option.some.injEq] at h
    subst h
    refine ⟨.int .u8 b.toNat, ?_, by simp only [VRel]⟩
    unfold Instr.index
    rw [Sem.run_bind]
    simp only [asIntOf, Sem.run_pure, Result.andThen_ok]
    rw [Sem.run_bind, run_underlying hu]
    simp only [Result.andThen_ok, if_pos hb, hg]
    rfl
  ·cases h
 ·cases h
def numsOf : List AV → Option (List Int)
 | [] => some []
 | .lit (.int .u8 n) :: r => (numsOf r).map fun l => n :: l
 | _ => none
theorem numsOf_sound {S : Sit} : ∀ {as : List AV} {ns : List Int} {cs : List Value}, numsOf as = some ns → VRels S as cs → cs = ns.map (Value.int .u8)
 | [], ns, [], h, _ => by simp only [numsOf, Option.some.injEq] at h; subst h; rfl
 | [], _, _ :: _, _, x => by simp [VRels] at x
 | a :: as, ns, [], _, x => by simp [VRels] at x
 | a :: as, ns, c :: cs, h, x => by
  unfold numsOf at h
  split at h
  ·rename_i heq; cases heq
  ·rename_i n r heq
   cases heq
   obtain ⟨l, hl, rfl⟩ := map_some h
   simp only [VRels, VRel] at x
   rw [x.1, numsOf_sound hl x.2]
   rfl
  ·cases h
def strOf (ns : List Int) : ByteArray := ns.foldl (fun r n => r.push (UInt8.ofNat n.toNat)) ByteArray.empty
def laidSl : AV → Bool
 | .sl .. | .hsl .. | .msl .. => true
 | _ => false
def bytesA (P : Program) (H : List Blk) (src : TypeId) (x : AV) : Option AV :=
  match P.underlying src with
  | some (.slice e) => match P.underlying e with
    | some (.int .u8) => if laidSl x then match srcCells H 1 x with
        | some (_, cells) => (numsOf cells).map fun ns => .lit (.string (strOf ns))
        | none => none
      else none
    | _ => none
  | _ => none
theorem bytesA_sound {S : Sit} (hR : Rel S) {src dst : TypeId} {x v : AV} {c : Value} (hd : P.underlying dst = some .string) (h : bytesA P S.H src x = some v) (hx : VRel S x c) :
  ∃ r, (convert src dst c).run P S.w = .ok r S.w ∧ VRel S v r := by
 unfold bytesA at h
 split at h
 case h_2 => cases h
 rename_i e hs
 split at h
 case h_2 => cases h
 rename_i he
 split at h
 case isFalse => cases h
 rename_i hla
 split at h
 case h_2 => cases h
 rename_i n cells hc
 obtain ⟨ns, hns, rfl⟩ := map_some h
 obtain ⟨hl, hlen, C, hf, hC⟩ := srcCells_sound (P := P) hR hc hx
 have hcs := numsOf_sound hns hC
 have hsl : ∃ base len cap, c = .slice base len cap := by
  cases x <;> first | (cases hla; done) | skip
  ·simp only [VRel] at hx; obtain ⟨b, k, rfl, _⟩ := hx; exact ⟨_, _, _, rfl⟩
  ·simp only [VRel] at hx; obtain ⟨b, wm, _, _, rfl⟩ := hx; exact ⟨_, _, _, rfl⟩
  ·simp only [VRel] at hx; obtain ⟨b, k, rfl, _⟩ := hx; exact ⟨_, _, _, rfl⟩
 obtain ⟨base, len, cap, rfl⟩ := hsl
 have hln : len = n := by
  have := hlen
  simp only [Builtin.lenOf, Sem.run_pure, Result.ok.injEq] at this
  exact this.1
 subst hln
 refine ⟨.string (strOf ns), ?_, by simp [VRel]⟩
 rw [run_convert_bytes_string S.w src dst e base len cap hs he hd]
 have hf' := hf S.w rfl
 cases base with
 | none =>
  have hC0 : C = #[] := by
   have : (Builtin.firstCells 1 len (.slice none len cap)).run P S.w = .ok #[] S.w := rfl
   rw [this] at hf'
   simpa using hf'.symm
  subst hC0
  have : ns = [] := by
   cases ns with
   | nil => rfl
   | cons a b => simp at hcs
  subst this
  rfl
 | some a =>
  refine run_bytesToString S.w a len cap ns ?_
  simp only [Builtin.firstCells, Nat.mul_one] at hf'
  rw [hf']
  congr 1
  rw [← hcs]
def convB (P : Program) (H : List Blk) (src dst : TypeId) (x : AV) : Option AV :=
 match P.underlying src, P.underlying dst with
 | some _, some (.int _) => convA P H src dst x
 | some _, some .string => bytesA P H src x
 | _, _ => none
theorem convB_sound {S : Sit} (hR : Rel S) {src dst : TypeId} {x v : AV} {c : Value} (h : convB P S.H src dst x = some v) (hx : VRel S x c) :
  ∃ r, (convert src dst c).run P S.w = .ok r S.w ∧ VRel S v r := by
 unfold convB at h
 split at h
 ·rename_i d k hs hd; exact convA_int hd hs h hx
 ·rename_i d hs hd; exact bytesA_sound hR hd h hx
 ·cases h
end Go.Vm

namespace Go.Vm
variable [Outer]
variable {P : Program}
def natOf : Option AV → Option (Option Nat)
 | none => some none
 | some (.lit (.int _ i)) => if 0 ≤ i then some (some i.toNat) else none
 | _ => none
theorem natOf_sound {S : Sit} {x : Option AV} {c : Option Value} {n : Option Nat} (h : natOf x = some n) (hx : match x, c with | none, none => True | some x, some c => VRel S x c | _, _ => False) :
  match c, n with | none, none => True | some c, some n => ∃ k, c = .int k n | _, _ => False := by
 cases x with
 | none => simp only [natOf, Option.some.injEq] at h; subst h; cases c <;> simp_all
 | some x =>
  cases c with
  | none => simp at hx
  | some c =>
   simp only at hx
   cases x with
   | lit v =>
    simp only [VRel] at hx; subst hx
    cases c with
    | int k i =>
     simp only [natOf] at h
     split at h
     ·rename_i hi; cases h; exact ⟨k, by rw [Int.toNat_of_nonneg hi]⟩
     ·cases h
    | _ => simp [natOf] at h
   | _ => simp [natOf] at h
def sliceA (P : Program) (t : TypeId) (x : AV) (lo hi mx : Option Nat) : Option AV :=
  match P.underlying t, x with
  | some .string, .lit (.string s) =>
    if mx.isNone = true ∧ lo.getD 0 ≤ hi.getD s.size ∧ hi.getD s.size ≤ s.size then some (.lit (.string (s.extract (lo.getD 0) (hi.getD s.size)))) else none
  | some (.slice e), .lit (.slice none 0 0) =>
    match tsz P e with
    | some _ => if lo.getD 0 = 0 ∧ hi.getD 0 = 0 ∧ mx.getD 0 = 0 ∧ (mx.isSome = true → hi.isSome = true) then some (.lit (.slice none 0 0)) else none
    | none => none
  | some (.slice e), .sl len cells tail =>
    match tsz P e with
    | some n =>
      if lo.getD 0 ≤ hi.getD len ∧ hi.getD len ≤ mx.getD len ∧ mx.getD len ≤ len ∧ (mx.isSome = true → hi.isSome = true) ∧ cells.length = len * n ∧ 0 < n then
        some (.sl (hi.getD len - lo.getD 0) ((cells.drop (lo.getD 0 * n)).take ((hi.getD len - lo.getD 0) * n))
          (if mx.isSome = true then (if hi.getD len = mx.getD len then .full else .unk)
           else if hi.getD len = len then (match tail with | .own id g sz => if sz = n then .own id g n else .unk | t => t) else .unk))
      else none
    | none => none
  | some (.slice e), .hsl id off len cap =>
    match tsz P e with
    | some n =>
      if mx.isNone = true ∧ lo.getD 0 ≤ hi.getD len ∧ hi.getD len ≤ len ∧ len ≤ cap ∧ lo.getD 0 < cap then some (.hsl id (off + lo.getD 0 * n) (hi.getD len - lo.getD 0) (cap - lo.getD 0)) else none
    | none => none
  | some (.slice e), .msl id g len sz =>
    match tsz P e with
    | some n =>
      if mx.isNone = true ∧ lo.getD 0 = 0 ∧ hi.getD len ≤ len ∧ sz = n then some (.msl id g (hi.getD len) sz) else none
    | none => none
  | some (.array k e), .ptr id off =>
    match tsz P e with
    | some n => if mx.isNone = true ∧ lo.getD 0 ≤ hi.getD k ∧ hi.getD k ≤ k ∧ lo.getD 0 < k then some (.hsl id (off + lo.getD 0 * n) (hi.getD k - lo.getD 0) (k - lo.getD 0)) else none
    | none => none
  | _, _ => none
omit [Outer] in
theorem run_sliceBound {w : World} {k : IntKind} {n y : Nat} {code : BoundsCode} (h : n ≤ y) : (Instr.sliceBound (.int k n) y code).run P w = .ok n w := by
 unfold Instr.sliceBound
 rw [Sem.run_bind]
 simp only [asIntOf, Sem.run_pure, Result.andThen_ok]
 rw [if_pos (by omega)]
 simp
omit [Outer] in
theorem run_sliceBounds {w : World} {isSl : Bool} {len cap : Nat} {lo hi mx : Option Nat} {clo chi cmx : Option Value}
  (h1 : match clo, lo with | none, none => True | some c, some n => ∃ k, c = Value.int k n | _, _ => False)
  (h2 : match chi, hi with | none, none => True | some c, some n => ∃ k, c = Value.int k n | _, _ => False)
  (h3 : match cmx, mx with | none, none => True | some c, some n => ∃ k, c = Value.int k n | _, _ => False)
  (hm : mx.getD cap ≤ cap) (hh : hi.getD len ≤ mx.getD cap) (hl : lo.getD 0 ≤ hi.getD len) (hx : mx.isSome = true → hi.isSome = true) :
  (Instr.sliceBounds isSl len cap clo chi cmx).run P w = .ok (lo.getD 0, hi.getD len, mx.getD cap) w := by
 unfold Instr.sliceBounds
 cases clo <;> cases lo <;> simp only at h1 <;> first
  | exact h1.elim
  | skip
 all_goals
  cases chi <;> cases hi <;> simp only at h2 <;> first
   | exact h2.elim
   | skip
 all_goals
  cases cmx <;> cases mx <;> simp only at h3 <;> first
   | exact h3.elim
   | skip
 all_goals
  simp only [Option.getD_none, Option.getD_some, Option.isSome_some, Option.isSome_none, forall_const, Bool.false_eq_true, false_implies] at hm hh hl hx ⊢
 all_goals
  (try obtain ⟨k1, rfl⟩ := h1)
  (try obtain ⟨k2, rfl⟩ := h2)
  (try obtain ⟨k3, rfl⟩ := h3)
  first
   | (simp [run_sliceBound hm, run_sliceBound hh, run_sliceBound hl]; done)
   | (simp at hx; done)
theorem sliceA_sound {S : Sit} {t : TypeId} {x v : AV} {c : Value} {lo hi mx : Option Nat} {clo chi cmx : Option Value}
  (h1 : match clo, lo with | none, none => True | some c, some n => ∃ k, c = Value.int k n | _, _ => False)
  (h2 : match chi, hi with | none, none => True | some c, some n => ∃ k, c = Value.int k n | _, _ => False)
  (h3 : match cmx, mx with | none, none => True | some c, some n => ∃ k, c = Value.int k n | _, _ => False)
  (h : sliceA P t x lo hi mx = some v) (hx : VRel S x c) : ∃ r, (Instr.sliceAt t c clo chi cmx).run P S.w = .ok r S.w ∧ VRel S v r := by
 unfold sliceA at h
 split at h
 ·rename_i s hu
  split at h
  ·rename_i hg
   cases h
   simp only [VRel] at hx; subst hx
   have hmx : mx = none := by simpa using hg.1
   subst hmx
   have hcm : cmx = none := by cases cmx <;> simp_all
   subst hcm
   refine ⟨_, ?_, by simp only [VRel]; rfl⟩
   unfold Instr.sliceAt
   rw [Sem.run_bind, run_underlying hu]
   simp only [Result.andThen_ok]
   unfold Instr.slice
   rw [Sem.run_bind, run_underlying hu]
   simp only [Result.andThen_ok, Option.isSome_none, Bool.false_eq_true, if_false]
   rw [Sem.run_bind, run_sliceBounds (mx := none) (cmx := none) h1 h2 trivial (by simp) (by simpa using hg.2.2) (by simpa using hg.2.1) (by simp)]
   rfl
  ·cases h
 ·rename_i e hu
  split at h
  ·rename_i n hs
   split at h
   ·rename_i hg
    cases h
    simp only [VRel] at hx; subst hx
    obtain ⟨g1, g2, g3, g4⟩ := hg
    refine ⟨.slice none 0 0, ?_, by simp only [VRel]⟩
    unfold Instr.sliceAt
    rw [Sem.run_bind, run_underlying hu]
    simp only [Result.andThen_ok]
    unfold Instr.slice
    rw [Sem.run_bind, run_underlying hu]
    simp only [Result.andThen_ok]
    rw [Sem.run_bind, run_sliceBounds h1 h2 h3 (by omega) (by omega) (by omega) g4]
    simp only [Result.andThen_ok]
    rw [Sem.run_bind, run_tsz hs]
    simp [g1, g2, g3]
   ·cases h
  ·cases h
 ·rename_i e len cells tail hu
  split at h
  ·rename_i n hs
   split at h
   ·rename_i hg
    cases h
    obtain ⟨g1, g2, g3, g4, g5, g6⟩ := hg
    simp only [VRel] at hx
    obtain ⟨base, cap, rfl, hle, hc, ht⟩ := hx
    have hm : mx.getD cap ≤ cap := by cases mx <;> simp_all; omega
    have hh : hi.getD len ≤ mx.getD cap := by cases mx <;> simp_all; omega
    generalize hL : lo.getD 0 = l at *
    generalize hHh : hi.getD len = hh' at *
    have hmul : l * n + (hh' - l) * n = hh' * n := by rw [← Nat.add_mul]; congr 1; omega
    have hmul2 : hh' * n ≤ len * n := Nat.mul_le_mul_right _ (by omega)
    refine ⟨.slice (if mx.getD cap = l then base else base.map fun a => a.add (l * n)) (hh' - l) (mx.getD cap - l), ?_, ?_⟩
    ·unfold Instr.sliceAt
     rw [Sem.run_bind, run_underlying hu]
     simp only [Result.andThen_ok]
     unfold Instr.slice
     rw [Sem.run_bind, run_underlying hu]
     simp only [Result.andThen_ok]
     rw [Sem.run_bind, run_sliceBounds h1 h2 h3 hm (by rw [hHh]; exact hh) (by rw [hL, hHh]; exact g1) g4]
     simp only [Result.andThen_ok, hL, hHh]
     rw [Sem.run_bind, run_tsz hs]
     rfl
    ·simp only [VRel]
     refine ⟨_, _, rfl, by omega, ?_, ?_⟩
     ·by_cases hlh : l < hh'
      ·rcases hc with hc | ⟨b, o, rfl, hf, hr⟩
       ·subst hc
        have : 0 < len * n := Nat.mul_pos (by omega) g6
        simp at g5; omega
       ·refine .inr ⟨b, o + l * n, ?_, hf.mono (by simp; omega), VRow.take b _ (VRow.drop b _ hr)⟩
        rw [if_neg (by omega)]
        simp [add_addr]
      ·left
       have : hh' - l = 0 := by omega
       simp [this]
     ·split
      ·rename_i hms
       split
       ·rename_i he
        show mx.getD cap - l = hh' - l
        obtain ⟨m, rfl⟩ := Option.isSome_iff_exists.1 hms
        simp at he ⊢; omega
       ·trivial
      ·rename_i hms
       have hmn : mx = none := by simpa using hms
       subst hmn
       split
       ·rename_i he
        simp only [Option.getD_none]
        have hlen : ((cells.drop (l * n)).take ((hh' - l) * n)).length = (hh' - l) * n := by simp; omega
        cases tail with
        | unk => trivial
        | full => have : cap = len := ht; show cap - l = hh' - l; omega
        | own id g sz =>
         simp only
         split
         ·rename_i hsz
          subst hsz
          obtain ⟨hn, g0, h0, hle', hx⟩ := ht
          refine ⟨hlen, g0, h0, hle', fun hg => ?_⟩
          rcases hx hg with a | ⟨b, o, C, t', rfl, hi', hC, hcs⟩
          ·left; omega
          ·by_cases hcl : cap = l
           ·left; omega
           right
           refine ⟨b, o + l * sz, C, t', ?_, ?_, hC, ?_⟩
           ·rw [if_neg (by omega)]; simp [add_addr]
           ·rw [hlen, hi', he] at *
            have : l * sz + (len - l) * sz = len * sz := by rw [← Nat.add_mul]; congr 1; omega
            rw [show o + l * sz + (len - l) * sz = o + cells.length by omega]
           ·have : l * sz + (cap - l) * sz = cap * sz := by rw [← Nat.add_mul]; congr 1; omega
            omega
         ·trivial
       ·trivial
   ·cases h
  ·cases h
 ·rename_i e id off len cap hu
  split at h
  ·rename_i n hs
   split at h
   ·rename_i hg
    cases h
    obtain ⟨g1, g2, g3, g4, g5⟩ := hg
    have hmx : mx = none := by simpa using g1
    subst hmx
    have hcm : cmx = none := by cases cmx <;> simp_all
    subst hcm
    simp only [VRel] at hx
    obtain ⟨b, wm, hi', hn, rfl⟩ := hx
    refine ⟨_, ?_, by simp only [VRel]; exact ⟨b, wm, hi', hn, rfl⟩⟩
    unfold Instr.sliceAt
    rw [Sem.run_bind, run_underlying hu]
    simp only [Result.andThen_ok]
    unfold Instr.slice
    rw [Sem.run_bind, run_underlying hu]
    simp only [Result.andThen_ok]
    rw [Sem.run_bind, run_sliceBounds (mx := none) (cmx := none) h1 h2 trivial (by simp) (by simp; omega) g2 (by simp)]
    simp only [Result.andThen_ok, Option.getD_none]
    rw [Sem.run_bind, run_tsz hs]
    simp only [Result.andThen_ok]
    rw [if_neg (by omega)]
    simp [add_addr]
   ·cases h
  ·cases h
 ·rename_i e id g len sz hu
  split at h
  ·rename_i n hs
   split at h
   ·rename_i hg
    cases h
    obtain ⟨g1, g2, g3, rfl⟩ := hg
    have hmx : mx = none := by simpa using g1
    subst hmx
    have hcm : cmx = none := by cases cmx <;> simp_all
    subst hcm
    simp only [VRel] at hx
    obtain ⟨base, cap, rfl, hle, hm⟩ := hx
    refine ⟨.slice base (hi.getD len) cap, ?_, by simp only [VRel]; exact ⟨base, cap, rfl, by omega, hm⟩⟩
    unfold Instr.sliceAt
    rw [Sem.run_bind, run_underlying hu]
    simp only [Result.andThen_ok]
    unfold Instr.slice
    rw [Sem.run_bind, run_underlying hu]
    simp only [Result.andThen_ok]
    rw [Sem.run_bind, run_sliceBounds (mx := none) (cmx := none) h1 h2 trivial (by simp) (by simp; omega) (by omega) (by simp)]
    simp only [Result.andThen_ok, Option.getD_none, g2]
    rw [Sem.run_bind, run_tsz hs]
    simp only [Result.andThen_ok]
    rcases hm with ⟨b, rfl, _⟩ | ⟨rfl, _⟩ <;> simp [add_addr]
   ·cases h
  ·cases h
 ·rename_i k e id off hu
  split at h
  ·rename_i n hs
   split at h
   ·rename_i hg
    cases h
    obtain ⟨g1, g2, g3, g4⟩ := hg
    have hmx : mx = none := by simpa using g1
    subst hmx
    have hcm : cmx = none := by cases cmx <;> simp_all
    subst hcm
    simp only [VRel] at hx
    obtain ⟨b, wm, hi', hn, rfl⟩ := hx
    refine ⟨_, ?_, by simp only [VRel]; exact ⟨b, wm, hi', hn, rfl⟩⟩
    unfold Instr.sliceAt
    rw [Sem.run_bind, run_underlying hu]
    simp only [Result.andThen_ok]
    rw [Sem.run_bind, show (Instr.sureAddr (.pointer (some ⟨b, off, none⟩))).run P S.w = .ok ⟨b, off, none⟩ S.w from rfl]
    simp only [Result.andThen_ok]
    rw [Sem.run_bind, run_sliceBounds (mx := none) (cmx := none) h1 h2 trivial (by simp) (by simpa using g3) g2 (by simp)]
    simp only [Result.andThen_ok, Option.getD_none]
    rw [Sem.run_bind, run_tsz hs]
    simp only [Result.andThen_ok]
    rw [if_neg (by omega)]
    simp [add_addr]
   ·cases h
  ·cases h
 ·cases h
end Go.Vm
