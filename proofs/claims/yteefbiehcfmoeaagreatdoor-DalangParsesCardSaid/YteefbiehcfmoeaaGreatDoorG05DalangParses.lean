/-
  Texts of the proof, part 5: the machine, contracts of functions, plain laws. (Own work.)
-/
import Derived.Test.YteefbiehcfmoeaaGreatDoorG04DalangParses
import Derived.IntWalk

namespace Go.Vm
variable [Outer]
variable {P : Program}
omit [Outer] in
theorem run_callFunc {f : FuncId} (h : callable P f = true) (args : Array Value) (w : World) : (callFunc f args).run P w = .ok (.enter f args) w := by
 unfold callable at h
 unfold callFunc
 rw [Sem.run_bind]
 simp only [run_program, Result.andThen_ok]
 cases hf : P.funcs[f]? with
 | none => simp [hf] at h
 | some fn =>
  simp only [hf, Bool.and_eq_true, bne_iff_ne, ne_eq] at h
  simp only []
  rw [if_neg (by simpa using h.2), if_neg (by have := h.1; cases hb : fn.body <;> simp_all)]
  rfl
def aevs (ρ : Operand → Option AV) : List Operand → Option (List AV)
 | [] => some []
 | x :: xs => match ρ x, aevs ρ xs with
  | some a, some as => some (a :: as)
  | _, _ => none
def apairs (ρ : Operand → Option AV) : List (Nat × Operand) → Option (List (Nat × AV))
 | [] => some []
 | (i, x) :: xs => match ρ x, apairs ρ xs with
  | some a, some as => some ((i, a) :: as)
  | _, _ => none
section
variable {S : Sit} {ρ : Operand → Option AV} {e : Operand → Value} (hρ : ∀ x v, ρ x = some v → VRel S v (e x))
include hρ
theorem aevs_sound : ∀ {xs : List Operand} {as : List AV}, aevs ρ xs = some as → VRels S as (xs.map e)
 | [], as, h => by simp only [aevs, Option.some.injEq] at h; subst h; simp [VRels]
 | x :: xs, as, h => by
  simp only [aevs] at h
  split at h
  ·rename_i a as' h1 h2
   cases h
   exact ⟨hρ x a h1, aevs_sound h2⟩
  ·cases h
theorem apairs_sound : ∀ {xs : List (Nat × Operand)} {as : List (Nat × AV)}, apairs ρ xs = some as → PRels S as (xs.map fun (i, x) => (i, e x))
 | [], as, h => by simp only [apairs, Option.some.injEq] at h; subst h; simp [PRels]
 | (i, x) :: xs, as, h => by
  simp only [apairs] at h
  split at h
  ·rename_i a as' h1 h2
   cases h
   exact ⟨rfl, hρ x a h1, apairs_sound h2⟩
  ·cases h
end
def lenA (P : Program) (H : List Blk) (t : TypeId) (x : AV) : Option Nat :=
 match P.underlying t, x with
 | some .string, .lit (.string s) => some s.size
 | some (.array n _), _ => some n
 | some (.slice _), .lit (.slice _ n _) => some n
 | some (.slice _), .sl n _ _ => some n
 | some (.slice _), .hsl _ _ n _ => some n
 | some (.slice _), .msl _ _ n _ => some n
 | some (.map _ _), .mp id => match H[id]? with
  | some (.map _ es) => some es.length
  | _ => none
 | _, _ => none
theorem lenA_sound {S : Sit} (hR : Rel S) {t : TypeId} {x : AV} {c : Value} {n : Nat} {argTypes : Array TypeId} {ty : TypeId} (ht : argTypes[0]? = some t) (h : lenA P S.H t x = some n) (hx : VRel S x c) :
  (Builtin.len_ argTypes ty #[c]).run P S.w = .ok (.int .i64 n) S.w := by
 unfold lenA at h
 have h0 : (#[c] : Array Value)[0]? = some c := rfl
 unfold Builtin.len_
 simp only [ht, h0]
 split at h
 ·rename_i s hu; cases h; simp only [VRel] at hx; subst hx
  rw [Sem.run_bind, run_underlying hu]; rfl
 ·rename_i m e hu; cases h
  rw [Sem.run_bind, run_underlying hu]; rfl
 ·rename_i e a m k hu; cases h; simp only [VRel] at hx; subst hx
  rw [Sem.run_bind, run_underlying hu]; rfl
 ·rename_i e m cells tail hu; cases h; simp only [VRel] at hx
  obtain ⟨base, cap, rfl, _⟩ := hx
  rw [Sem.run_bind, run_underlying hu]; rfl
 ·rename_i e id off m cap hu; cases h; simp only [VRel] at hx
  obtain ⟨b, wm, _, _, rfl⟩ := hx
  rw [Sem.run_bind, run_underlying hu]; rfl
 ·rename_i e id gen m sz hu; cases h; simp only [VRel] at hx
  obtain ⟨b, cap, rfl, _⟩ := hx
  rw [Sem.run_bind, run_underlying hu]; rfl
 ·rename_i k e id hu
  cases hB : S.H[id]? with
  | none => simp [hB] at h
  | some B =>
   cases B with
   | map sh es =>
    simp only [hB, Option.some.injEq] at h
    subst h
    simp only [VRel] at hx
    obtain ⟨b, wm, hi, _, rfl⟩ := hx
    obtain ⟨B, hB', hrel⟩ := hR.blk id b wm hi
    rw [hB] at hB'; cases hB'
    obtain ⟨E, clock, hE, hM⟩ := hrel
    obtain ⟨es2, hp, h1, _⟩ := hM.ents
    have hl : E.size = es.length := by
     have := congrArg List.length h1
     simp only [List.length_map, Array.length_toList] at this
     rw [this]; exact hp.length_eq
    rw [Sem.run_bind, run_underlying hu]
    simp only [Result.andThen_ok]
    rw [Sem.run_bind, show (getObj b).run P S.w = .ok (.map E clock) S.w by simp only [getObj, Sem.run, hE]]
    simp only [Result.andThen_ok, hl]
    rfl
   | _ => simp [hB] at h
 ·cases h
def fnOf : AV → Option (FuncId × List AV × List AV)
 | .lit (.func (.func f) first captured) => some (f, first.toList.map .lit, captured.toList.map .lit)
 | .fn (.func f) first captured => some (f, first, captured)
 | _ => none
theorem fnOf_sound {S : Sit} {x : AV} {c : Value} {f : FuncId} {first captured : List AV} (h : fnOf x = some (f, first, captured)) (hx : VRel S x c) :
  ∃ F C : Array Value, c = .func (.func f) F C ∧ VRels S first F.toList ∧ VRels S captured C.toList := by
 unfold fnOf at h
 split at h
 ·cases h; simp only [VRel] at hx; subst hx; exact ⟨_, _, rfl, VRels.map_lit _, VRels.map_lit _⟩
 ·cases h; simpa only [VRel] using hx
 ·cases h
def notPtr : TypeDesc → Bool
 | .pointer _ => false
 | _ => true
def methodA (P : Program) (t : TypeId) (name : String) : Option FuncId :=
 match P.info? t, P.underlying t with
 | some i, some d =>
  match i.methods.find? (·.name == name) with
  | some m => match m.func with
   | some (f, false) => if m.path.isEmpty && notPtr d then some f else none
   | _ => none
  | none => none
 | _, _ => none
omit [Outer] in
theorem methodA_sound {t : TypeId} {name : String} {f : FuncId} (h : methodA P t name = some f) (hc : callable P f = true) (v : Value) (args : Array Value) (w : World) :
  (callMethod (.iface t v) name args).run P w = .ok (.enter f (#[v] ++ args)) w := by
 unfold methodA at h
 split at h
 case h_2 => cases h
 rename_i i d hi hu
 cases hm : i.methods.find? (·.name == name) with
 | none => simp [hm] at h
 | some m =>
 simp only [hm] at h
 split at h
 case h_2 => cases h
 rename_i f' hf
 split at h
 case isFalse => cases h
 rename_i hg
 cases h
 simp only [Bool.and_eq_true] at hg
 obtain ⟨hp, hd⟩ := hg
 have hpath : m.path = #[] := by simpa using hp
 unfold callMethod
 simp only []
 rw [Sem.run_bind]
 simp only [run_program, Result.andThen_ok]
 have hfuel : ∃ n, P.types.size + Made.depth = n + 1 := ⟨P.types.size + Made.depth - 1, by unfold Made.depth; omega⟩
 obtain ⟨n, hn⟩ := hfuel
 rw [hn, Sem.run_bind]
 have hrun : (method (n + 1) t v name).run P w = .ok (f, v) w := by
  unfold method
  rw [Sem.run_bind, run_typeInfo' hi]
  simp only [Result.andThen_ok, hm, hpath, hf]
  rw [Sem.run_bind]
  simp only [follow, Sem.run_pure, Result.andThen_ok]
  rw [Sem.run_bind]
  have : (receiverAt t (.val v) false (if (#[] : Array FieldStep).isEmpty = true then some ((name.splitOn ".").getLastD name) else none)).run P w = .ok v w := by
   unfold receiverAt
   rw [Sem.run_bind, run_underlying hu]
   simp only [Result.andThen_ok]
   cases d <;> first | rfl | (simp [notPtr] at hd; done)
  rw [this]
  rfl
 rw [hrun]
 simp only [Result.andThen_ok]
 exact run_callFunc hc _ _
def addrA : AV → Option AV
 | .ptr id off => some (.ptr id off)
 | .eptr cells => some (.eptr cells)
 | .mptr id gen off => some (.mptr id gen off)
 | _ => none
theorem addrA_sound {S : Sit} {x y : AV} {c : Value} (h : addrA x = some y) (hx : VRel S x c) : y = x ∧ ∃ a, c = .pointer (some a) := by
 unfold addrA at h
 split at h
 ·cases h; simp only [VRel] at hx; obtain ⟨b, wm, _, _, rfl⟩ := hx; exact ⟨rfl, _, rfl⟩
 ·cases h; simp only [VRel] at hx; obtain ⟨b, o, rfl, _⟩ := hx; exact ⟨rfl, _, rfl⟩
 ·cases h; simp only [VRel] at hx; obtain ⟨b, o, rfl, _⟩ := hx; exact ⟨rfl, _, rfl⟩
 ·cases h
def assertA (P : Program) (a : TypeId) (x : AV) : Option AV :=
 match P.underlying a with
 | some (.interface _) | none => none
 | some _ => match x with
  | .iface t v => if t = a then some (.tup [v, .lit (.bool true)]) else (tz P a).map fun z => .tup [.lit z, .lit (.bool false)]
  | _ => none
def makeSliceA (P : Program) (t : TypeId) (l c : AV) : Option (Nat × Nat × TypeId × List AV) :=
 match tslice P t, l, c with
 | some e, .lit (.int .i64 a), .lit (.int .i64 b) =>
  match tsz P e, tz P e, tbytes P e with
  | some size, some z, some bytes =>
   if z.cells.size = size ∧ 0 < size ∧ 0 ≤ a ∧ a ≤ b ∧ b ≤ 65536 ∧ bytes ≤ 65536 then some (a.toNat, b.toNat, e, (zeros z.cells.toList b.toNat).map .lit) else none
  | _, _, _ => none
 | _, _, _ => none
theorem makeSliceA_sound {S : Sit} (hR : Rel S) {t : TypeId} {l c : AV} {cl cc : Value} {n m : Nat} {e : TypeId} {cells : List AV} (h : makeSliceA P t l c = some (n, m, e, cells)) (hl : VRel S l cl) (hc : VRel S c cc) :
  ∃ v w', (Instr.makeSlice t cl cc).run P S.w = .ok v w' ∧ Rel ⟨S.H ++ [.box cells e], upd S.ι S.H.length (some (S.w.heap.size, 0)), w'⟩ ∧
   Ev S ⟨S.H ++ [.box cells e], upd S.ι S.H.length (some (S.w.heap.size, 0)), w'⟩ ∧ v = .slice (some ⟨S.w.heap.size, 0, none⟩) n m := by
 unfold makeSliceA at h
 split at h
 case h_2 => cases h
 rename_i e' a b hsl
 split at h
 case h_2 => cases h
 rename_i size z bytes hs hz hb
 split at h
 case isFalse => cases h
 rename_i hg
 obtain ⟨hzs, hpos, h0, hab, hb1, hb2⟩ := hg
 cases h
 simp only [VRel] at hl hc
 subst hl; subst hc
 have hcells : VRels S ((zeros z.cells.toList b.toNat).map .lit) ((Array.range (b.toNat * size)).map fun i => z.cells[i % z.cells.size]!).toList := by
  have := range_zeros z.cells b.toNat (by omega)
  rw [← hzs, this]
  exact VRels.map_lit _
 obtain ⟨w', h1, h2, h3⟩ := new_box (P := P) hR e hcells
 refine ⟨_, w', ?_, h2, h3, rfl⟩
 obtain ⟨ti, hti, htib⟩ : ∃ ti, P.info? e = some ti ∧ ti.bytes = bytes := by
  unfold tbytes at hb
  exact map_some hb
 have hnb : ¬ ((bytes : Int) * b > 2 ^ 48) := by
  have h1 : (bytes : Int) * b ≤ 65536 * 65536 := Int.mul_le_mul (by omega) hb1 (by omega) (by omega)
  have h2 : (2 : Int) ^ 48 = 281474976710656 := by decide
  rw [h2]; omega
 unfold Instr.makeSlice
 rw [Sem.run_bind, run_underlying (tslice_eq hsl)]
 simp only [Result.andThen_ok]
 rw [Sem.run_bind, show (asInt (Value.int .i64 a)).run P S.w = .ok a S.w from rfl]
 simp only [Result.andThen_ok]
 rw [Sem.run_bind, show (asInt (Value.int .i64 b)).run P S.w = .ok b S.w from rfl]
 simp only [Result.andThen_ok]
 rw [Sem.run_bind, run_typeInfo' hti]
 simp only [Result.andThen_ok, htib]
 rw [IntWalk.i64_in a (by omega), IntWalk.i64_in b (by omega)]
 rw [if_neg (by
  have e1 : ¬ b < 0 := by omega
  have e3 : ¬ a < 0 := by omega
  have e4 : ¬ a > b := by omega
  simp [e1, e3, e4]
  simpa using hnb)]
 rw [Sem.run_bind, run_askRoom]
 simp only [Result.andThen_ok]
 rw [Sem.run_bind, run_tsz hs]
 simp only [Result.andThen_ok]
 by_cases hl0 : b.toNat * size = 0
 ·rw [if_pos hl0]
  rw [Sem.run_bind]
  simp only [Sem.run_pure, Result.andThen_ok]
  have e0 : ((Array.range (b.toNat * size)).map fun i => (#[] : Array Value)[i % (#[] : Array Value).size]!) = ((Array.range (b.toNat * size)).map fun i => z.cells[i % z.cells.size]!) := by rw [hl0]; simp
  rw [e0, Sem.run_bind, h1]
  rfl
 ·rw [if_neg hl0]
  rw [Sem.run_bind, run_tz hz]
  simp only [Result.andThen_ok]
  rw [Sem.run_bind, Sem.run_pure]
  simp only [Result.andThen_ok]
  rw [Sem.run_bind, h1]
  rfl
def aop (P : Program) (m : Bool) (H : List Blk) (ρ : Operand → Option AV) (o : Oper) : Option AR :=
  match o.op with
  | .move x | .assign x => (ρ x).map fun v => .val v H
  | .pick c a b => match ρ c with
    | some (.lit (.bool t)) => (if t then ρ a else ρ b).map fun v => .val v H
    | _ => none
  | .alloc t => (tz P t).map fun z => .val (.ptr H.length 0) (H ++ [.box (z.cells.toList.map .lit) t])
  | .box t x => (ρ x).map fun v => .val (.ptr H.length 0) (H ++ [.box v.cellsOf t])
  | .build t parts => (apairs ρ parts.toList).bind fun ps => (buildOp P t ps).map fun v => .val v H
  | .buildSlice t n parts => (apairs ρ parts.toList).bind fun ps => (buildSliceOp P t n ps).map fun v => .val v H
  | .load t x => (ρ x).bind fun a => (loadOp P H t a).map fun v => .val v H
  | .store t x v => match ρ x, ρ v with
    | some a, some u => (storeOp P H t a u).map fun H' => .val (.lit undef) H'
    | _, _ => none
  | .binOp op t x y _ => match ρ x, ρ y with
    | some a, some b => (binB P op t a b).map fun v => .val v H
    | _, _ => none
  | .unOp op _ x => (ρ x).bind fun a => (unA op a).map fun v => .val v H
  | .convert src dst x => (ρ x).bind fun a => (convB P H src dst a).map fun v => .val v H
  | .makeInterface t x => match P.underlying t with
    | some (.interface _) | none => none
    | some _ => (ρ x).map fun v => .val (.iface t v) H
  | .makeFunc f first captured => match aevs ρ first.toList, aevs ρ captured.toList with
    | some a, some b => some (.val (.fn f a b) H)
    | _, _ => none
  | .makeMap t none => (tmap P t).map fun p => .val (.mp H.length) (H ++ [.map p.1 []])
  | .makeSlice t l c => match ρ l, ρ c with
    | some a, some b => (makeSliceA P t a b).map fun p => .val (.hsl H.length 0 p.1 p.2.1) (H ++ [.box p.2.2.2 p.2.2.1])
    | _, _ => none
  | .nilCheck x => (ρ x).bind fun y => (addrA y).map fun v => .val v H
  | .typeAssert x _ a true => (ρ x).bind fun y => (assertA P a y).map fun v => .val v H
  | .range t x => match P.underlying t, ρ x with
    | some .string, some (.lit (.string s)) => some (.val (.ptr H.length 0) (H ++ [.iterS s 0]))
    | _, _ => none
  | .next x true => match ρ x with
    | some (.ptr id 0) => match H[id]? with
      | some (.iterS s pos) => if pos < s.size then some (.val (.tup [.lit (.bool true), .lit (goInt pos), .lit (.int .i32 (Utf8.decode s pos).1)]) (H.set id (.iterS s (pos + (Utf8.decode s pos).2))))
          else some (.val (.tup [.lit (.bool false)]) H)
      | _ => none
    | _ => none
  | .slice t x lo hi mx => match ρ x, natOf (lo.bind ρ), natOf (hi.bind ρ), natOf (mx.bind ρ) with
    | some a, some l, some h, some m => if (lo.isSome == l.isSome && hi.isSome == h.isSome && mx.isSome == m.isSome) then (sliceA P t a l h m).map fun v => .val v H else none
    | _, _, _, _ => none
  | .fieldAddr t x i => (ρ x).bind fun a => (fieldOp P t a i).map fun v => .val v H
  | .field t x i => (ρ x).bind fun a => (fieldA P t a i).map fun v => .val v H
  | .indexAddr t x i => match ρ x, ρ i with
    | some a, some b => (indexOp P t a b).map fun v => .val v H
    | _, _ => none
  | .index t x i => match ρ x, ρ i with
    | some a, some b => (indexA P t a b).map fun v => .val v H
    | _, _ => none
  | .lookup t x k ok => match ρ x, ρ k with
    | some a, some b => (lookupOp P H t a b ok).map fun v => .val v H
    | _, _ => none
  | .mapUpdate t m k x | .insert t m k x => match ρ m, ρ k, ρ x with
    | some a, some b, some c => (updateOp P H t a b c).map fun H' => .val (.lit undef) H'
    | _, _, _ => none
  | .extract t i => match ρ t with
    | some (.tup vs) => (vs[i]?).map fun v => .val v H
    | _ => none
  | .panic x => match ρ x with
    | some (.iface t v) => some (.pan (.iface t v))
    | _ => none
  | .call c =>
    match aevs ρ c.args.toList with
    | none => none
    | some args =>
      match c.callee with
      | .value f => match ρ f with
        | none => none
        | some (.yld id) => match H[id]? with
          | some (.loop l) => if args.length = l.params.size then some (.round id args) else none
          | _ => none
        | some fv => match fnOf fv with
          | some (g, first, captured) => some (.call g (first ++ args ++ captured))
          | none => none
      | .invoke r name => match ρ r with
        | some (.iface t v) => (methodA P t name).map fun f => .call f (v :: args)
        | _ => none
      | .builtin .len => match c.argTypes[0]?, args with
        | some t, [x] => (lenA P H t x).map fun (n : Nat) => .val (.lit (.int .i64 (n : Int))) H
        | _, _ => none
      | .builtin .append => match c.argTypes[0]?, c.argTypes[1]?, args with
        | some sT, some xT, [s, x] => (appA P m H sT xT s x).map fun p => .val p.1 p.2
        | _, _, _ => none
      | .builtin .max => match args with
        | [.lit (.int k a), .lit (.int _ b)] => some (.val (.lit (.int k (if b > a then b else a))) H)
        | [.lit (.int k a), .lit (.int _ b), .lit (.int _ c)] => some (.val (.lit (.int k (if c > (if b > a then b else a) then c else (if b > a then b else a)))) H)
        | _ => none
      | .builtin .min => match args with
        | [.lit (.int k a), .lit (.int _ b)] => some (.val (.lit (.int k (if b < a then b else a))) H)
        | [.lit (.int k a), .lit (.int _ b), .lit (.int _ c)] => some (.val (.lit (.int k (if c < (if b < a then b else a) then c else (if b < a then b else a)))) H)
        | _ => none
      | .builtin .delete => match c.argTypes[0]?, args with
        | some t, [x, k] => (deleteOp P H t x k).map fun H' => .val (.lit undef) H'
        | _, _ => none
      | _ => none
  | _ => none
theorem execOp_v {S : Sit} {s : Sem Value} {v : AV} {H' : List Blk} (h : ∃ c ι' w', s.run P S.w = .ok c w' ∧ Rel ⟨H', ι', w'⟩ ∧ Ev S ⟨H', ι', w'⟩ ∧ Non S ⟨H', ι', w'⟩ ∧ VRel ⟨H', ι', w'⟩ v c) :
  AR.Ok P S (.val v H') ((do pure (.value (← s)) : Sem Next).run P S.w) := by
 obtain ⟨c, ι', w', h1, h2, h3, h4, h5⟩ := h
 refine ⟨c, ι', w', .inl ?_, h2, h3, h4, h5⟩
 rw [Sem.run_bind, h1]
 rfl
theorem execOp_here {S : Sit} (hR : Rel S) {s : Sem Value} {v : AV} (h : ∃ c, s.run P S.w = .ok c S.w ∧ VRel S v c) :
  AR.Ok P S (.val v S.H) ((do pure (.value (← s)) : Sem Next).run P S.w) := by
 obtain ⟨c, h1, h2⟩ := h
 exact execOp_v ⟨c, S.ι, S.w, h1, hR, Ev.refl S, Non.refl S, h2⟩
theorem execOp_u {S : Sit} {s : Sem Unit} {H' : List Blk} (h : ∃ w', s.run P S.w = .ok () w' ∧ Rel ⟨H', S.ι, w'⟩ ∧ Ev S ⟨H', S.ι, w'⟩) :
  AR.Ok P S (.val (.lit undef) H') ((do s; pure .skip : Sem Next).run P S.w) := by
 obtain ⟨w', h1, h2, h3⟩ := h
 refine ⟨undef, S.ι, w', .inr ⟨?_, rfl⟩, h2, h3, Non.same, by simp [VRel]⟩
 rw [Sem.run_bind, h1]
 rfl
theorem natOf_rel {S : Sit} {ρ : Operand → Option AV} {e : Operand → Value} (hρ : ∀ x v, ρ x = some v → VRel S v (e x)) {lo : Option Operand} {l : Option Nat} (h : natOf (lo.bind ρ) = some l)
  (hs : lo.isSome = l.isSome) : match (generalizing := false) lo.map e, l with | none, none => True | some c, some n => ∃ k, c = Value.int k n | _, _ => False := by
 cases lo with
 | none =>
  cases l with
  | none => trivial
  | some n => simp at hs
 | some x =>
  cases l with
  | none => simp at hs
  | some n =>
   simp only [Option.bind_some, Option.map_some] at h ⊢
   cases hx : ρ x with
   | none => rw [hx] at h; simp [natOf] at h
   | some v =>
    rw [hx] at h
    have := natOf_sound (S := S) (c := some (e x)) h (hρ x v hx)
    exact this
set_option maxHeartbeats 1000000 in
theorem aop_sound {m : Bool} {S : Sit} (hR : Rel S) {ρ : Operand → Option AV} {e : Operand → Value} (hρ : ∀ x v, ρ x = some v → VRel S v (e x)) {o : Oper} {r : AR} (h : aop P m S.H ρ o = some r) :
    AR.Ok P S r ((execOp e o).run P S.w) := by
  obtain ⟨dst, op, type, pos, after, guard⟩ := o
  cases op with
  | move x =>
    obtain ⟨v, hv, rfl⟩ := map_some h
    exact AR.Ok.here hR rfl (hρ x v hv)
  | assign x =>
    obtain ⟨v, hv, rfl⟩ := map_some h
    exact AR.Ok.here hR rfl (hρ x v hv)
  | pick c a b =>
    simp only [aop] at h
    split at h
    · rename_i t ht
      obtain ⟨v, hv, rfl⟩ := map_some h
      have hc := hρ c _ ht
      simp only [VRel] at hc
      cases t
      · refine AR.Ok.here hR ?_ (hρ b v hv)
        simp only [execOp, hc]; rfl
      · refine AR.Ok.here hR ?_ (hρ a v hv)
        simp only [execOp, hc]; rfl
    · cases h
  | alloc t =>
    obtain ⟨z, hz, rfl⟩ := map_some h
    obtain ⟨w', h1, h2, h3⟩ := new_box (P := P) hR t (VRels.map_lit z.cells.toList)
    refine execOp_v ⟨.pointer (some ⟨S.w.heap.size, 0, none⟩), _, w', ?_, h2, h3, Non.alloc, ?_⟩
    · unfold Instr.alloc
      rw [Sem.run_bind, run_tz hz]
      simp only [Result.andThen_ok]
      rw [Sem.run_bind]
      unfold newVar
      rw [h1]
      rfl
    · simp only [VRel]
      exact ⟨S.w.heap.size, 0, upd_same .., ⟨.box (z.cells.toList.map .lit) t, by simp, rfl⟩, rfl⟩
  | box t x =>
    obtain ⟨v, hv, rfl⟩ := map_some h
    obtain ⟨w', h1, h2, h3⟩ := new_box (P := P) hR t (hρ x v hv).cells
    refine execOp_v ⟨.pointer (some ⟨S.w.heap.size, 0, none⟩), _, w', ?_, h2, h3, Non.alloc, ?_⟩
    · unfold Instr.box
      rw [Sem.run_bind]
      unfold newVar
      rw [h1]
      rfl
    · simp only [VRel]
      exact ⟨S.w.heap.size, 0, upd_same .., ⟨.box v.cellsOf t, by simp, rfl⟩, rfl⟩
  | build t parts =>
    obtain ⟨ps, hps, h⟩ := bind_some h
    obtain ⟨v, hv, rfl⟩ := map_some h
    refine execOp_here hR (buildOp_sound hv ?_)
    have := apairs_sound hρ hps
    simpa using this
  | buildSlice t n parts =>
    obtain ⟨ps, hps, h⟩ := bind_some h
    obtain ⟨v, hv, rfl⟩ := map_some h
    have hp := apairs_sound hρ hps
    obtain ⟨c, w', h1, h2, h3, h4⟩ := buildSliceOp_sound (cparts := parts.map fun (i, x) => (i, e x)) hR hv (by simpa using hp)
    exact execOp_v ⟨c, S.ι, w', h1, h2, h3, Non.same, h4⟩
  | load t x =>
    obtain ⟨a, ha, h⟩ := bind_some h
    obtain ⟨v, hv, rfl⟩ := map_some h
    exact execOp_here hR (loadOp_sound hR hv (hρ x a ha))
  | store t x y =>
    simp only [aop] at h
    split at h
    · rename_i a u ha hu
      obtain ⟨H', hH, rfl⟩ := map_some h
      exact execOp_u (storeOp_sound hR hH (hρ x a ha) (hρ y u hu))
    · cases h
  | binOp op t x y yt =>
    simp only [aop] at h
    split at h
    · rename_i a b ha hb
      obtain ⟨v, hv, rfl⟩ := map_some h
      exact execOp_here hR (binB_sound hv (hρ x a ha) (hρ y b hb))
    · cases h
  | unOp op t x =>
    obtain ⟨a, ha, h⟩ := bind_some h
    obtain ⟨v, hv, rfl⟩ := map_some h
    exact execOp_here hR (unA_sound hv (hρ x a ha))
  | convert src dst x =>
    simp only [aop] at h
    obtain ⟨a, ha, hq⟩ := bind_some h
    obtain ⟨v, hv, rfl⟩ := map_some hq
    exact execOp_here hR (convB_sound hR hv (hρ x a ha))
  | makeInterface t x =>
    simp only [aop] at h
    split at h
    · cases h
    · cases h
    · rename_i d hd hu
      obtain ⟨v, hv, rfl⟩ := map_some h
      refine execOp_here hR ⟨.iface t (e x), ?_, by simp only [VRel]; exact ⟨_, rfl, hρ x v hv⟩⟩
      unfold Instr.makeInterface
      rw [Sem.run_bind, run_underlying hu]
      simp only [Result.andThen_ok]
      cases d <;> first | rfl | (exact absurd rfl (hd _))
  | makeFunc f first captured =>
    simp only [aop] at h
    split at h
    · rename_i a b ha hb
      cases h
      refine execOp_here hR ⟨.func f (first.map e) (captured.map e), rfl, ?_⟩
      simp only [VRel]
      exact ⟨_, _, rfl, by simpa using aevs_sound hρ ha, by simpa using aevs_sound hρ hb⟩
    · cases h
  | makeMap t res =>
    cases res with
    | some x => simp [aop] at h
    | none =>
      obtain ⟨p, hp, rfl⟩ := map_some h
      have hev := Ev.alloc hR (w' := { S.w with heap := S.w.heap.push (.map #[] 0) }) (.map p.1 []) 0 rfl
      refine execOp_v ⟨.map (some S.w.heap.size), _, _, rfl, Rel.alloc hR (.map p.1 []) 0 rfl ⟨#[], 0, by simp, ⟨⟨[], List.Perm.refl _, rfl, by simp [VRels]⟩, by simp, by simp, by simp, by simp⟩⟩, hev, Non.alloc, ?_⟩
      simp only [VRel]
      exact ⟨S.w.heap.size, 0, upd_same .., ⟨.map p.1 [], by simp, rfl⟩, rfl⟩
  | makeSlice t l c =>
    simp only [aop] at h
    split at h
    · rename_i a b ha hb
      obtain ⟨⟨n, k, el, cells⟩, hp, rfl⟩ := map_some h
      obtain ⟨v, w', h1, h2, h3, rfl⟩ := makeSliceA_sound hR hp (hρ l a ha) (hρ c b hb)
      refine execOp_v ⟨_, _, w', h1, h2, h3, Non.alloc, ?_⟩
      simp only [VRel]
      exact ⟨S.w.heap.size, 0, upd_same .., ⟨.box cells el, by simp, rfl⟩, rfl⟩
    · cases h
  | nilCheck x =>
    simp only [aop] at h
    obtain ⟨y0, hx, hq⟩ := bind_some h
    obtain ⟨v0, hv0, rfl⟩ := map_some hq
    obtain ⟨rfl, ad, had⟩ := addrA_sound hv0 (hρ x _ hx)
    have hv := hρ x _ hx
    rw [had] at hv
    refine ⟨.pointer (some ad), S.ι, S.w, .inl ?_, hR, Ev.refl S, Non.refl S, hv⟩
    simp only [execOp, had]
    rfl
  | typeAssert x xT a ok =>
    cases ok with
    | false => simp [aop] at h
    | true =>
    simp only [aop] at h
    obtain ⟨y0, hx, hq⟩ := bind_some h
    clear h
    obtain ⟨v0, h, rfl⟩ := map_some hq
    clear hq
    unfold assertA at h
    cases hu : P.underlying a with
    | none => simp [hu] at h
    | some d =>
    rw [hu] at h
    have hd : ∀ want, d ≠ .interface want := by rintro want rfl; simp at h
    cases y0 with
    | iface t v =>
    have h2 : (if t = a then some (AV.tup [v, .lit (.bool true)]) else (tz P a).map fun z => .tup [.lit z, .lit (.bool false)]) = some v0 := by
      cases d <;> first | (exact absurd rfl (hd _); done) | exact h
    have hv := hρ x _ hx
    simp only [VRel] at hv
    obtain ⟨y, hy, hr⟩ := hv
    have hrun : ∀ (res : Value), (t = a → res = .tuple #[y, .bool true]) → (t ≠ a → ∃ z, tz P a = some z ∧ res = .tuple #[z, .bool false]) → (Instr.typeAssert (e x) xT a true).run P S.w = .ok res S.w := by
      intro res h1 h3
      unfold Instr.typeAssert
      rw [Sem.run_bind, run_underlying hu, hy]
      simp only [Result.andThen_ok]
      by_cases hta : t = a
      · rw [h1 hta]
        cases d <;> first | exact absurd rfl (hd _) | simp [hta]
      · obtain ⟨z, hz, rfl⟩ := h3 hta
        cases d <;> first | exact absurd rfl (hd _) | simp [hta, run_tz hz, Result.andThen]
    split at h2
    · rename_i hta
      cases h2
      exact execOp_here hR ⟨_, hrun _ (fun _ => rfl) (fun hne => absurd hta hne), by simp only [VRel]; exact ⟨_, rfl, hr, by simp [VRel], trivial⟩⟩
    · rename_i hta
      obtain ⟨z, hz, rfl⟩ := map_some h2
      exact execOp_here hR ⟨_, hrun _ (fun he => absurd he hta) (fun _ => ⟨z, hz, rfl⟩), by simp [VRel, VRels]⟩
    | _ => cases d <;> first | (cases h; done) | exact absurd rfl (hd _)
  | range t x =>
    simp only [aop] at h
    split at h
    · rename_i s hu hx
      cases h
      have hv := hρ x _ hx
      simp only [VRel] at hv
      have hev := Ev.alloc hR (w' := { S.w with heap := S.w.heap.push (.stringIter s 0) }) (.iterS s 0) 0 rfl
      refine execOp_v ⟨.pointer (some ⟨S.w.heap.size, 0, none⟩), _, _, ?_, Rel.alloc hR (.iterS s 0) 0 rfl (by show (S.w.heap.push _)[S.w.heap.size]? = _; simp), hev, Non.alloc, ?_⟩
      · unfold Instr.range
        rw [Sem.run_bind, run_underlying hu, hv]
        rfl
      · simp only [VRel]
        exact ⟨S.w.heap.size, 0, upd_same .., ⟨.iterS s 0, by simp, rfl⟩, rfl⟩
    · cases h
  | next x str =>
    cases str with
    | false => simp [aop] at h
    | true =>
    simp only [aop] at h
    split at h
    case h_2 => cases h
    rename_i id hx
    have hv := hρ x _ hx
    simp only [VRel] at hv
    obtain ⟨b, wm, hi, hn, hc⟩ := hv
    split at h
    case h_2 => cases h
    rename_i s pos hB
    obtain ⟨B, hB', hrel⟩ := hR.blk id b wm hi
    rw [hB] at hB'; cases hB'
    have hK : S.w.heap[b]? = some (.stringIter s pos) := hrel
    have hlt := (Array.getElem?_eq_some_iff.1 hK).1
    have hget : (getObj b).run P S.w = .ok (.stringIter s pos) S.w := by simp only [getObj, Sem.run, hK]
    split at h
    · rename_i hp
      cases h
      have hoth : ∀ b', b' ≠ b → ({ S.w with heap := S.w.heap.setIfInBounds b (.stringIter s (pos + (Utf8.decode s pos).2)) } : World).heap[b']? = S.w.heap[b']? := fun b' hne => by
        show (S.w.heap.setIfInBounds b _)[b']? = _
        rw [Array.getElem?_setIfInBounds_ne (Ne.symm hne)]
      have hev := Ev.write hR (w' := { S.w with heap := S.w.heap.setIfInBounds b (.stringIter s (pos + (Utf8.decode s pos).2)) }) (B' := .iterS s (pos + (Utf8.decode s pos).2)) hi hB rfl rfl hoth
      refine execOp_v ⟨.tuple #[.bool true, goInt pos, .int .i32 (Utf8.decode s pos).1], S.ι, _, ?_, Rel.write hR hi hB rfl rfl hoth (by show (S.w.heap.setIfInBounds b _)[b]? = _; simp [hlt]), hev, Non.same, ?_⟩
      · unfold Instr.next
        rw [hc]
        simp only
        rw [Sem.run_bind, hget]
        simp only [Result.andThen_ok, hp, if_true]
        rw [Sem.run_bind]
        simp only [setObj, Sem.run, hK]
        rfl
      · simp [VRel, VRels]
    · rename_i hp
      cases h
      refine execOp_v ⟨.tuple #[.bool false], S.ι, S.w, ?_, hR, Ev.refl S, Non.refl S, by simp [VRel, VRels]⟩
      unfold Instr.next
      rw [hc]
      simp only
      rw [Sem.run_bind, hget]
      simp only [Result.andThen_ok, hp, if_false]
      rfl
  | slice t x lo hi mx =>
    simp only [aop] at h
    split at h
    · rename_i a l hh m ha hl hhh hm
      split at h
      · rename_i hg
        simp only [Bool.and_eq_true, beq_iff_eq] at hg
        obtain ⟨v, hv, rfl⟩ := map_some h
        exact execOp_here hR (sliceA_sound (natOf_rel hρ hl hg.1.1) (natOf_rel hρ hhh hg.1.2) (natOf_rel hρ hm hg.2) hv (hρ x a ha))
      · cases h
    · cases h
  | fieldAddr t x i =>
    obtain ⟨a, ha, h⟩ := bind_some h
    obtain ⟨v, hv, rfl⟩ := map_some h
    exact execOp_here hR (fieldOp_sound hv (hρ x a ha))
  | field t x i =>
    obtain ⟨a, ha, h⟩ := bind_some h
    obtain ⟨v, hv, rfl⟩ := map_some h
    exact execOp_here hR (fieldA_sound hv (hρ x a ha))
  | indexAddr t x i =>
    simp only [aop] at h
    split at h
    · rename_i a b ha hb
      obtain ⟨v, hv, rfl⟩ := map_some h
      exact execOp_here hR (indexOp_sound hv (hρ x a ha) (hρ i b hb))
    · cases h
  | index t x i =>
    simp only [aop] at h
    split at h
    · rename_i a b ha hb
      obtain ⟨v, hv, rfl⟩ := map_some h
      exact execOp_here hR (indexA_sound hv (hρ x a ha) (hρ i b hb))
    · cases h
  | lookup t x k ok =>
    simp only [aop] at h
    split at h
    · rename_i a b ha hb
      obtain ⟨v, hv, rfl⟩ := map_some h
      exact execOp_here hR (lookupOp_sound hR hv (hρ x a ha) (hρ k b hb))
    · cases h
  | mapUpdate t m k x =>
    simp only [aop] at h
    split at h
    · rename_i a b c ha hb hc
      obtain ⟨H', hH, rfl⟩ := map_some h
      exact execOp_u (updateOp_sound hR hH (hρ m a ha) (hρ k b hb) (hρ x c hc))
    · cases h
  | insert t m k x =>
    simp only [aop] at h
    split at h
    · rename_i a b c ha hb hc
      obtain ⟨H', hH, rfl⟩ := map_some h
      exact execOp_u (updateOp_sound hR hH (hρ m a ha) (hρ k b hb) (hρ x c hc))
    · cases h
  | extract t i =>
    simp only [aop] at h
    split at h
    · rename_i vs ht
      obtain ⟨v, hv, rfl⟩ := map_some h
      have hx := hρ t _ ht
      simp only [VRel] at hx
      obtain ⟨C, hc, hr⟩ := hx
      obtain ⟨c, hc1, hc2⟩ := hr.get hv
      refine execOp_here hR ⟨c, ?_, hc2⟩
      rw [hc]
      have : C[i]? = some c := by simpa using hc1
      simp only [Instr.extract, this]
      rfl
    · cases h
  | panic x =>
    simp only [aop] at h
    split at h
    · rename_i t v hv
      cases h
      have hx := hρ x _ hv
      have hx' := hx
      simp only [VRel] at hx
      obtain ⟨y, hy, _⟩ := hx
      refine ⟨e x, ?_, hx'⟩
      simp only [execOp]
      rw [Sem.run_bind, hy]
      rfl
    · cases h
  | call c =>
    simp only [aop] at h
    cases hargs : aevs ρ c.args.toList with
    | none => simp [hargs] at h
    | some args =>
    simp only [hargs] at h
    have hA := aevs_sound hρ hargs
    have hA' : VRels S args (c.args.map e).toList := by simpa using hA
    obtain ⟨callee, cargs, argTypes⟩ := c
    cases callee with
    | value f =>
      simp only [] at h
      cases hf : ρ f with
      | none => simp [hf] at h
      | some fv =>
        simp only [hf] at h
        have hfv := hρ f fv hf
        have key : ∀ g first captured, fnOf fv = some (g, first, captured) →
            AR.Ok P S (.call g (first ++ args ++ captured)) ((execOp e { dst, op := .call { callee := .value f, args := cargs, argTypes }, type, pos, after, guard }).run P S.w) := by
          intro g first captured hg hc
          obtain ⟨F, C, hfe, h1, h2⟩ := fnOf_sound hg hfv
          refine ⟨F ++ cargs.map e ++ C, ?_, ?_⟩
          · simp only [execOp, resolve, hfe, Deferred.ofValue]
            rw [Sem.run_bind]
            simp only [Sem.run_pure, Result.andThen_ok, invoke]
            exact run_callFunc hc _ _
          · simpa using (h1.append hA').append h2
        have hkey2 : (match fnOf fv with
            | some (g, first, captured) => some (AR.call g (first ++ args ++ captured))
            | none => none) = some r → AR.Ok P S r ((execOp e { dst, op := .call { callee := .value f, args := cargs, argTypes := argTypes }, type, pos, after, guard }).run P S.w) := by
          intro h
          cases hfo : fnOf fv with
          | none => simp [hfo] at h
          | some p =>
            obtain ⟨g, first, captured⟩ := p
            simp only [hfo] at h
            cases h
            exact key g first captured hfo
        cases fv with
        | yld id =>
          dsimp only at h
          cases hB : S.H[id]? with
          | none => rw [hB] at h; cases h
          | some B =>
          rw [hB] at h
          cases B with
          | loop l =>
            simp only [] at h
            split at h
            · rename_i hl
              cases h
              simp only [VRel] at hfv
              obtain ⟨b, wm, hi, hn, hfe⟩ := hfv
              obtain ⟨B, hB', hrel⟩ := hR.blk id b wm hi
              rw [hB] at hB'; cases hB'
              obtain ⟨L, hL, hLR⟩ := hrel
              have hsz : (cargs.map e).size = L.params.size := by
                rw [hLR.params, ← hl]
                have := hA'.length
                simpa using this.symm
              refine ⟨b, wm, L, cargs.map e, hi, hn, hL, hsz, ?_, hA'⟩
              simp only [execOp, resolve, hfe, Deferred.ofValue]
              rw [Sem.run_bind]
              simp only [Sem.run_pure, Result.andThen_ok, invoke, Instr.yield]
              rw [Sem.run_bind, show (Instr.getLoop b).run P S.w = .ok L S.w by
                unfold Instr.getLoop
                rw [Sem.run_bind, show (getObj b).run P S.w = .ok (.loop L) S.w by simp only [getObj, Sem.run, hL]]
                rfl]
              simp only [Result.andThen_ok]
              have e0 : (#[] : Array Value) ++ cargs.map e = cargs.map e := by simp
              rw [e0, if_neg (by simp [hsz])]
              rfl
            · cases h
          | box _ _ => cases h
          | row _ => cases h
          | mrow _ _ => cases h
          | map _ _ => cases h
          | defd => cases h
          | iterS _ _ => cases h
          | spent => cases h
          | obj o => cases h
        | lit _ => exact hkey2 h
        | agg _ => exact hkey2 h
        | tup _ => exact hkey2 h
        | ptr _ _ => exact hkey2 h
        | eptr _ => exact hkey2 h
        | sl _ _ _ => exact hkey2 h
        | hsl _ _ _ _ => exact hkey2 h
        | mp _ => exact hkey2 h
        | fn _ _ _ => exact hkey2 h
        | iface _ _ => exact hkey2 h
        | msl _ _ _ _ => exact hkey2 h
        | mptr _ _ _ => exact hkey2 h
        | mpx => exact hkey2 h
    | invoke r' name =>
      simp only [] at h
      split at h
      · rename_i t v hv
        obtain ⟨f, hf, rfl⟩ := map_some h
        have hx := hρ r' _ hv
        simp only [VRel] at hx
        obtain ⟨y, hy, hr⟩ := hx
        intro hcal
        refine ⟨#[y] ++ cargs.map e, ?_, ?_⟩
        · simp only [execOp, resolve, hy]
          rw [Sem.run_bind]
          simp only [Sem.run_pure, Result.andThen_ok, invoke]
          have h0 : (#[Value.iface t y] ++ cargs.map e)[0]? = some (.iface t y) := by
            rw [Array.getElem?_append_left (by simp)]; rfl
          simp only [h0]
          have h1 : (#[Value.iface t y] ++ cargs.map e).extract 1 (#[Value.iface t y] ++ cargs.map e).size = cargs.map e := by
            apply Array.ext'; rw [Array.toList_extract, List.extract_eq_take_drop]; simp [List.take_of_length_le]
          rw [h1]
          exact methodA_sound hf hcal y _ _
        · have : (#[y] ++ cargs.map e).toList = y :: cargs.toList.map e := by simp
          rw [this]; exact ⟨hr, hA⟩
      · cases h
    | builtin b =>
      cases b with
      | len =>
        simp only [] at h
        split at h
        · rename_i t x ht
          obtain ⟨n, hn, rfl⟩ := map_some h
          have hc1 : ∃ x0, cargs = #[x0] := by
            have := hA'.length
            simp at this
            obtain ⟨l⟩ := cargs
            match l, this with
            | [a], _ => exact ⟨a, rfl⟩
          obtain ⟨x0, rfl⟩ := hc1
          simp only [List.map_cons, List.map_nil, VRels, and_true] at hA
          refine AR.Ok.here hR (c := .int .i64 (n : Int)) ?_ (by simp [VRel])
          have := lenA_sound (P := P) (ty := type) hR ht hn hA
          simp only [execOp, resolve]
          rw [Sem.run_bind]
          simp only [Sem.run_pure, Result.andThen_ok, invoke, builtin]
          rw [Sem.run_bind]
          rw [show (#[x0].map e) = #[e x0] by simp, this]
          rfl
        · cases h
      | append =>
        simp only [] at h
        split at h
        · rename_i sT xT s x h0 h1
          obtain ⟨p, hp, rfl⟩ := map_some h
          have hc1 : ∃ x0 x1, cargs = #[x0, x1] := by
            have := hA'.length
            simp at this
            obtain ⟨l⟩ := cargs
            match l, this with
            | [a, b], _ => exact ⟨a, b, rfl⟩
          obtain ⟨x0, x1, rfl⟩ := hc1
          simp only [List.map_cons, List.map_nil, VRels, and_true] at hA
          obtain ⟨u, ι', w', k1, k2, k3, k4, k5⟩ := appA_sound (P := P) (ty := type) hR h0 h1 (v := p.1) (H' := p.2) hp hA.1 hA.2
          refine ⟨u, ι', w', .inl ?_, k2, k3, k4, k5⟩
          simp only [execOp, resolve]
          rw [Sem.run_bind]
          simp only [Sem.run_pure, Result.andThen_ok, invoke, builtin]
          rw [Sem.run_bind]
          rw [show (#[x0, x1].map e) = #[e x0, e x1] by simp, k1]
          rfl
        · cases h
      | max =>
        simp only [] at h
        split at h
        · rename_i k a k' b
          cases h
          have hc1 : ∃ x0 x1, cargs = #[x0, x1] := by
            have := hA'.length
            simp at this
            obtain ⟨l⟩ := cargs
            match l, this with
            | [a, b], _ => exact ⟨a, b, rfl⟩
          obtain ⟨x0, x1, rfl⟩ := hc1
          simp only [List.map_cons, List.map_nil, VRels, VRel, and_true] at hA
          refine AR.Ok.here hR (c := .int k (if b > a then b else a)) ?_ (by simp [VRel])
          simp only [execOp, resolve]
          rw [Sem.run_bind]
          simp only [Sem.run_pure, Result.andThen_ok, invoke, builtin]
          rw [Sem.run_bind]
          rw [show (#[x0, x1].map e) = #[e x0, e x1] by simp, hA.1, hA.2]
          rfl
        · rename_i k a k' b k'' d
          cases h
          have hc1 : ∃ x0 x1 x2, cargs = #[x0, x1, x2] := by
            have := hA'.length
            simp at this
            obtain ⟨l⟩ := cargs
            match l, this with
            | [a, b, c], _ => exact ⟨a, b, c, rfl⟩
          obtain ⟨x0, x1, x2, rfl⟩ := hc1
          simp only [List.map_cons, List.map_nil, VRels, VRel, and_true] at hA
          refine AR.Ok.here hR (c := .int k (if d > (if b > a then b else a) then d else (if b > a then b else a))) ?_ (by simp [VRel])
          simp only [execOp, resolve]
          rw [Sem.run_bind]
          simp only [Sem.run_pure, Result.andThen_ok, invoke, builtin]
          rw [Sem.run_bind]
          rw [show (#[x0, x1, x2].map e) = #[e x0, e x1, e x2] by simp, hA.1, hA.2.1, hA.2.2]
          rfl
        · cases h
      | min =>
        simp only [] at h
        split at h
        · rename_i k a k' b
          cases h
          have hc1 : ∃ x0 x1, cargs = #[x0, x1] := by
            have := hA'.length
            simp at this
            obtain ⟨l⟩ := cargs
            match l, this with
            | [a, b], _ => exact ⟨a, b, rfl⟩
          obtain ⟨x0, x1, rfl⟩ := hc1
          simp only [List.map_cons, List.map_nil, VRels, VRel, and_true] at hA
          refine AR.Ok.here hR (c := .int k (if b < a then b else a)) ?_ (by simp [VRel])
          simp only [execOp, resolve]
          rw [Sem.run_bind]
          simp only [Sem.run_pure, Result.andThen_ok, invoke, builtin]
          rw [Sem.run_bind]
          rw [show (#[x0, x1].map e) = #[e x0, e x1] by simp, hA.1, hA.2]
          rfl
        · rename_i k a k' b k'' d
          cases h
          have hc1 : ∃ x0 x1 x2, cargs = #[x0, x1, x2] := by
            have := hA'.length
            simp at this
            obtain ⟨l⟩ := cargs
            match l, this with
            | [a, b, c], _ => exact ⟨a, b, c, rfl⟩
          obtain ⟨x0, x1, x2, rfl⟩ := hc1
          simp only [List.map_cons, List.map_nil, VRels, VRel, and_true] at hA
          refine AR.Ok.here hR (c := .int k (if d < (if b < a then b else a) then d else (if b < a then b else a))) ?_ (by simp [VRel])
          simp only [execOp, resolve]
          rw [Sem.run_bind]
          simp only [Sem.run_pure, Result.andThen_ok, invoke, builtin]
          rw [Sem.run_bind]
          rw [show (#[x0, x1, x2].map e) = #[e x0, e x1, e x2] by simp, hA.1, hA.2.1, hA.2.2]
          rfl
        · cases h
      | delete =>
        simp only [] at h
        split at h
        · rename_i t x k ht
          obtain ⟨H2, hH2, rfl⟩ := map_some h
          have hc1 : ∃ x0 x1, cargs = #[x0, x1] := by
            have := hA'.length
            simp at this
            obtain ⟨l⟩ := cargs
            match l, this with
            | [a, b], _ => exact ⟨a, b, rfl⟩
          obtain ⟨x0, x1, rfl⟩ := hc1
          simp only [List.map_cons, List.map_nil, VRels, and_true] at hA
          obtain ⟨w', k1, k2, k3⟩ := deleteOp_sound (P := P) (ty := type) hR ht hH2 hA.1 hA.2
          refine ⟨.tuple #[], S.ι, w', .inl ?_, k2, k3, Non.same, by simp only [VRel, undef]⟩
          simp only [execOp, resolve]
          rw [Sem.run_bind]
          simp only [Sem.run_pure, Result.andThen_ok, invoke, builtin]
          rw [Sem.run_bind]
          rw [show (#[x0, x1].map e) = #[e x0, e x1] by simp, k1]
          rfl
        · cases h
      | _ => simp at h
  | _ => simp [aop] at h
end Go.Vm
