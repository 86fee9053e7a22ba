/-
  Texts of the proof, part 9: the machine, contracts of functions, plain laws. (Own work.)
-/
import Derived.Test.YtkkpcbklhkfohaaGreatG08TopTurns

namespace Go.Vm
inductive Dl where
 | same
 | push (B : Blk)
 | set (id : Nat) (B : Blk)
def Dl.app (H : List Blk) : Dl → List Blk
 | .same => H
 | .push B => H ++ [B]
 | .set id B => H.set id B
inductive DR where
 | val (v : AV) (d : Dl)
 | call (f : FuncId) (args : List AV)
 | round (id : Nat) (args : List AV)
 | pan (v : AV)
def DR.app (H : List Blk) : DR → AR
 | .val v d => .val v (d.app H)
 | .call f args => .call f args
 | .round id args => .round id args
 | .pan v => .pan v
def DR.okD (H : List Blk) : DR → Prop
 | .val _ (.set id B) => ∃ B0, H[id]? = some B0 ∧ B0 ≠ .defd ∧ (B.loose = true → B0.loose = true)
 | _ => True
def noLo : Nat := 1000000000
section
variable (P : Program) (m : Bool) (g : Nat → Option Blk) (n : Nat) (ρ : Operand → Option AV)
def loadT (t : TypeId) (x : AV) : Option AV :=
 match x with
 | .ptr id off => match g id with
  | some (.box cells _) => loadA P t (cells.drop off)
  | _ => none
 | .eptr cells => loadA P t cells
 | .mptr id gen off => match g id with
  | some (.mrow g0 cells) => bif Nat.beq g0 gen then loadA P t (cells.drop off) else none
  | _ => none
 | _ => none
def storeT (t : TypeId) (x v : AV) : Option Dl :=
 match x with
 | .ptr id off => match g id, tsz P t with
  | some (.box cells bt), some n => if v.cellsOf.length = n ∧ off + n ≤ cells.length ∧ v.cellsOf.all AV.one = true then some (.set id (.box (splice cells off v.cellsOf) bt)) else none
  | _, _ => none
 | .mptr id gen off => match g id, tsz P t with
  | some (.mrow g0 cells), some n => if g0 = gen ∧ v.cellsOf.length = n ∧ off + n ≤ cells.length ∧ v.cellsOf.all AV.one = true then some (.set id (.mrow g0 (splice cells off v.cellsOf))) else none
  | _, _ => none
 | _ => none
def srcT (size : Nat) (x : AV) : Option (Nat × List AV) :=
 match x with
 | .hsl id off len _ => match g id with
  | some (.box cells _) => if off + len * size ≤ cells.length then some (len, (cells.drop off).take (len * size)) else none
  | _ => none
 | .msl id gen len _ => match g id with
  | some (.mrow g0 cells) => if g0 = gen ∧ len * size ≤ cells.length then some (len, cells.take (len * size)) else none
  | _ => none
 | x => srcCells [] size x
def appT (sT xT : TypeId) (s x : AV) : Option (AV × Dl) :=
 match tslice P sT with
 | none => none
 | some e =>
  match tsz P e, tz P e, tbytes P e with
  | some size, some z, some bytes =>
   if tsrc P xT && (decide (bytes ≤ 2097152) && decide (z.cells.size = size)) then
    match srcT g size x with
    | none => none
    | some (k, new) =>
     match s with
     | .lit (.slice none 0 0) =>
      if k = 0 then some (s, .same)
      else if k ≤ 2097152 then (if m then some (.msl n 0 k size, .push (.mrow 0 new)) else some (.sl k new (.own n 0 size), .push (.row 0))) else none
     | .msl id gen len sz =>
      if k = 0 then some (s, .same)
      else match g id with
       | some (.mrow g0 cells) => if gen = g0 ∧ sz = size ∧ len * size ≤ cells.length ∧ len + k ≤ 2097152 ∧ new.all AV.one = true then some (.msl id (g0 + 1) (len + k) size, .set id (.mrow (g0 + 1) (cells.take (len * size) ++ new))) else none
       | _ => none
     | .sl len cells tail =>
      if k = 0 then some (s, .same)
      else if cells.length = len * size ∧ len + k ≤ 2097152 then
       match tail with
       | .unk => none
       | .full => if m then some (.msl n 0 (len + k) size, .push (.mrow 0 (cells ++ new))) else some (.sl (len + k) (cells ++ new) (.own n 0 size), .push (.row 0))
       | .own id gen sz =>
        match g id with
        | some (.row g0) => if gen = g0 ∧ sz = size ∧ new.all AV.one = true then some (.sl (len + k) (cells ++ new) (.own id (gen + 1) size), .set id (.row (gen + 1))) else none
        | _ => none
      else none
     | _ => none
   else none
  | _, _, _ => none
def plainT (o : Oper) : Option DR :=
 match aop P m [] ρ o with
 | some (.val v _) => some (.val v .same)
 | _ => none
def callT (args : List AV) (c : Call) : Option DR :=
 match c.callee with
 | .value f => match ρ f with
  | none => none
  | some (.yld id) => match g id with
   | some (.loop l) => if args.length = l.params.size then some (.round id args) else none
   | _ => none
  | some fv => match fnOf fv with
   | some (f, first, captured) => some (.call f (first ++ args ++ captured))
   | none => none
 | .invoke r name => match ρ r with
  | some (.iface t v) => (methodA P t name).map fun f => .call f (v :: args)
  | _ => none
 | .builtin .len => match c.argTypes[0]?, args with
  | some t, [.mp id] => match P.underlying t, g id with
   | some (.map _ _), some (.map _ es) => some (.val (.lit (.int .i64 (es.length : Int))) .same)
   | _, _ => none
  | some t, [x] => (lenA P [] t x).map fun (n : Nat) => .val (.lit (.int .i64 (n : Int))) .same
  | _, _ => none
 | .builtin .append => match c.argTypes[0]?, c.argTypes[1]?, args with
  | some sT, some xT, [s, x] => (appT P m g n sT xT s x).map fun p => .val p.1 p.2
  | _, _, _ => none
 | .builtin .max => match args with
  | [.lit (.int k a), .lit (.int _ b)] => some (.val (.lit (.int k (if b > a then b else a))) .same)
  | [.lit (.int k a), .lit (.int _ b), .lit (.int _ c)] => some (.val (.lit (.int k (if c > (if b > a then b else a) then c else (if b > a then b else a)))) .same)
  | _ => none
 | .builtin .min => match args with
  | [.lit (.int k a), .lit (.int _ b)] => some (.val (.lit (.int k (if b < a then b else a))) .same)
  | [.lit (.int k a), .lit (.int _ b), .lit (.int _ c)] => some (.val (.lit (.int k (if c < (if b < a then b else a) then c else (if b < a then b else a)))) .same)
  | _ => none
 | _ => none
def aopT (o : Oper) : Option DR :=
  match o.op with
  | .alloc t => (tz P t).map fun z => .val (.ptr n 0) (.push (.box (z.cells.toList.map .lit) t))
  | .box t x => (ρ x).map fun v => .val (.ptr n 0) (.push (.box v.cellsOf t))
  | .load t x => match ρ x with
    | some a => (loadT P g t a).map fun v => .val v .same
    | none => none
  | .store t x y => match ρ x, ρ y with
    | some a, some u => (storeT P g t a u).map fun d => .val (.lit undef) d
    | _, _ => none
  | .makeMap t none => (tmap P t).map fun p => .val (.mp n) (.push (.map p.1 []))
  | .makeSlice t l c => match ρ l, ρ c with
    | some a, some b => (makeSliceA P t a b).map fun p => .val (.hsl n 0 p.1 p.2.1) (.push (.box p.2.2.2 p.2.2.1))
    | _, _ => none
  | .range t x => match P.underlying t, ρ x with
    | some .string, some (.lit (.string s)) => some (.val (.ptr n 0) (.push (.iterS s 0)))
    | _, _ => none
  | .next x true => match ρ x with
    | some (.ptr id 0) => match g id with
      | some (.iterS s pos) => if pos < s.size then some (.val (.tup [.lit (.bool true), .lit (goInt pos), .lit (.int .i32 (Utf8.decode s pos).1)]) (.set id (.iterS s (pos + (Utf8.decode s pos).2))))
          else some (.val (.tup [.lit (.bool false)]) .same)
      | _ => none
    | _ => none
  | .lookup t x k ok => match ρ x, ρ k with
    | some (.mp id), some b => match tmap P t, conc b with
      | some (sh, _, e), some v => match g id, tz P e with
        | some (.map sh' es), some z =>
          if sh.same sh' = true ∧ shOk sh v = true then
            match mlook es v with
            | some a => some (.val (if ok = true then .tup [a, .lit (.bool true)] else a) .same)
            | none => some (.val (if ok = true then .tup [.lit z, .lit (.bool false)] else .lit z) .same)
          else none
        | _, _ => none
      | _, _ => none
    | _, _ => none
  | .mapUpdate t x k y | .insert t x k y => match ρ x, ρ k, ρ y with
    | some (.mp id), some b, some c => match tmap P t, conc b with
      | some (sh, _, _), some u => match g id with
        | some (.map sh' es) => if sh.same sh' = true ∧ shOk sh u = true then some (.val (.lit undef) (.set id (.map sh' (mset es u c)))) else none
        | _ => none
      | _, _ => none
    | _, _, _ => none
  | .panic x => match ρ x with
    | some (.iface t v) => some (.pan (.iface t v))
    | _ => none
  | .call c => match aevs ρ c.args.toList with
    | none => none
    | some args => callT P m g n ρ args c
  | _ => plainT P m ρ o
end
section
variable {P : Program} {m : Bool} {g : Nat → Option Blk} {H : List Blk} {ρ : Operand → Option AV} (hg : ∀ id B, g id = some B → H[id]? = some B)
theorem HLe_nil (H : List Blk) : HLe [] H := fun id B h => by simp at h
include hg
theorem loadT_sound {t : TypeId} {x v : AV} (h : loadT P g t x = some v) : loadOp P H t x = some v := by
 unfold loadT at h
 unfold loadOp cellsAt
 split at h
 ·split at h
  ·rename_i hB; simp [hg _ _ hB, h]
  ·cases h
 ·exact h
 ·split at h
  ·rename_i hB
   cases hb : Nat.beq _ _ with
   | false => rw [hb] at h; cases h
   | true =>
    rw [hb] at h
    have e := Nat.eq_of_beq_eq_true hb
    simp only [hg _ _ hB, e, if_true]
    exact h
  ·cases h
 ·cases h
theorem storeT_sound {t : TypeId} {x v : AV} {d : Dl} (h : storeT P g t x v = some d) : storeOp P H t x v = some (d.app H) ∧ ∃ id B, d = .set id B ∧ ∃ B0, H[id]? = some B0 ∧ B0 ≠ .defd ∧ (B.loose = true → B0.loose = true) := by
 unfold storeT at h
 unfold storeOp
 split at h
 ·split at h
  ·rename_i cells bt n hB hn
   split at h
   ·rename_i hc; cases h
    simp only [hg _ _ hB, hn]
    rw [if_pos hc]
    exact ⟨rfl, _, _, rfl, _, hg _ _ hB, by simp, by simp [Blk.loose]⟩
   ·cases h
  ·cases h
 ·split at h
  ·rename_i g0 cells n hB hn
   split at h
   ·rename_i hc; cases h
    simp only [hg _ _ hB, hn]
    rw [if_pos hc]
    exact ⟨rfl, _, _, rfl, _, hg _ _ hB, by simp, by simp [Blk.loose]⟩
   ·cases h
  ·cases h
 ·cases h
theorem srcT_sound {size : Nat} {x : AV} {p : Nat × List AV} (h : srcT g size x = some p) : srcCells H size x = some p := by
 unfold srcT at h
 split at h
 ·split at h
  ·rename_i hB; simp only [srcCells, hg _ _ hB]; exact h
  ·cases h
 ·split at h
  ·rename_i hB; simp only [srcCells, hg _ _ hB]; exact h
  ·cases h
 ·exact srcCells_le (HLe_nil H) h
theorem appT_sound {n : Nat} (hn : H.length = n) {sT xT : TypeId} {s x : AV} {p : AV × Dl} (h : appT P m g n sT xT s x = some p) :
  appA P m H sT xT s x = some (p.1, p.2.app H) ∧ DR.okD H (.val p.1 p.2) := by
 unfold appT at h
 unfold appA
 cases h1 : tslice P sT with
 | none => rw [h1] at h; cases h
 | some e =>
 rw [h1] at h
 simp only at h ⊢
 cases h2 : tsz P e with
 | none => rw [h2] at h; cases h
 | some size =>
 cases h3 : tz P e with
 | none => rw [h2, h3] at h; cases h
 | some z =>
 cases h4 : tbytes P e with
 | none => rw [h2, h3, h4] at h; cases h
 | some bytes =>
 rw [h2, h3, h4] at h
 simp only at h ⊢
 split at h
 case isFalse => cases h
 rename_i hc
 rw [if_pos hc]
 cases h5 : srcT g size x with
 | none => rw [h5] at h; cases h
 | some q =>
 obtain ⟨k, new⟩ := q
 rw [h5] at h
 rw [srcT_sound hg h5]
 simp only at h ⊢
 split at h
 ·split at h
  ·rename_i hk; cases h; rw [if_pos hk]; exact ⟨rfl, trivial⟩
  ·rename_i hk
   rw [if_neg hk]
   split at h
   ·rename_i hk2
    rw [if_pos hk2]
    split at h
    ·rename_i hm; cases h; rw [if_pos hm]; simp [hn, Dl.app, DR.okD]
    ·rename_i hm; cases h; rw [if_neg hm]; simp [hn, Dl.app, DR.okD]
   ·cases h
 ·dsimp only
  split at h
  ·rename_i hk; cases h; rw [if_pos hk]; exact ⟨rfl, trivial⟩
  ·rename_i hk
   rw [if_neg hk]
   split at h
   ·rename_i hB
    rw [hg _ _ hB]
    simp only
    split at h
    ·rename_i hk2; cases h; rw [if_pos hk2]; exact ⟨rfl, _, hg _ _ hB, by simp, by simp [Blk.loose]⟩
    ·cases h
   ·cases h
 ·dsimp only
  split at h
  ·rename_i hk; cases h; rw [if_pos hk]; exact ⟨rfl, trivial⟩
  ·rename_i hk
   rw [if_neg hk]
   split at h
   ·rename_i hk2
    rw [if_pos hk2]
    split at h
    ·cases h
    ·split at h
     ·rename_i hm; cases h; simp only; rw [if_pos hm]; simp [hn, Dl.app, DR.okD]
     ·rename_i hm; cases h; simp only; rw [if_neg hm]; simp [hn, Dl.app, DR.okD]
    ·split at h
     ·rename_i hB
      simp only
      rw [hg _ _ hB]
      simp only
      split at h
      ·rename_i hk2; cases h; rw [if_pos hk2]; exact ⟨rfl, _, hg _ _ hB, by simp, by simp [Blk.loose]⟩
      ·cases h
     ·cases h
   ·cases h
 ·cases h
omit hg in
theorem plainT_sound {o : Oper} {r : DR} (hk : okind o = .plain) (h : plainT P m ρ o = some r) : aop P m H ρ o = some (r.app H) ∧ r.okD H := by
 unfold plainT at h
 split at h
 ·rename_i v H1 ha
  cases h
  exact ⟨(plain_le (HLe_nil H) hk ha).2, trivial⟩
 ·cases h
theorem callT_sound {n : Nat} (hn : H.length = n) {args : List AV} {c : Call} {r : DR} {dst : Option Tmp} {ty : TypeId} {pos : String} {after : Array Edge} {guard : Option (Nat × Bool)}
  (ha : aevs ρ c.args.toList = some args) (h : callT P m g n ρ args c = some r) : aop P m H ρ ⟨dst, .call c, ty, pos, after, guard⟩ = some (r.app H) ∧ r.okD H := by
 unfold callT at h
 simp only [aop, ha]
 split at h
 ·rename_i f hf
  rw [hf]
  simp only
  split at h
  ·cases h
  ·rename_i id hid
   rw [hid]
   simp only
   split at h
   ·rename_i l hl
    rw [hg _ _ hl]
    simp only
    split at h
    ·rename_i hlen; cases h; rw [if_pos hlen]; exact ⟨rfl, trivial⟩
    ·cases h
   ·cases h
  ·rename_i fv hnot hfv
   rw [hfv]
   simp only
   split at h
   ·rename_i f' first captured hfn
    cases h
    cases fv with
    | yld id => exact absurd rfl (hnot id)
    | _ => simp only [hfn]; exact ⟨rfl, trivial⟩
   ·cases h
 ·rename_i rv name hf
  rw [hf]
  simp only
  split at h
  ·rename_i t v hv
   rw [hv]
   obtain ⟨f, hm, rfl⟩ := map_some h
   simp only [hm]
   exact ⟨rfl, trivial⟩
  ·cases h
 ·rename_i hf
  rw [hf]
  simp only
  split at h
  ·rename_i t id ht
   rw [ht]
   split at h
   ·rename_i k e sh es hu hB
    cases h
    simp only [lenA, hu, hg _ _ hB]
    exact ⟨rfl, trivial⟩
   ·cases h
  ·rename_i t x hnot ht
   rw [ht]
   obtain ⟨k, hk, rfl⟩ := map_some h
   simp only [lenA_le (HLe_nil H) hk]
   exact ⟨rfl, trivial⟩
  ·cases h
 ·rename_i hf
  rw [hf]
  simp only
  split at h
  ·rename_i sT xT s x h1 h2
   rw [h1, h2]
   obtain ⟨p, hp, rfl⟩ := map_some h
   obtain ⟨k1, k2⟩ := appT_sound hg hn hp
   simp only [k1]
   exact ⟨rfl, k2⟩
  ·cases h
 ·rename_i hf
  rw [hf]
  split at h
  ·cases h; exact ⟨rfl, trivial⟩
  ·cases h; exact ⟨rfl, trivial⟩
  ·cases h
 ·rename_i hf
  rw [hf]
  split at h
  ·cases h; exact ⟨rfl, trivial⟩
  ·cases h; exact ⟨rfl, trivial⟩
  ·cases h
 ·cases h
theorem aopT_sound {n : Nat} (hn : H.length = n) {o : Oper} {r : DR} (h : aopT P m g n ρ o = some r) : aop P m H ρ o = some (r.app H) ∧ r.okD H := by
 obtain ⟨dst, op, ty, pos, after, guard⟩ := o
 unfold aopT at h
 cases op with
 | alloc t =>
  obtain ⟨z, hz, rfl⟩ := map_some h
  simp [aop, hz, DR.app, Dl.app, DR.okD, hn]
 | box t x =>
  obtain ⟨z, hz, rfl⟩ := map_some h
  simp [aop, hz, DR.app, Dl.app, DR.okD, hn]
 | load t x =>
  simp only at h
  split at h
  ·rename_i a ha
   obtain ⟨v, hv, rfl⟩ := map_some h
   simp only [aop, ha, Option.bind_some, loadT_sound hg hv]
   exact ⟨rfl, trivial⟩
  ·cases h
 | store t x y =>
  simp only at h
  split at h
  ·rename_i a u ha hu
   obtain ⟨d, hd, rfl⟩ := map_some h
   obtain ⟨k1, id, B, rfl, k2⟩ := storeT_sound hg hd
   simp only [aop, ha, hu, k1]
   exact ⟨rfl, k2⟩
  ·cases h
 | makeMap t r =>
  cases r with
  | none =>
   obtain ⟨z, hz, rfl⟩ := map_some h
   simp [aop, hz, DR.app, Dl.app, DR.okD, hn]
  | some x =>
   simp only [plainT, aop] at h
   cases h
 | makeSlice t l c =>
  simp only at h
  split at h
  ·rename_i a b ha hb
   obtain ⟨p, hp, rfl⟩ := map_some h
   simp [aop, ha, hb, hp, DR.app, Dl.app, DR.okD, hn]
  ·cases h
 | range t x =>
  simp only at h
  split at h
  ·rename_i s h1 h2
   cases h
   simp [aop, h1, h2, DR.app, Dl.app, DR.okD, hn]
  ·cases h
 | next x s =>
  cases s with
  | false => simp only [plainT, aop] at h; cases h
  | true =>
   simp only at h
   split at h
   ·rename_i id hx
    split at h
    ·rename_i s pos hB
     split at h
     ·rename_i hlt
      cases h
      simp only [aop, hx, hg _ _ hB, if_pos hlt]
      exact ⟨rfl, _, hg _ _ hB, by simp, by simp [Blk.loose]⟩
     ·rename_i hlt
      cases h
      simp only [aop, hx, hg _ _ hB, if_neg hlt]
      exact ⟨rfl, trivial⟩
    ·cases h
   ·cases h
 | lookup t x k ok =>
  simp only at h
  split at h
  ·rename_i id b hx hk
   split at h
   ·rename_i sh kt e v hm hv
    split at h
    ·rename_i sh' es z hB hz
     split at h
     ·rename_i hc
      simp only [aop, hx, hk, lookupOp, hm, hv, hg _ _ hB, hz, if_pos hc]
      split at h
      ·rename_i a hl; cases h; rw [hl]; exact ⟨rfl, trivial⟩
      ·rename_i hl; cases h; rw [hl]; exact ⟨rfl, trivial⟩
     ·cases h
    ·cases h
   ·cases h
  ·cases h
 | mapUpdate t x k y =>
  simp only at h
  split at h
  ·rename_i id b c hx hk hy
   split at h
   ·rename_i sh kt e u hm hv
    split at h
    ·rename_i sh' es hB
     split at h
     ·rename_i hc
      cases h
      simp only [aop, hx, hk, hy, updateOp, hm, hv, hg _ _ hB, if_pos hc]
      exact ⟨rfl, _, hg _ _ hB, by simp, by simp [Blk.loose]⟩
     ·cases h
    ·cases h
   ·cases h
  ·cases h
 | insert t x k y =>
  simp only at h
  split at h
  ·rename_i id b c hx hk hy
   split at h
   ·rename_i sh kt e u hm hv
    split at h
    ·rename_i sh' es hB
     split at h
     ·rename_i hc
      cases h
      simp only [aop, hx, hk, hy, updateOp, hm, hv, hg _ _ hB, if_pos hc]
      exact ⟨rfl, _, hg _ _ hB, by simp, by simp [Blk.loose]⟩
     ·cases h
    ·cases h
   ·cases h
  ·cases h
 | panic x =>
  simp only at h
  split at h
  ·rename_i t v hx
   cases h
   simp only [aop, hx]
   exact ⟨rfl, trivial⟩
  ·cases h
 | call c =>
  simp only at h
  split at h
  ·cases h
  ·rename_i args ha
   exact callT_sound hg hn ha h
 | _ => exact plainT_sound rfl h
end
end Go.Vm

namespace Go.Vm
abbrev Arm := Program → Bool → (Nat → Option Blk) → Nat → (Operand → Option AV) → Oper → Option DR
noncomputable section
def onAV {α : Type} (f : AV → Option α) (x : Option AV) : Option α := Option.rec none (fun v => f v) x
def sameR (x : Option AV) : Option DR := Option.rec none (fun v => some (.val v .same)) x
def sameD (x : Option Dl) : Option DR := Option.rec none (fun d => some (.val (.lit undef) d)) x
def litBool (v : Value) : Option Bool := match v with | .bool b => some b | _ => none
def avBool (a : AV) : Option Bool := match a with | .lit v => litBool v | _ => none
def avTup (a : AV) : Option (List AV) := match a with | .tup vs => some vs | _ => none
def pickB (b : Bool) (x y : Option AV) : Option AV := Bool.rec y x b
def aMove : Operand → Arm := fun x _ _ _ _ ρ _ => sameR (ρ x)
def aPick : Operand → Operand → Operand → Arm := fun c a b _ _ _ _ ρ _ => sameR (onAV (fun v => Option.rec none (fun t => pickB t (ρ a) (ρ b)) (avBool v)) (ρ c))
def aLoad : TypeId → Operand → Arm := fun t x P _ g _ ρ _ => sameR (onAV (fun a => loadT P g t a) (ρ x))
def aStore : TypeId → Operand → Operand → Arm := fun t x y P _ g _ ρ _ => sameD (onAV (fun a => onAV (fun u => storeT P g t a u) (ρ y)) (ρ x))
def aBin : BinOp → TypeId → Operand → Operand → TypeId → Arm := fun op t x y _ P _ _ _ ρ _ => sameR (onAV (fun a => onAV (fun b => binB P op t a b) (ρ y)) (ρ x))
def aUn : UnOp → TypeId → Operand → Arm := fun op _ x _ _ _ _ ρ _ => sameR (onAV (fun a => unA op a) (ρ x))
def aField : TypeId → Operand → Nat → Arm := fun t x i P _ _ _ ρ _ => sameR (onAV (fun a => fieldA P t a i) (ρ x))
def aFieldAddr : TypeId → Operand → Nat → Arm := fun t x i P _ _ _ ρ _ => sameR (onAV (fun a => fieldOp P t a i) (ρ x))
def aIndexAddr : TypeId → Operand → Operand → Arm := fun t x y P _ _ _ ρ _ => sameR (onAV (fun a => onAV (fun b => indexOp P t a b) (ρ y)) (ρ x))
def aIndex : TypeId → Operand → Operand → Arm := fun t x y P _ _ _ ρ _ => sameR (onAV (fun a => onAV (fun b => indexA P t a b) (ρ y)) (ρ x))
def aExtract : Operand → Nat → Arm := fun x i _ _ _ _ ρ _ => sameR (onAV (fun a => Option.rec none (fun vs => vs[i]?) (avTup a)) (ρ x))
def aCall : Call → Arm := fun c P m g n ρ _ => Option.rec none (fun args => callT P m g n ρ args c) (aevs ρ c.args.toList)
def arms (op : Op) : Arm :=
 Op.rec (motive := fun _ => Arm) aMove aMove aPick (fun _ => aopT) (fun _ _ => aopT) (fun _ _ => aopT) (fun _ _ _ => aopT) (fun _ _ _ _ => aopT) aLoad aStore (fun _ => aopT) (fun _ => aopT) (fun _ => aopT) aBin aUn
  (fun _ _ _ => aopT) (fun _ _ => aopT) (fun _ _ => aopT) (fun _ _ _ => aopT) (fun _ _ => aopT) (fun _ _ => aopT) (fun _ _ _ => aopT) (fun _ _ _ _ _ => aopT) aFieldAddr aField aIndexAddr aIndex (fun _ _ _ _ => aopT) (fun _ _ _ _ => aopT)
  (fun _ _ _ => aopT) (fun _ _ _ _ => aopT) (fun _ _ => aopT) (fun _ _ => aopT) (fun _ => aopT) (fun _ _ _ _ => aopT) aExtract aCall (fun _ => aopT) (fun _ => aopT) (fun _ => aopT) (fun _ _ => aopT) (fun _ _ _ => aopT) (fun _ _ => aopT) op
def aopF : Arm := fun P m g n ρ o => arms o.op P m g n ρ o
theorem aopF_eq (P : Program) (m : Bool) (g : Nat → Option Blk) (n : Nat) (ρ : Operand → Option AV) (o : Oper) : aopF P m g n ρ o = aopT P m g n ρ o := by
  obtain ⟨dst, op, ty, pos, after, guard⟩ := o
  cases op with
  | move x => simp only [aopF, arms, aMove, aopT, plainT, aop]; cases ρ x <;> rfl
  | assign x => simp only [aopF, arms, aMove, aopT, plainT, aop]; cases ρ x <;> rfl
  | pick c a b =>
    simp only [aopF, arms, aPick, aopT, plainT, aop]
    cases ρ c with
    | none => rfl
    | some v =>
      cases v with
      | lit v => cases v with
        | bool t => cases t <;> simp only [if_true, Bool.false_eq_true, if_false]; (cases ρ b <;> rfl); (cases ρ a <;> rfl)
        | _ => rfl
      | _ => rfl
  | load t x => simp only [aopF, arms, aLoad, aopT]; cases ρ x with | none => rfl | some a => (simp only [onAV]; cases loadT P g t a <;> rfl)
  | store t x y => simp only [aopF, arms, aStore, aopT]; cases ρ x <;> cases ρ y <;> first | rfl | (simp only [onAV]; cases storeT P g t _ _ <;> rfl)
  | binOp op t x y _ => simp only [aopF, arms, aBin, aopT, plainT, aop]; cases ρ x <;> cases ρ y <;> first | rfl | (simp only [onAV]; cases binB P op t _ _ <;> rfl)
  | unOp op t x => simp only [aopF, arms, aUn, aopT, plainT, aop]; cases ρ x with | none => rfl | some a => (simp only [onAV, Option.bind_some]; cases unA op a <;> rfl)
  | field t x i => simp only [aopF, arms, aField, aopT, plainT, aop]; cases ρ x with | none => rfl | some a => (simp only [onAV, Option.bind_some]; cases fieldA P t a i <;> rfl)
  | fieldAddr t x i => simp only [aopF, arms, aFieldAddr, aopT, plainT, aop]; cases ρ x with | none => rfl | some a => (simp only [onAV, Option.bind_some]; cases fieldOp P t a i <;> rfl)
  | indexAddr t x y => simp only [aopF, arms, aIndexAddr, aopT, plainT, aop]; cases ρ x <;> cases ρ y <;> first | rfl | (simp only [onAV]; cases indexOp P t _ _ <;> rfl)
  | index t x y => simp only [aopF, arms, aIndex, aopT, plainT, aop]; cases ρ x <;> cases ρ y <;> first | rfl | (simp only [onAV]; cases indexA P t _ _ <;> rfl)
  | extract x i =>
    simp only [aopF, arms, aExtract, aopT, plainT, aop]
    cases ρ x with
    | none => rfl
    | some v => cases v <;> try rfl
                rename_i vs
                simp only [onAV, avTup]
                cases vs[i]? <;> rfl
  | call c => simp only [aopF, arms, aCall, aopT]; cases aevs ρ c.args.toList <;> rfl
  | _ => rfl
def avWant (want : Bool) (a : AV) : Option Bool := match a with
 | .lit (.bool b) => some (b == want)
 | .lit (.tuple _) => some false
 | _ => none
def wantG (p : Nat × Bool) (ops : Array Oper) (vars : Trie AV) : Option Bool :=
 match (ops[p.1]?).bind (·.dst) with
 | none => none
 | some t => Option.rec none (fun a => avWant p.2 a) (get vars t)
def wantF (ops : Array Oper) (vars : Trie AV) (o : Oper) : Option Bool :=
 Option.rec (motive := fun _ => Array Oper → Trie AV → Option Bool) (fun _ _ => some true) wantG o.guard ops vars
theorem wantF_eq (ops : Array Oper) (vars : Trie AV) (o : Oper) : wantF ops vars o = wantedA ops vars o := by
 obtain ⟨dst, op, ty, pos, after, guard⟩ := o
 unfold wantF wantedA
 cases guard with
 | none => rfl
 | some p =>
  obtain ⟨j, want⟩ := p
  simp only [wantG]
  cases (ops[j]?).bind (·.dst) with
  | none => rfl
  | some t => 
   simp only
   cases get vars t with
   | none => rfl
   | some a =>
    cases a <;> try rfl
    rename_i v; cases v <;> rfl
theorem aopF_fun : aopF = aopT := by funext P m g n ρ o; exact aopF_eq P m g n ρ o
theorem wantF_fun : wantF = wantedA := by funext a b c; exact wantF_eq a b c
end
end Go.Vm

namespace Go.Vm
structure ES where
 vars : Trie AV
 t : Trie Blk
 n : Nat
 defs : List Nat
inductive ER where
 | fail (why : String)
 | ok (x : AExit) (e : ES) (lo : Nat)
inductive CR where
 | fail (why : String)
 | ret (v : AV) (t : Trie Blk) (n lo : Nat)
 | pan (v : AV) (t : Trie Blk) (n lo : Nat)
abbrev CallT := FuncId → List AV → Trie Blk → Nat → CR
abbrev RoundT := Nat → List AV → Trie Blk → Nat → CR
mutual
def AV.underB (n : Nat) : AV → Bool
 | .lit _ => true
 | .agg cells => AV.undersB n cells
 | .tup vs => AV.undersB n vs
 | .ptr id _ => Nat.blt id n
 | .eptr cells => AV.undersB n cells
 | .sl _ cells tail => (match tail with | .own id _ _ => Nat.blt id n | _ => true) && AV.undersB n cells
 | .hsl id _ _ _ => Nat.blt id n
 | .mp id => Nat.blt id n
 | .fn _ first captured => AV.undersB n first && AV.undersB n captured
 | .yld id => Nat.blt id n
 | .iface _ v => AV.underB n v
 | .msl id _ _ _ => Nat.blt id n
 | .mptr id _ _ => Nat.blt id n
 | .mpx => true
def AV.undersB (n : Nat) : List AV → Bool
 | [] => true
 | a :: as => AV.underB n a && AV.undersB n as
end
noncomputable section
def evalT (vars : Trie AV) (x : Operand) : Option AV :=
 Operand.rec (motive := fun _ => Trie AV → Option AV) (fun t vars => get vars t) (fun v _ => some (.lit v)) (fun _ _ => none) (fun f _ => some (.lit (.func (.func f) #[] #[]))) x vars
def putT {α : Type} (k : Nat) (fail : α) (dst : Option Tmp) (v : AV) (vars : Trie AV) (c : Trie AV → α) : α :=
 match dst with
 | none => c vars
 | some d => bif Nat.blt d k then c (set vars d v) else fail
def lowT {α : Type} (lo id : Nat) (c : Nat → α) : α := bif Nat.ble lo id then c lo else c id
def maskOf (ops : Array Oper) : Nat :=
 let B := befs ops.toList []
 (List.range ops.size).foldl (fun s i => if (match ops[i]? with | some o => !light o | none => false) && ((List.range i).all fun p => (B.getD i 0).testBit p) &&
  ((List.range ops.size).all fun k => decide (k ≤ i) || (B.getD k 0).testBit i) then s + 2 ^ i else s) 0
def hoistT (P : Program) (l : List Oper) : Nat → Trie Blk → Trie Blk :=
 List.rec (fun _ t => t) (fun o _ ih j t => match layB P o with | some B => ih (Nat.succ j) (set t j B) | none => ih (Nat.succ j) t) l
def noLay (P : Program) (l : List Oper) : Bool := l.all fun o => (layB P o).isNone
section
variable (P : Program) (m : Bool) (call : CallT) (round : RoundT) (k : Nat) (d : List Nat)
def evOp (ops : Array Oper) (o : Oper) (vars : Trie AV) (t : Trie Blk) (n lo : Nat) (c : Trie AV → Trie Blk → Nat → Nat → ER) : ER :=
  match wantF ops vars o with
  | none => .fail o.pos
  | some false => putT k (.fail o.pos) o.dst (.lit undef) vars fun vars' => c vars' t n lo
  | some true => match aopF P m (get t) n (evalT vars) o with
    | none => .fail o.pos
    | some (.val v .same) => putT k (.fail o.pos) o.dst v vars fun vars' => c vars' t n lo
    | some (.val v (.push B)) => putT k (.fail o.pos) o.dst v vars fun vars' => c vars' (set t n B) (Nat.succ n) lo
    | some (.val v (.set id B)) => putT k (.fail o.pos) o.dst v vars fun vars' => lowT lo id fun lo' => c vars' (set t id B) n lo'
    | some (.call f args) => bif callable P f then match call f args t n with
        | .fail w => .fail w
        | .ret v t' n' l => putT k (.fail o.pos) o.dst v vars fun vars' => lowT lo l fun lo' => c vars' t' n' lo'
        | .pan v t' n' l => lowT lo l fun lo' => .ok (.pan v) ⟨vars, t', n', d⟩ lo'
      else .fail o.pos
    | some (.round id args) => match round id args t n with
        | .ret v t' n' l => putT k (.fail o.pos) o.dst v vars fun vars' => lowT lo l fun lo' => c vars' t' n' lo'
        | .fail w => .fail w
        | .pan _ _ _ _ => .fail o.pos
    | some (.pan v) => .ok (.pan v) ⟨vars, t, n, d⟩ lo
def evOps (ops : Array Oper) (l : List Oper) : Trie AV → Trie Blk → Nat → Nat → ER :=
 List.rec (fun vars t n lo => .ok .normal ⟨vars, t, n, d⟩ lo) (fun o _ ih vars t n lo => evOp P m call round k d ops o vars t n lo ih) l
def memN (l : List Nat) (id : Nat) : Bool := List.rec false (fun a _ ih => bif Nat.beq a id then true else ih) l
def hideT (W : Option (List Nat)) (t : Trie Blk) (id : Nat) : Option Blk :=
 match W with
 | none => get t id
 | some W => bif memN W id then none else match get t id with
  | some (.row _) => none
  | x => x
def inW (W : Option (List Nat)) (id : Nat) : Bool :=
 match W with
 | none => true
 | some W => memN W id
def evSeg (ops : Array Oper) (mask n0 : Nat) (W : Option (List Nat)) (l : List Oper) : Nat → Trie Blk → Nat → Trie AV → Trie Blk → Nat → Nat → ER :=
 List.rec (fun _ _ _ vars t n lo => .ok .normal ⟨vars, t, n, d⟩ lo)
  (fun o rest ih i tb nb vars t n lo =>
   bif Nat.testBit mask i then
    evOp P m call round k d ops o vars t n noLo fun vars' t' n' l1 =>
     bif noLay P rest || Nat.ble n l1 then lowT lo l1 fun lo' => ih (Nat.succ i) t' n' vars' t' n' lo' else .fail o.pos
   else match okind o with
   | .plain => match wantF ops vars o with
    | none => .fail o.pos
    | some false => putT k (.fail o.pos) o.dst (.lit undef) vars fun vars' => ih (Nat.succ i) tb nb vars' t n lo
    | some true => match aopF P m (hideT W tb) nb (evalT vars) o with
     | some (.val v .same) => putT k (.fail o.pos) o.dst v vars fun vars' => ih (Nat.succ i) tb nb vars' t n lo
     | _ => .fail o.pos
   | .lay => match wantF ops vars o with
    | none => .fail o.pos
    | some false => putT k (.fail o.pos) o.dst (.lit undef) vars fun vars' => ih (Nat.succ i) tb nb vars' t n lo
    | some true => match layB P o with
     | some _ => putT k (.fail o.pos) o.dst (layV o (n0 + i)) vars fun vars' => ih (Nat.succ i) tb nb vars' t n lo
     | none => .fail o.pos
   | .eff => match wantF ops vars o, aopF P m (get t) n (evalT vars) o with
    | some true, some (.val v (.set id (.row g))) => putT k (.fail o.pos) o.dst v vars fun vars' => lowT lo id fun lo' => ih (Nat.succ i) tb nb vars' (set t id (.row g)) n lo'
    | _, _ => evOp P m call round k d ops o vars t n noLo fun vars' t' n' l1 =>
     bif Nat.ble n l1 then ih (Nat.succ i) tb nb vars' t' n' lo else .fail o.pos
   | .store => match wantF ops vars o with
    | some true => match aopF P m (get t) n (evalT vars) o with
     | some (.val v (.set id B)) => bif inW W id then putT k (.fail o.pos) o.dst v vars fun vars' => lowT lo id fun lo' => ih (Nat.succ i) tb nb vars' (set t id B) n lo' else .fail o.pos
     | _ => .fail o.pos
    | _ => .fail o.pos) l
def storeIds (mask : Nat) (vars : Trie AV) (l : List Oper) : Nat → List Nat :=
 List.rec (fun _ => []) (fun o _ ih i => bif Nat.testBit mask i then ih (Nat.succ i) else match o.op with
  | .store _ x _ | .mapUpdate _ x _ _ | .insert _ x _ _ | .next x _ => match evalT vars x with
   | some (.ptr id _) => id :: ih (Nat.succ i)
   | some (.mptr id _ _) => id :: ih (Nat.succ i)
   | some (.mp id) => id :: ih (Nat.succ i)
   | _ => ih (Nat.succ i)
  | _ => ih (Nat.succ i)) l
def hasStore (mask : Nat) (l : List Oper) : Nat → Bool :=
 List.rec (fun _ => false) (fun o _ ih i => bif Nat.testBit mask i then ih (Nat.succ i) else match okind o with
  | .store => true
  | _ => ih (Nat.succ i)) l
def evDrawW (ops : Array Oper) (W : Option (List Nat)) (vars : Trie AV) (t : Trie Blk) (n lo : Nat) : ER :=
 match evSeg P m call round k d ops (maskOf ops) n W ops.toList 0 (hoistT P ops.toList n t) (n + ops.size) vars (hoistT P ops.toList n t) (n + ops.size) lo with
 | .ok .normal e lo' => .ok .normal e lo'
 | .ok _ _ _ => .fail "draw"
 | .fail w => .fail w
def evDraw (ops : Array Oper) (vars : Trie AV) (t : Trie Blk) (n lo : Nat) : ER :=
 bif drawOk (maskOf ops) ops then
  bif hasStore (maskOf ops) ops.toList 0 then
   match evDrawW P m call round k d ops none vars t n lo with
   | .ok _ e _ => evDrawW P m call round k d ops (some (storeIds (maskOf ops) e.vars ops.toList 0)) vars t n lo
   | .fail w => .fail w
  else evDrawW P m call round k d ops (some []) vars t n lo
 else .fail "draw"
def evLoop (body : Trie AV → Trie Blk → Nat → List Nat → Nat → ER) (fuel : Nat) : Trie AV → Trie Blk → Nat → List Nat → Nat → ER :=
 Nat.rec (fun _ _ _ _ _ => .fail "loop") (fun _ ih vars t n d lo => match body vars t n d lo with
  | .ok .normal e lo' => ih e.vars e.t e.n e.defs lo'
  | r => r) fuel
def isBusy : LoopState → Bool
 | .busy => true
 | _ => false
def evRange (ro : Option Nat) (f : Operand) (ps : Array Tmp) (assign body : Code) (vars : Trie AV) (t : Trie Blk) (n : Nat) (d : List Nat) (lo : Nat) : ER :=
 match evalT vars f with
 | none => .fail "code"
 | some fv => match fnOf fv with
  | none => .fail "code"
  | some (f, first, captured) =>
   bif callable P f then
    match ro with
    | none => match call f (first ++ [.yld (n + 1)] ++ captured) (set t (n + 1) (.loop (loop0 ⟨k, vars, [], []⟩ ps assign body n))) (n + 2) with
     | .ret _ t2 n2 l => match get t2 (n + 1) with
      | some (.loop l') => bif isBusy l'.state then .fail "code" else match jumpTo l'.pending with
       | some x => lowT lo l fun lo' => .ok x ⟨vars, set t2 (n + 1) (.loop { l' with state := .exhausted }), n2, n :: d⟩ lo'
       | none => .fail "code"
      | _ => .fail "code"
     | .fail w => .fail w
     | .pan _ _ _ _ => .fail "range"
    | some ido => match get t ido with
     | some (.loop l0) => match call f (first ++ [.yld n] ++ captured) (set t n (.loop (loop0 ⟨k, vars, [], []⟩ ps assign body l0.defers))) (n + 1) with
      | .ret _ t2 n2 l => match get t2 n with
       | some (.loop l') => bif isBusy l'.state then .fail "code" else match jumpTo l'.pending with
        | some x => lowT lo l fun lo' => .ok x ⟨vars, set t2 n (.loop { l' with state := .exhausted }), n2, d⟩ lo'
        | none => .fail "code"
       | _ => .fail "code"
      | .fail w => .fail w
      | .pan _ _ _ _ => .fail "range"
     | _ => .fail "code"
   else .fail "code"
def evCode (ro : Option Nat) (c : Code) : Trie AV → Trie Blk → Nat → List Nat → Nat → ER :=
 Code.rec (motive := fun _ => Trie AV → Trie Blk → Nat → List Nat → Nat → ER)
  (fun vars t n d lo => .ok .normal ⟨vars, t, n, d⟩ lo)
  (fun _ ops draw vars t n d lo => match draw with
   | true => evDraw P m call round k d ops vars t n lo
   | false => evOps P m call round k d ops ops.toList vars t n lo)
  (fun _ _ iha ihb vars t n d lo => match iha vars t n d lo with
   | .ok .normal e lo' => ihb e.vars e.t e.n e.defs lo'
   | r => r)
  (fun c _ _ iha ihb vars t n d lo => match evalT vars c with
   | some (.lit (.bool true)) => iha vars t n d lo
   | some (.lit (.bool false)) => ihb vars t n d lo
   | _ => .fail "code")
  (fun i _ ih vars t n d lo => match ih vars t n d lo with
   | .ok (.exit j) e lo' => bif Nat.beq i j then .ok .normal e lo' else .ok (.exit j) e lo'
   | r => r)
  (fun _ ih vars t n d lo => evLoop ih 100000 vars t n d lo)
  (fun g ps assign body _ _ vars t n d lo => evRange P call k ro g ps assign body vars t n d lo)
  (fun i vars t n d lo => .ok (.exit i) ⟨vars, t, n, d⟩ lo)
  (fun _ ih vars t n d lo => ih vars t n d lo)
  (fun _ vars t n d lo => .ok .normal ⟨vars, t, n, d⟩ lo)
  (fun _ _ _ _ _ _ => .fail "code")
  (fun vars t n d lo => .ok .ret ⟨vars, t, n, d⟩ lo)
  (fun _ _ _ _ _ _ => .fail "code")
  c
def resT (g : Nat → Option Blk) (vars : Trie AV) : List ResultVar → Option (List AV)
 | [] => some []
 | .tmp t :: rs => match get vars t with
  | none => none
  | some v => match resT g vars rs with
   | none => none
   | some vs => some (v :: vs)
 | .cell t ty :: rs => match get vars t with
  | none => none
  | some a => match loadT P g ty a with
   | none => none
   | some v => match resT g vars rs with
    | none => none
    | some vs => some (v :: vs)
def spendT (l : List Nat) : Trie Blk → Trie Blk :=
 List.rec (fun t => t) (fun id _ ih t => ih (set t id .spent)) l
def nodupB : List Nat → Bool
 | [] => true
 | a :: l => l.all (fun b => !Nat.beq a b) && nodupB l
def evFin (results : List ResultVar) (t : Trie Blk) (n : Nat) (e : ES) (lo : Nat) : CR :=
 bif e.defs.all (fun d => Nat.ble n d && Nat.blt d e.n) && nodupB e.defs then
  match resT P (get (spendT e.defs e.t)) e.vars results with
  | none => .fail "code"
  | some vs => bif Nat.ble n lo && AV.underB n (resV vs) then .ret (resV vs) t n lo else .ret (resV vs) (spendT e.defs e.t) e.n lo
 else .fail "code"
def evBody (muts : FuncId → Bool) (f : FuncId) (args : List AV) (t : Trie Blk) (n : Nat) : CR :=
  match P.funcs[f]? with
  | none => .fail "code"
  | some fn => match fn.body with
    | none => .fail "code"
    | some c => bif Nat.ble args.length fn.ntmps then
        match evCode P (muts f) call round fn.ntmps none c (initVars 0 args) t n [] noLo with
        | .fail w => .fail w
        | .ok (.pan v) e lo => match e.defs with
          | [] => .pan v e.t e.n lo
          | _ => .fail "code"
        | .ok (.exit _) _ _ => .fail "code"
        | .ok .normal e lo => evFin P fn.results.toList t n e lo
        | .ok .ret e lo => evFin P fn.results.toList t n e lo
      else .fail "code"
def isReady : LoopState → Bool
 | .ready => true
 | _ => false
def evRoundBody (id : Nat) (args : List AV) (t : Trie Blk) (n : Nat) : CR :=
  match get t id with
  | some (.loop l) => bif Nat.beq args.length l.params.size && l.params.toList.all (fun t => Nat.blt t l.n) then
      match evCode P false call round l.n (some id) l.assign (putParams l.vars l.params.toList args) t n [] noLo with
      | .ok .normal e1 lo1 => match get e1.t id with
        | some (.loop l1) => bif isReady l1.state then
            lowT lo1 id fun lo1 => match evCode P false call round l.n (some id) l.body e1.vars (set e1.t id (.loop { l1 with state := .busy })) e1.n e1.defs lo1 with
            | .ok x e2 lo2 => match get e2.t id, jumpOf x with
              | some (.loop l2), some j => lowT lo2 id fun lo2 => .ret (.lit (.bool j.isNone)) (set e2.t id (.loop { l2 with state := if j.isNone then .ready else .done, pending := j })) e2.n lo2
              | _, _ => .fail "code"
            | .fail w => .fail w
          else .fail "code"
        | _ => .fail "round"
      | .fail w => .fail w
      | _ => .fail "round assign"
    else .fail "round params"
  | _ => .fail "no loop"
end
structure Know where
 muts : FuncId → Bool
 alone : FuncId → Bool
 told : FuncId → Option (CallT → CallT)
def forceN {α : Type} (n : Nat) (k : Nat → α) : α :=
 bif Nat.beq n 0 then k 0 else bif Nat.beq n 1 then k 1 else bif Nat.beq n 2 then k 2 else bif Nat.beq n 3 then k 3 else bif Nat.beq n 4 then k 4 else bif Nat.beq n 5 then k 5 else bif Nat.beq n 6 then k 6 else bif Nat.beq n 7 then k 7 else k n
def forceI {α : Type} (n : Int) (k : Int → α) : α := Int.rec (motive := fun _ => (Int → α) → α) (fun n k => forceN n fun m => k (Int.ofNat m)) (fun n k => forceN n fun m => k (Int.negSucc m)) n k
def forceK {α : Type} (d : IntKind) (k : IntKind → α) : α := match d with
 | .i64 => k .i64
 | .i32 => k .i32
 | .u8 => k .u8
 | d => k d
def forceV {α : Type} (v : Value) (k : Value → α) : α := match v with
 | .int d n => forceK d fun d => forceI n fun n => k (.int d n)
 | .bool b => match b with
  | true => k (.bool true)
  | false => k (.bool false)
 | v => k v
def forceT {α : Type} (t : Tail) (k : Tail → α) : α := match t with
 | .unk => k .unk
 | .full => k .full
 | t => k t
mutual
def AV.force {α : Type} : AV → (AV → α) → α
 | .lit v, k => forceV v fun v => k (.lit v)
 | .agg cells, k => AV.forces cells fun cells => k (.agg cells)
 | .tup vs, k => AV.forces vs fun vs => k (.tup vs)
 | .eptr cells, k => AV.forces cells fun cells => k (.eptr cells)
 | .sl len cells tail, k => forceN len fun len => AV.forces cells fun cells => forceT tail fun tail => k (.sl len cells tail)
 | .iface t v, k => AV.force v fun v => k (.iface t v)
 | .ptr id off, k => k (.ptr id off)
 | .hsl id off len cap, k => k (.hsl id off len cap)
 | .mp id, k => k (.mp id)
 | .fn f first captured, k => k (.fn f first captured)
 | .yld id, k => k (.yld id)
 | .msl id gen len sz, k => k (.msl id gen len sz)
 | .mptr id gen off, k => k (.mptr id gen off)
 | .mpx, k => k .mpx
def AV.forces {α : Type} : List AV → (List AV → α) → α
 | [], k => k []
 | a :: as, k => AV.force a fun a => AV.forces as fun as => k (a :: as)
end
def evAlone (body : CallT) : CallT := fun f args t n =>
 bif AV.undersB 0 (AV.forgets args) then
  AV.forces (AV.forgets args) fun args' => match body f args' .nil 0 with
  | .ret v _ _ _ => bif AV.underB 0 v.forget then .ret v.forget t n noLo else .fail "code"
  | _ => .fail "code"
 else body f args t n
def evN (P : Program) (K : Know) (fuel : Nat) : CallT × RoundT :=
  Nat.rec ⟨fun _ _ _ _ => .fail "fuel", fun _ _ _ _ => .fail "fuel"⟩ (fun _ ih =>
    ⟨fun f args t n => match K.told f with
      | some T => T ih.1 f args t n
      | none => bif K.alone f then evAlone (evBody P ih.1 ih.2 K.muts) f args t n else evBody P ih.1 ih.2 K.muts f args t n,
     fun id args t n => evRoundBody P ih.1 ih.2 id args t n⟩) fuel
end
end Go.Vm

namespace Go.Vm
variable {P : Program}
theorem ACall.cut_same {f : FuncId} {args : List AV} {H H' : List Blk} {r : AV} (h : ACall P f args H (.ret r) H') (hr : r.under H.length) (hs : ∀ id, id < H.length → H'[id]? = H[id]?) (hle : H.length ≤ H'.length) :
  ACall P f args H (.ret r) H := by
 intro O ι w cs hR hargs
 have hcall : CallsIn (Fr none) 0 P f cs w (EPost ⟨H, ι, w⟩ (.ret r) H') := h _ ι w cs hR hargs
 refine hcall.mono ?_
 rintro e w' ⟨ι', hend, hR', hev, hnon⟩
 have hH : H'.take H.length = H := by
  apply List.ext_getElem?
  intro id
  by_cases hlt : id < H.length
  ·rw [List.getElem?_take_of_lt hlt, hs id hlt]
  ·rw [List.getElem?_eq_none (by simp; omega), List.getElem?_eq_none (by omega)]
 have hb : ∀ id b wm, ι' id = some (b, wm) → id < H.length → ∀ B, H[id]? = some B → B.under H.length := by
  intro id b wm hi hlt B hB
  by_cases hx : ∃ p, ι id = some p
  ·obtain ⟨⟨b0, wm0⟩, hx⟩ := hx
   obtain ⟨B', hB', hrel⟩ := hR.blk id b0 wm0 hx
   have hB'' : H[id]? = some B' := hB'
   rw [hB] at hB''; cases hB''
   exact hrel.under
  ·have hnone : ι id = none := by cases hι : ι id with
    | none => rfl
    | some p => exact absurd ⟨p, hι⟩ hx
   cases B with
   | row g => trivial
   | mrow g c =>
    obtain ⟨B', g1, hB', hm, hle, k⟩ := hev.mtok id g c hB
    have hB2 : H'[id]? = some B' := hB'
    rw [hs id hlt, hB] at hB2; cases hB2
    simp only [Blk.mgen, Option.some.injEq] at hm; subst hm
    have := (k rfl).2.1
    have e2 : ι' id = ι id := this
    rw [hnone, hi] at e2; cases e2
   | _ =>
    have := hnon id ⟨_, hB, rfl⟩ hnone
    have e2 : ι' id = none := this
    rw [hi] at e2; cases e2
 cases e with
 | panicked chain => exact hend.elim
 | outgrown => exact hend.elim
 | returned c =>
  refine ⟨cutι ι' H.length, ?_, ?_, ?_, ?_⟩
  ·have := VRel.cut (S := ⟨H', ι', w'⟩) r c hr hend
   rw [hH] at this; exact this
  ·have hR2 : Rel ⟨H'.take H.length, cutι ι' H.length, w'⟩ := by
    refine ⟨fun id b wm e => ?_, fun i j b wm wm' ei ej => ?_, fun b x e => ?_⟩
    ·have e' : cutι ι' H.length id = some (b, wm) := e
     unfold cutι at e'
     split at e'
     ·rename_i hlt
      obtain ⟨B, hB, hrel⟩ := hR'.blk id b wm e'
      have hB' : H'[id]? = some B := hB
      exact ⟨B, by show (H'.take H.length)[id]? = _; rw [List.getElem?_take_of_lt hlt]; exact hB', BlkRel.cut (S := ⟨H', ι', w'⟩) hrel (hb id b wm e' hlt B (by rw [← hs id hlt]; exact hB'))⟩
     ·cases e'
    ·have ei' : cutι ι' H.length i = some (b, wm) := ei
     have ej' : cutι ι' H.length j = some (b, wm') := ej
     unfold cutι at ei' ej'
     split at ei' <;> split at ej' <;> first | exact hR'.inj i j b wm wm' ei' ej' | (cases ei') | (cases ej')
    ·obtain ⟨h1, h2⟩ := hR'.out b x e
     refine ⟨h1, fun i wm h => ?_⟩
     have h' : cutι ι' H.length i = some (b, wm) := h
     unfold cutι at h'
     split at h'
     ·exact h2 _ _ h'
     ·cases h'
   rw [hH] at hR2; exact hR2
  ·have := hev.cut
   simp only [hH] at this; exact this
  ·have := hnon.cut
   simp only [hH] at this; exact this
structure HT (t : Trie Blk) (n : Nat) (H : List Blk) : Prop where
 len : H.length = n
 blk : ∀ id B, get t id = some B → H[id]? = some B
theorem HT.nil : HT .nil 0 [] := ⟨rfl, fun id B h => by rw [get_nil] at h; cases h⟩
theorem HT.lt {t : Trie Blk} {n : Nat} {H : List Blk} (h : HT t n H) {id : Nat} {B : Blk} (hg : get t id = some B) : id < n := by
 rw [← h.len]; exact (List.getElem?_eq_some_iff.1 (h.blk id B hg)).1
theorem HT.skip {t : Trie Blk} {n : Nat} {H : List Blk} (h : HT t n H) (B : Blk) : HT t (n + 1) (H ++ [B]) :=
 ⟨by simp [h.len], fun id B' hg => by rw [List.getElem?_append_left (by have := h.lt hg; have := h.len; omega)]; exact h.blk id B' hg⟩
theorem HT.push {t : Trie Blk} {n : Nat} {H : List Blk} (h : HT t n H) (B : Blk) : HT (set t n B) (n + 1) (H ++ [B]) := by
 refine ⟨by simp [h.len], fun id B' hg => ?_⟩
 by_cases hid : n = id
 ·subst hid; rw [get_set_same] at hg; cases hg; simp [h.len]
 ·rw [get_set_other _ _ _ _ hid] at hg
  exact (h.skip B).blk id B' hg
theorem HT.set {t : Trie Blk} {n : Nat} {H : List Blk} (h : HT t n H) {id : Nat} (hlt : id < n) (B : Blk) : HT (Vm.set t id B) n (H.set id B) := by
 refine ⟨by simp [h.len], fun j B' hg => ?_⟩
 have hl := h.len
 by_cases hid : id = j
 ·subst hid; rw [get_set_same] at hg; cases hg; simp [hl, hlt]
 ·rw [get_set_other _ _ _ _ hid] at hg
  rw [List.getElem?_set_ne hid]; exact h.blk j B' hg
structure Keep (H H' : List Blk) (lo : Nat) : Prop where
 le : H.length ≤ H'.length
 low : ∀ id, id < lo → id < H.length → H'[id]? = H[id]?
 marks : keepsD H H'
theorem Keep.refl (H : List Blk) (lo : Nat) : Keep H H lo := ⟨Nat.le_refl _, fun _ _ _ => rfl, fun _ h => h⟩
theorem Keep.trans {H H1 H2 : List Blk} {lo lo' lo'' : Nat} (h : Keep H H1 lo) (h' : Keep H1 H2 lo') (h1 : lo'' ≤ lo) (h2 : lo'' ≤ lo') : Keep H H2 lo'' :=
 ⟨Nat.le_trans h.le h'.le, fun id a b => (h'.low id (by omega) (by have := h.le; omega)).trans (h.low id (by omega) b), h.marks.trans h'.marks⟩
theorem Keep.mono {H H' : List Blk} {lo lo' : Nat} (h : Keep H H' lo) (h1 : lo' ≤ lo) : Keep H H' lo' := h.trans (Keep.refl H' lo') h1 (Nat.le_refl _)
theorem Keep.append (H H2 : List Blk) (lo : Nat) : Keep H (H ++ H2) lo :=
 ⟨by simp, fun id _ h => List.getElem?_append_left h, keepsD_append H H2⟩
theorem Keep.set {H : List Blk} {id : Nat} {B0 B : Blk} (h : H[id]? = some B0) (hd : B0 ≠ .defd) : Keep H (H.set id B) id :=
 ⟨by simp, fun j h1 _ => List.getElem?_set_ne (by omega), fun j hj => by
  rw [List.getElem?_set_ne]
  ·exact hj
  ·rintro rfl; rw [h] at hj; cases hj; exact hd rfl⟩
theorem lowT_spec {α : Type} {Q : α → Prop} {lo id : Nat} {c : Nat → α} (h : ∀ l, l ≤ lo → l ≤ id → Q (c l)) : Q (lowT lo id c) := by
 unfold lowT
 cases hb : Nat.ble lo id with
 | true => exact h lo (Nat.le_refl _) (Nat.le_of_ble_eq_true hb)
 | false =>
  refine h id ?_ (Nat.le_refl _)
  have : ¬ lo ≤ id := fun hle => by rw [Nat.ble_eq_true_of_le hle] at hb; cases hb
  omega
theorem putT_spec {α : Type} {Q : α → Prop} {k : Nat} {fail : α} {dst : Option Tmp} {v : AV} {vars : Trie AV} {c : Trie AV → α} (hf : Q fail)
  (h : ∀ vars', (∀ H H' d, putA ⟨k, vars, H, d⟩ dst v H' = some ⟨k, vars', H', d⟩) → Q (c vars')) : Q (putT k fail dst v vars c) := by
 unfold putT
 cases dst with
 | none => exact h vars fun _ _ _ => rfl
 | some x =>
  simp only
  cases hb : Nat.blt x k with
  | false => exact hf
  | true =>
   refine h _ fun H H' d => ?_
   have : x < k := Nat.le_of_ble_eq_true hb
   simp [putA, this]
theorem evalT_eq (k : Nat) (vars : Trie AV) (H : List Blk) (d : List Nat) : evalT vars = St.eval ⟨k, vars, H, d⟩ := by
 funext x; cases x <;> rfl
def CRok (P : Program) (f : FuncId) (args : List AV) (t : Trie Blk) (n : Nat) : CR → Prop
 | .fail _ => True
 | .ret v t' n' lo => ∀ H, HT t n H → ∃ H', HT t' n' H' ∧ ACall P f args H (.ret v) H' ∧ Keep H H' lo
 | .pan v t' n' lo => ∀ H, HT t n H → ∃ H', HT t' n' H' ∧ ACall P f args H (.pan v) H' ∧ Keep H H' lo
def SoundC (P : Program) (call : CallT) : Prop := ∀ f args t n, CRok P f args t n (call f args t n)
def RRok (P : Program) (id : Nat) (args : List AV) (t : Trie Blk) (n : Nat) : CR → Prop
 | .ret v t' n' lo => ∀ H, HT t n H → ∃ H', HT t' n' H' ∧ ARound P id args H (.ret v) H' ∧ Keep H H' lo
 | _ => True
def SoundR (P : Program) (round : RoundT) : Prop := ∀ id args t n, RRok P id args t n (round id args t n)
def ER.holds (k : Nat) (H0 : List Blk) (Q : AExit → St → Prop) : ER → Prop
 | .fail _ => True
 | .ok x e lo => ∃ H, HT e.t e.n H ∧ Keep H0 H lo ∧ Q x ⟨k, e.vars, H, e.defs⟩
def ER.normal (k : Nat) (H0 : List Blk) (Q : St → Prop) : ER → Prop
 | .ok .normal e lo => ∃ H, HT e.t e.n H ∧ Keep H0 H lo ∧ Q ⟨k, e.vars, H, e.defs⟩
 | _ => True
inductive One (P : Program) (m : Bool) (ops : Array Oper) (o : Oper) (σ σ1 : St) : Prop
 | skip (hw : wantedA ops σ.vars o = some false) (hp : putA σ o.dst (.lit undef) σ.H = some σ1)
 | does {r : AR} {v : AV} {H' : List Blk} (hw : wantedA ops σ.vars o = some true) (ha : aop P m σ.H σ.eval o = some r) (hr : Does P r σ.H v H') (hd : keepsD σ.H H') (hp : putA σ o.dst v H' = some σ1)
theorem One.step {m : Bool} {ops : Array Oper} {i : Nat} {o : Oper} {σ σ1 : St} (ho : ops[i]? = some o) (h : One P m ops o σ σ1) : AStep P ops i σ σ1 := by
 cases h with
 | skip hw hp => exact .skip ho hw hp
 | does hw ha hr hd hp =>
  rcases hr with rfl | ⟨f, args, rfl, hc, hcall⟩ | ⟨id, args, rfl, hround⟩
  ·exact .val ho hw ha hd hp
  ·exact .call ho hw ha hc hcall hd hp
  ·exact .round ho hw ha hround hd hp
section
variable {m : Bool} {call : CallT} {round : RoundT} {k : Nat} {d : List Nat} (hc : SoundC P call) (hr : SoundR P round)
include hc hr
theorem evOp_spec {ops : Array Oper} {o : Oper} {vars : Trie AV} {t : Trie Blk} {n lo : Nat} {c : Trie AV → Trie Blk → Nat → Nat → ER} {H : List Blk} {i : Nat} (ho : ops[i]? = some o) (hH : HT t n H) {Q : ER → Prop} (hfail : ∀ w, Q (.fail w))
  (hstep : ∀ vars' t' n' lo' H', HT t' n' H' → Keep H H' lo' → lo' ≤ lo → One P m ops o ⟨k, vars, H, d⟩ ⟨k, vars', H', d⟩ → Q (c vars' t' n' lo'))
  (hpan : ∀ v t' n' lo' H', HT t' n' H' → Keep H H' lo' → lo' ≤ lo → (∀ l, APanics P ops (i :: l) ⟨k, vars, H, d⟩ v ⟨k, vars, H', d⟩) → Q (.ok (.pan v) ⟨vars, t', n', d⟩ lo')) :
  Q (evOp P m call round k d ops o vars t n lo c) := by
 unfold evOp
 rw [aopF_fun, wantF_fun]
 cases hw : wantedA ops vars o with
 | none => exact hfail _
 | some b =>
 cases b with
 | false =>
  simp only
  exact putT_spec (hfail _) fun vars' hp => hstep vars' t n lo H hH (Keep.refl _ _) (Nat.le_refl _) (.skip hw (hp H H d))
 | true =>
 simp only
 cases ha : aopT P m (get t) n (evalT vars) o with
 | none => exact hfail _
 | some r =>
 obtain ⟨ha', hokD⟩ := aopT_sound (H := H) hH.blk hH.len ha
 rw [evalT_eq k vars H d] at ha'
 cases r with
 | val v dl =>
  cases dl with
  | same => exact putT_spec (hfail _) fun vars' hp => hstep vars' t n lo H hH (Keep.refl _ _) (Nat.le_refl _) (.does hw ha' (.inl rfl) (fun _ h => h) (hp H H d))
  | push B => exact putT_spec (hfail _) fun vars' hp => hstep vars' _ _ lo (H ++ [B]) (hH.push B) (Keep.append _ _ _) (Nat.le_refl _) (.does hw ha' (.inl rfl) (keepsD_append _ _) (hp H _ d))
  | set id B =>
   obtain ⟨B0, hB0, hd0, _⟩ := hokD
   have hlt : id < n := by rw [← hH.len]; exact (List.getElem?_eq_some_iff.1 hB0).1
   have hk : Keep H (H.set id B) id := Keep.set hB0 hd0
   exact putT_spec (hfail _) fun vars' hp => lowT_spec fun l h1 h2 => hstep vars' _ _ l (H.set id B) (hH.set hlt B) (hk.mono h2) h1 (.does hw ha' (.inl rfl) hk.marks (hp H _ d))
 | call f args =>
  simp only
  cases hcal : callable P f with
  | false => exact hfail _
  | true =>
  simp only [cond_true]
  have hcf := hc f args t n
  cases hres : call f args t n with
  | fail w => exact hfail _
  | ret v t' n' l =>
   rw [hres] at hcf
   obtain ⟨H', hH', hcall, hk⟩ := hcf H hH
   exact putT_spec (hfail _) fun vars' hp => lowT_spec fun l h1 h2 => hstep vars' _ _ l H' hH' (hk.mono h2) h1 (.does hw ha' (.inr (.inl ⟨f, args, rfl, hcal, hcall⟩)) hk.marks (hp H _ d))
  | pan v t' n' l =>
   rw [hres] at hcf
   obtain ⟨H', hH', hcall, hk⟩ := hcf H hH
   exact lowT_spec fun l h1 h2 => hpan v t' n' l H' hH' (hk.mono h2) h1 fun _ => .call ho hw ha' hcal hcall hk.marks
 | round id args =>
  simp only
  have hcf := hr id args t n
  cases hres : round id args t n with
  | fail w => exact hfail _
  | ret v t' n' l =>
   rw [hres] at hcf
   obtain ⟨H', hH', hcall, hk⟩ := hcf H hH
   exact putT_spec (hfail _) fun vars' hp => lowT_spec fun l h1 h2 => hstep vars' _ _ l H' hH' (hk.mono h2) h1 (.does hw ha' (.inr (.inr ⟨id, args, rfl, hcall⟩)) hk.marks (hp H _ d))
  | pan v t' n' l => exact hfail _
 | pan v => exact hpan v t n lo H hH (Keep.refl _ _) (Nat.le_refl _) fun _ => .op ho hw ha'
theorem evOps_sound {ops : Array Oper} {H0 : List Blk} : ∀ (l : List Oper) (i : Nat), (∀ j, l[j]? = ops[i + j]?) → ∀ vars t n lo H, HT t n H → Keep H0 H lo →
  (evOps P m call round k d ops l vars t n lo).holds k H0 fun x σ' => (x = .normal ∧ APath P ops (List.range' i l.length) ⟨k, vars, H, d⟩ σ') ∨ ∃ v, x = .pan v ∧ APanics P ops (List.range' i l.length) ⟨k, vars, H, d⟩ v σ'
 | [], i, _, vars, t, n, lo, H, hH, hk => ⟨H, hH, hk, .inl ⟨rfl, .nil⟩⟩
 | o :: l, i, hl, vars, t, n, lo, H, hH, hk => by
  have ho : ops[i]? = some o := by have := hl 0; simpa using this.symm
  have hl' : ∀ j, l[j]? = ops[i + 1 + j]? := fun j => by have := hl (j + 1); simpa [Nat.add_assoc, Nat.add_comm 1 j] using this
  show (evOp P m call round k d ops o vars t n lo (evOps P m call round k d ops l)).holds k H0 _
  refine evOp_spec hc hr ho hH (Q := fun r => ER.holds k H0 _ r) (fun _ => trivial) (fun vars' t' n' lo' H' hH' hk' hlo h1 => ?_) (fun v t' n' lo' H' hH' hk' hlo h1 => ?_)
  ·have ih := evOps_sound l (i + 1) hl' vars' t' n' lo' H' hH' (hk.trans hk' hlo (Nat.le_refl _))
   generalize evOps P m call round k d ops l vars' t' n' lo' = r at ih ⊢
   cases r with
   | fail w => trivial
   | ok x e lo2 =>
    obtain ⟨H2, a, b, q⟩ := ih
    refine ⟨H2, a, b, ?_⟩
    rcases q with ⟨q1, q2⟩ | ⟨v, q1, q2⟩
    ·exact .inl ⟨q1, .cons (h1.step ho) q2⟩
    ·exact .inr ⟨v, q1, .cons (h1.step ho) q2⟩
  ·exact ⟨H', hH', hk.trans hk' hlo (Nat.le_refl _), .inr ⟨v, rfl, h1 _⟩⟩
omit hc hr in
theorem HLe_of_keep {H H' : List Blk} {lo : Nat} (h : Keep H H' lo) (hn : H.length ≤ lo) : HLe H H' := fun id B hB _ => by
 have hlt := (List.getElem?_eq_some_iff.1 hB).1
 rw [h.low id (by omega) hlt]; exact hB
def Ag (W : List Nat) (tb : Trie Blk) (H : List Blk) : Prop := ∀ id B, hideT (some W) tb id = some B → H[id]? = some B
omit hc hr in
theorem hideT_get {W : List Nat} {tb : Trie Blk} {id : Nat} {B : Blk} (h : hideT (some W) tb id = some B) : get tb id = some B ∧ B.loose = false ∧ memN W id = false := by
 unfold hideT at h
 simp only at h
 cases hm : memN W id with
 | true => rw [hm] at h; cases h
 | false =>
  rw [hm] at h
  simp only [cond_false] at h
  split at h
  ·cases h
  ·rename_i hx
   refine ⟨h, ?_, rfl⟩
   cases B with
   | row g => exact absurd h (hx g)
   | _ => rfl
omit hc hr in
theorem Ag.le {W : List Nat} {tb : Trie Blk} {H H' : List Blk} (h : Ag W tb H) (hle : HLe H H') : Ag W tb H' := fun id B hB => hle id B (h id B hB) (hideT_get hB).2.1
omit hc hr in
theorem Ag.of {W : List Nat} {t : Trie Blk} {n : Nat} {H : List Blk} (h : HT t n H) : Ag W t H := fun id B hB => h.blk id B (hideT_get hB).1
omit hc hr in
theorem aopT_same {g : Nat → Option Blk} {n : Nat} (n' : Nat) {ρ : Operand → Option AV} {o : Oper} {v : AV} (hk : okind o = .plain) (h : aopT P m g n ρ o = some (.val v .same)) : aopT P m g n' ρ o = some (.val v .same) := by
 obtain ⟨dst, op, ty, pos, after, guard⟩ := o
 cases op with
 | alloc => simp [okind] at hk
 | box => simp [okind] at hk
 | makeSlice => simp [okind] at hk
 | range => simp [okind] at hk
 | next => simp [okind] at hk
 | makeMap t r => cases r <;> simp [okind] at hk
 | call c =>
  obtain ⟨callee, cargs, argTypes⟩ := c
  cases callee with
  | value f => simp [okind] at hk
  | invoke r m => simp [okind] at hk
  | builtin b => cases b <;> simp only [okind, reduceCtorEq] at hk <;> exact h
 | _ => exact h
theorem evSeg_sound {ops : Array Oper} {mask n0 : Nat} {W : List Nat} {H0 : List Blk} : ∀ (l : List Oper) (i : Nat), (∀ j, l[j]? = ops[i + j]?) → ∀ tb nb vars t n lo H, Ag W tb H → HT t n H → n0 + ops.size ≤ n → Keep H0 H lo →
    ER.normal k H0 (fun σ' => ∃ Hs' : List (List Blk), (∀ H1 ∈ Hs', Ag W tb H1) ∧ ∀ Hs, (∀ H1 ∈ Hs', H1 ∈ Hs) → (∀ H1 ∈ Hs, Ag W tb H1) → DPath P ops (alAt P n0 ops) mask Hs (List.range' i l.length) ⟨k, vars, H, d⟩ σ')
      (evSeg P m call round k d ops mask n0 (some W) l i tb nb vars t n lo)
  | [], i, _, tb, nb, vars, t, n, lo, H, _, hH, _, hk => ⟨H, hH, hk, [], (fun _ h => by cases h), fun _ _ _ => .nil⟩
  | o :: l, i, hl, tb, nb, vars, t, n, lo, H, hag, hH, hn0, hk => by
    have ho : ops[i]? = some o := by have := hl 0; simpa using this.symm
    have hl' : ∀ j, l[j]? = ops[i + 1 + j]? := fun j => by have := hl (j + 1); simpa [Nat.add_assoc, Nat.add_comm 1 j] using this
    -- one step that is no barrier
    have go : ∀ vars' t' n' lo' H' (hm : mask.testBit i = false), HT t' n' H' → Ag W tb H' → Keep H H' lo' → lo' ≤ lo →
        (∀ Hs, H' ∈ Hs ∨ HLe H H' → (∀ H1 ∈ Hs, Ag W tb H1) → DStep P ops (alAt P n0 ops) Hs i ⟨k, vars, H, d⟩ ⟨k, vars', H', d⟩) →
        ER.normal k H0 (fun σ' => ∃ Hs' : List (List Blk), (∀ H1 ∈ Hs', Ag W tb H1) ∧ ∀ Hs, (∀ H1 ∈ Hs', H1 ∈ Hs) → (∀ H1 ∈ Hs, Ag W tb H1) → DPath P ops (alAt P n0 ops) mask Hs (List.range' i (o :: l).length) ⟨k, vars, H, d⟩ σ')
          (evSeg P m call round k d ops mask n0 (some W) l (i + 1) tb nb vars' t' n' lo') := by
      intro vars' t' n' lo' H' hm hH' hag' hk' hlo hs
      have ih := evSeg_sound (mask := mask) (n0 := n0) (W := W) l (i + 1) hl' tb nb vars' t' n' lo' H' hag' hH' (by have := hk'.le; have := hH.len; have := hH'.len; omega) (hk.trans hk' hlo (Nat.le_refl _))
      generalize evSeg P m call round k d ops mask n0 (some W) l (i + 1) tb nb vars' t' n' lo' = r at ih ⊢
      cases r with
      | fail w => trivial
      | ok x e lo2 =>
        cases x with
        | normal =>
          obtain ⟨H2, a, b, Hs', q1, q2⟩ := ih
          refine ⟨H2, a, b, H' :: Hs', ?_, fun Hs h1 h2 => .cons hm (hs Hs (.inl (h1 _ (by simp))) h2) (q2 Hs (fun H1 h => h1 H1 (by simp [h])) h2)⟩
          intro H1 h
          rcases List.mem_cons.1 h with rfl | h
          · exact hag'
          · exact q1 H1 h
        | _ => trivial
    show ER.normal k H0 _ (bif Nat.testBit mask i then _ else _ : ER)
    cases hm : Nat.testBit mask i with
    | true =>
      simp only [cond_true]
      refine evOp_spec hc hr ho hH (Q := fun r => ER.normal k H0 _ r) (fun _ => trivial) (fun vars' t' n' l1 H' hH' hk' _ h1 => ?_) (fun v t' n' lo' H' hH' hk' hlo h1 => trivial)
      cases hcond : (noLay P l || Nat.ble n l1) with
      | false => trivial
      | true =>
      simp only [cond_true]
      refine lowT_spec (Q := fun r => ER.normal k H0 _ r) fun lo' h2 h3 => ?_
      have ih := evSeg_sound (mask := mask) (n0 := n0) (W := W) l (i + 1) hl' t' n' vars' t' n' lo' H' (Ag.of hH') hH' (by have := hk'.le; have := hH.len; have := hH'.len; omega) (hk.trans hk' h2 h3)
      show ER.normal k H0 _ (evSeg P m call round k d ops mask n0 (some W) l (i + 1) t' n' vars' t' n' lo')
      generalize evSeg P m call round k d ops mask n0 (some W) l (i + 1) t' n' vars' t' n' lo' = r at ih ⊢
      cases r with
      | fail w => trivial
      | ok x e lo2 =>
        cases x with
        | normal =>
          obtain ⟨H2, a, b, Hs', q1, q2⟩ := ih
          refine ⟨H2, a, b, [], (fun _ h => by cases h), fun Hs _ _ => .barrier (Hs' := H' :: Hs') hm (h1.step ho) (fun j hj id hal => ?_) ⟨H', by simp, HLe.refl _⟩
            (q2 (H' :: Hs') (fun H1 h => by simp [h]) fun H1 h => ?_)⟩
          · have hal' := alAt_spec hal
            rw [Bool.or_eq_true] at hcond
            rcases hcond with hcond | hcond
            · exfalso
              unfold noLay at hcond
              rw [List.all_eq_true] at hcond
              rw [List.mem_range'_1] at hj
              have hj2 : l[j - (i + 1)]? = ops[j]? := by rw [hl']; congr 1; omega
              unfold alAt at hal
              split at hal
              · rename_i oj hoj
                rw [hoj] at hj2
                have := hcond oj (List.mem_of_getElem? hj2)
                split at hal
                · rename_i B hB; rw [hB] at this; simp at this
                · cases hal
              · cases hal
            · have hle1 := Nat.le_of_ble_eq_true hcond
              show H'[id]? = H[id]?
              exact hk'.low id (by omega) (by rw [hH.len]; omega)
          · rcases List.mem_cons.1 h with rfl | h
            · exact Ag.of hH'
            · exact q1 H1 h
        | _ => trivial
    | false =>
      simp only [cond_false]
      have skip : ∀ (hw : wantedA ops vars o = some false), ER.normal k H0 (fun σ' => ∃ Hs' : List (List Blk), (∀ H1 ∈ Hs', Ag W tb H1) ∧ ∀ Hs, (∀ H1 ∈ Hs', H1 ∈ Hs) → (∀ H1 ∈ Hs, Ag W tb H1) → DPath P ops (alAt P n0 ops) mask Hs (List.range' i (o :: l).length) ⟨k, vars, H, d⟩ σ')
          (putT k (.fail o.pos) o.dst (.lit undef) vars fun vars' => evSeg P m call round k d ops mask n0 (some W) l (i + 1) tb nb vars' t n lo) := fun hw =>
        putT_spec (Q := fun r => ER.normal k H0 _ r) trivial fun vars' hp => go vars' t n lo H hm hH hag (Keep.refl _ _) (Nat.le_refl _) fun _ _ _ => ⟨o, _, H, ho, .skip hw, hp H H d⟩
      cases hok : okind o with
      | plain =>
        simp only
        cases hw : wantF ops vars o with
        | none => trivial
        | some b =>
        cases b with
        | false => exact skip (by rw [wantF_fun] at hw; exact hw)
        | true =>
          rw [wantF_fun] at hw
          simp only
          cases ha : aopF P m (hideT (some W) tb) nb (evalT vars) o with
          | none => trivial
          | some r =>
          cases r with
          | val v dl =>
            cases dl with
            | same =>
              have key : ∀ H1, Ag W tb H1 → aop P m H1 (St.eval ⟨k, vars, H, d⟩) o = some (.val v H1) := fun H1 h1 => by
                have := (aopT_sound (H := H1) h1 rfl (aopT_same H1.length hok (by rw [aopF_fun] at ha; exact ha))).1
                rw [evalT_eq k vars H d] at this
                exact this
              exact putT_spec (Q := fun r => ER.normal k H0 _ r) trivial fun vars' hp => go vars' t n lo H hm hH hag (Keep.refl _ _) (Nat.le_refl _) fun Hs _ hall =>
                ⟨o, v, H, ho, .plain hok hw (key H hag) (fun H1 h1 => key H1 (hall H1 h1)), hp H H d⟩
            | _ => trivial
          | _ => trivial
      | lay =>
        simp only
        cases hw : wantF ops vars o with
        | none => trivial
        | some b =>
        cases b with
        | false => exact skip (by rw [wantF_fun] at hw; exact hw)
        | true =>
          rw [wantF_fun] at hw
          simp only
          cases hB : layB P o with
          | none => trivial
          | some B =>
            exact putT_spec (Q := fun r => ER.normal k H0 _ r) trivial fun vars' hp => go vars' t n lo H hm hH hag (Keep.refl _ _) (Nat.le_refl _) fun _ _ _ =>
              ⟨o, layV o (n0 + i), H, ho, .lay hok hw hB (by simp [alAt, ho, hB]), hp H H d⟩
      | eff =>
        simp only
        have gen : ER.normal k H0 (fun σ' => ∃ Hs' : List (List Blk), (∀ H1 ∈ Hs', Ag W tb H1) ∧ ∀ Hs, (∀ H1 ∈ Hs', H1 ∈ Hs) → (∀ H1 ∈ Hs, Ag W tb H1) → DPath P ops (alAt P n0 ops) mask Hs (List.range' i (o :: l).length) ⟨k, vars, H, d⟩ σ')
            (evOp P m call round k d ops o vars t n noLo fun vars' t' n' l1 => bif Nat.ble n l1 then evSeg P m call round k d ops mask n0 (some W) l (i + 1) tb nb vars' t' n' lo else .fail o.pos) := by
          refine evOp_spec hc hr ho hH (Q := fun r => ER.normal k H0 _ r) (fun _ => trivial) (fun vars' t' n' l1 H' hH' hk' hl1 h1 => ?_) (fun v t' n' lo' H' hH' hk' hlo h1 => trivial)
          cases hcond : Nat.ble n l1 with
          | false => trivial
          | true =>
            simp only [cond_true]
            have hle1 := Nat.le_of_ble_eq_true hcond
            have hle2 : HLe H H' := HLe_of_keep hk' (by rw [hH.len]; exact hle1)
            have hk2 : Keep H H' lo := ⟨hk'.le, fun id _ hlt => hk'.low id (by have := hH.len; omega) hlt, hk'.marks⟩
            refine go vars' t' n' lo H' hm hH' (hag.le hle2) hk2 (Nat.le_refl _) fun Hs _ _ => ?_
            cases h1 with
            | skip hw hp => exact ⟨o, _, _, ho, .skip hw, hp⟩
            | does hw ha hr' hd hp =>
              rename_i r v H1
              have e := (putA_H hp).1
              have e' : H' = H1 := e
              subst e'
              exact ⟨o, v, _, ho, .eff hok hw ha hr' hle2, hp⟩
        split
        · rename_i v id g hw ha
          rw [wantF_fun] at hw
          rw [aopF_fun] at ha
          obtain ⟨ha', B0, hB0, hd0, hloose⟩ := aopT_sound (H := H) hH.blk hH.len ha
          rw [evalT_eq k vars H d] at ha'
          have hlt : id < n := by rw [← hH.len]; exact (List.getElem?_eq_some_iff.1 hB0).1
          have hk' : Keep H (H.set id (.row g)) id := Keep.set hB0 hd0
          have hle2 : HLe H (H.set id (.row g)) := fun j B hB hl => by
            rw [List.getElem?_set_ne]
            · exact hB
            · rintro rfl; rw [hB0] at hB; cases hB; rw [hloose rfl] at hl; cases hl
          exact putT_spec (Q := fun r => ER.normal k H0 _ r) trivial fun vars' hp => lowT_spec (Q := fun r => ER.normal k H0 _ r) fun lo' h2 h3 =>
            go vars' _ n lo' _ hm (hH.set hlt (.row g)) (hag.le hle2) (hk'.mono h3) h2 fun Hs _ _ => ⟨o, v, _, ho, .eff hok hw ha' (.inl rfl) hle2, hp H _ d⟩
        · exact gen
      | store =>
        simp only
        cases hw : wantF ops vars o with
        | none => trivial
        | some b =>
        cases b with
        | false => trivial
        | true =>
        rw [wantF_fun] at hw
        simp only
        cases ha : aopF P m (get t) n (evalT vars) o with
        | none => trivial
        | some r =>
        cases r with
        | val v dl =>
          cases dl with
          | set id B =>
            simp only
            cases hw2 : inW (some W) id with
            | false => trivial
            | true =>
            simp only [cond_true]
            obtain ⟨ha', B0, hB0, hd0, hloose⟩ := aopT_sound (H := H) hH.blk hH.len (by rw [aopF_fun] at ha; exact ha)
            rw [evalT_eq k vars H d] at ha'
            have hlt : id < n := by rw [← hH.len]; exact (List.getElem?_eq_some_iff.1 hB0).1
            have hk' : Keep H (H.set id B) id := Keep.set hB0 hd0
            have hag' : Ag W tb (H.set id B) := fun j Bj hj => by
              have hx := hideT_get hj
              rw [List.getElem?_set_ne]
              · exact hag j Bj hj
              · rintro rfl
                have : memN W id = true := hw2
                rw [this] at hx; cases hx.2.2
            refine putT_spec (Q := fun r => ER.normal k H0 _ r) trivial fun vars' hp => lowT_spec (Q := fun r => ER.normal k H0 _ r) fun lo' h2 h3 => ?_
            have ih := evSeg_sound (mask := mask) (n0 := n0) (W := W) l (i + 1) hl' tb nb vars' _ n lo' _ hag' (hH.set hlt B) hn0 (hk.trans hk' h2 h3)
            show ER.normal k H0 _ (evSeg P m call round k d ops mask n0 (some W) l (i + 1) tb nb vars' (Vm.set t id B) n lo')
            generalize evSeg P m call round k d ops mask n0 (some W) l (i + 1) tb nb vars' (Vm.set t id B) n lo' = r at ih ⊢
            cases r with
            | fail w => trivial
            | ok x e lo2 =>
              cases x with
              | normal =>
                obtain ⟨H2, a, b, Hs', q1, q2⟩ := ih
                refine ⟨H2, a, b, (H.set id B) :: Hs', ?_, fun Hs h1 h2 => .cons hm ⟨o, v, _, ho, .store hok hw ha' ⟨H.set id B, h1 _ (by simp), HLe.refl _⟩ hk'.marks, hp H _ d⟩ (q2 Hs (fun H1 h => h1 H1 (by simp [h])) h2)⟩
                intro H1 h
                rcases List.mem_cons.1 h with rfl | h
                · exact hag'
                · exact q1 H1 h
              | _ => trivial
          | _ => trivial
        | _ => trivial
omit hc hr in
theorem hoistT_sound : ∀ (l : List Oper) (j : Nat) (t : Trie Blk) (H : List Blk), HT t j H → HT (hoistT P l j t) (j + l.length) (H ++ l.map fun o => (layB P o).getD .defd)
 | [], j, t, H, h => by
  have e : H ++ ([] : List Oper).map (fun o => (layB P o).getD .defd) = H := by simp
  rw [e]; exact h
 | o :: l, j, t, H, h => by
  have e : j + (o :: l).length = j + 1 + l.length := by simp; omega
  rw [e]
  show HT (match layB P o with | some B => hoistT P l (j + 1) (set t j B) | none => hoistT P l (j + 1) t) _ _
  cases hB : layB P o with
  | some B =>
   have := hoistT_sound l (j + 1) (set t j B) (H ++ [B]) (h.push B)
   simpa [hB] using this
  | none =>
   have := hoistT_sound l (j + 1) t (H ++ [.defd]) (h.skip .defd)
   simpa [hB] using this
theorem evDrawW_sound {ops : Array Oper} {W : List Nat} {vars : Trie AV} {t : Trie Blk} {n lo id : Nat} {H H0 : List Blk} {ro : Option Nat} (hm : P.follows .mixedOrders = true) (hd : drawOk (maskOf ops) ops = true)
  (hH : HT t n H) (hk : Keep H0 H lo) :
  ER.holds k H0 (fun x σ' => Run P ro (.region id ops true) ⟨k, vars, H, d⟩ x σ') (evDrawW P m call round k d ops (some W) vars t n lo) := by
 unfold evDrawW
 have hH1 : HT (hoistT P ops.toList n t) (n + ops.size) (H ++ hoisted P ops) := by
  have := hoistT_sound (P := P) ops.toList n t H hH
  simpa [hoisted] using this
 have hs := evSeg_sound (k := k) (d := d) (m := m) hc hr (ops := ops) (mask := maskOf ops) (n0 := n) (W := W) (H0 := H0) ops.toList 0 (fun j => by simp) (hoistT P ops.toList n t) (n + ops.size) vars (hoistT P ops.toList n t) (n + ops.size) lo
  (H ++ hoisted P ops) (Ag.of hH1) hH1 (Nat.le_refl _) (hk.trans (Keep.append H _ lo) (Nat.le_refl _) (Nat.le_refl _))
 generalize evSeg P m call round k d ops (maskOf ops) n (some W) ops.toList 0 (hoistT P ops.toList n t) (n + ops.size) vars (hoistT P ops.toList n t) (n + ops.size) lo = r at hs ⊢
 cases r with
 | fail w => trivial
 | ok x e lo' =>
  cases x with
  | normal =>
   obtain ⟨H2, a, b, Hs', q1, q2⟩ := hs
   refine ⟨H2, a, b, ?_⟩
   refine Run.region_draw (Hs := (H ++ hoisted P ops) :: Hs') hm hd (by simp) ?_
   have := q2 ((H ++ hoisted P ops) :: Hs') (fun H1 h => by simp [h]) (fun H1 h => by
    rcases List.mem_cons.1 h with rfl | h
    ·exact Ag.of hH1
    ·exact q1 H1 h)
   simp only [hH.len]
   simpa [List.range_eq_range'] using this
  | _ => trivial
theorem evDraw_sound {ops : Array Oper} {vars : Trie AV} {t : Trie Blk} {n lo id : Nat} {H H0 : List Blk} {ro : Option Nat} (hm : P.follows .mixedOrders = true)
  (hH : HT t n H) (hk : Keep H0 H lo) :
  ER.holds k H0 (fun x σ' => Run P ro (.region id ops true) ⟨k, vars, H, d⟩ x σ') (evDraw P m call round k d ops vars t n lo) := by
 unfold evDraw
 cases hd : drawOk (maskOf ops) ops with
 | false => trivial
 | true =>
 simp only [cond_true]
 cases hst : hasStore (maskOf ops) ops.toList 0 with
 | false => exact evDrawW_sound hc hr hm hd hH hk
 | true =>
  simp only [cond_true]
  split
  ·exact evDrawW_sound hc hr hm hd hH hk
  ·trivial
end
end Go.Vm

namespace Go.Vm
variable {P : Program}
theorem ER.holds_mono {k : Nat} {H0 : List Blk} {Q Q' : AExit → St → Prop} {r : ER} (h : ER.holds k H0 Q r) (hq : ∀ x σ, Q x σ → Q' x σ) : ER.holds k H0 Q' r := by
 cases r with
 | fail w => trivial
 | ok x e lo => obtain ⟨H, a, b, q⟩ := h; exact ⟨H, a, b, hq _ _ q⟩
section
variable {m : Bool} {call : CallT} {round : RoundT} {k : Nat} (hm : P.follows .mixedOrders = true) (hc : SoundC P call) (hr : SoundR P round)
theorem evLoop_sound {ro : Option Nat} {c : Code} {body : Trie AV → Trie Blk → Nat → List Nat → Nat → ER}
  (hb : ∀ vars t n d lo H H0, HT t n H → Keep H0 H lo → ER.holds k H0 (fun x σ' => Run P ro c ⟨k, vars, H, d⟩ x σ') (body vars t n d lo)) : ∀ (fuel : Nat) vars t n d lo H H0, HT t n H → Keep H0 H lo →
  ER.holds k H0 (fun x σ' => InL P ro c ⟨k, vars, H, d⟩ x σ') (evLoop body fuel vars t n d lo)
 | 0, _, _, _, _, _, _, _, _, _ => trivial
 | fuel + 1, vars, t, n, d, lo, H, H0, hH, hk => by
  have h1 := hb vars t n d lo H H0 hH hk
  show ER.holds k H0 _ (match body vars t n d lo with | .ok .normal e lo' => evLoop body fuel e.vars e.t e.n e.defs lo' | r => r)
  generalize body vars t n d lo = r at h1 ⊢
  cases r with
  | fail w => trivial
  | ok x e lo' =>
   obtain ⟨H1, a, b, q⟩ := h1
   cases x with
   | normal => exact ER.holds_mono (evLoop_sound hb fuel e.vars e.t e.n e.defs lo' H1 H0 a b) fun x σ h => .go q h
   | _ => exact ⟨H1, a, b, .out q rfl⟩
theorem busy_of {s : LoopState} (h : isBusy s = false) : s ≠ .busy := by rintro rfl; cases h
include hc in
theorem evRange_sound {ro : Option Nat} {g : Operand} {ps : Array Tmp} {assign body : Code} {vars : Trie AV} {t : Trie Blk} {n : Nat} {d : List Nat} {lo : Nat} {H H0 : List Blk} (hH : HT t n H) (hk : Keep H0 H lo) :
  ER.holds k H0 (fun x σ' => Run P ro (.rangeFunc g ps assign body) ⟨k, vars, H, d⟩ x σ') (evRange P call k ro g ps assign body vars t n d lo) := by
 have hl := hH.len
 unfold evRange
 cases hfv : evalT vars g with
 | none => trivial
 | some fv =>
 have hg : St.eval ⟨k, vars, H, d⟩ g = some fv := by rw [← evalT_eq]; exact hfv
 simp only
 cases hf : fnOf fv with
 | none => trivial
 | some p =>
 obtain ⟨f, first, captured⟩ := p
 simp only
 cases hcal : callable P f with
 | false => trivial
 | true =>
 simp only [cond_true]
 cases ro with
 | none =>
  simp only
  have hH2 : HT (set t (n + 1) (.loop (loop0 ⟨k, vars, [], []⟩ ps assign body n))) (n + 2) (H ++ [.defd, .loop (loop0 ⟨k, vars, H, d⟩ ps assign body H.length)]) := by
   have := (hH.skip .defd).push (.loop (loop0 ⟨k, vars, [], []⟩ ps assign body n))
   rw [hl]
   rw [List.append_assoc] at this
   exact this
  have hcf := hc f (first ++ [.yld (n + 1)] ++ captured) (set t (n + 1) (.loop (loop0 ⟨k, vars, [], []⟩ ps assign body n))) (n + 2)
  generalize call f (first ++ [.yld (n + 1)] ++ captured) (set t (n + 1) (.loop (loop0 ⟨k, vars, [], []⟩ ps assign body n))) (n + 2) = r at hcf ⊢
  cases r with
  | fail w => trivial
  | pan => trivial
  | ret v t2 n2 l =>
   obtain ⟨H2, hHT2, hcall, hkeep⟩ := hcf _ hH2
   simp only
   cases hg2 : get t2 (n + 1) with
   | none => trivial
   | some B =>
   cases B with
   | loop l' =>
    simp only
    cases hb : isBusy l'.state with
    | true => trivial
    | false =>
    simp only [cond_false]
    cases hj : jumpTo l'.pending with
    | none => trivial
    | some x =>
     refine lowT_spec (Q := fun r => ER.holds k H0 _ r) fun lo' h1 h2 => ?_
     have hl2 := hHT2.blk _ _ hg2
     have hlt2 := hHT2.lt hg2
     have hle2 : H.length + 2 ≤ H2.length := by have := hkeep.le; simp at this; omega
     refine ⟨H2.set (n + 1) (.loop { l' with state := .exhausted }), hHT2.set hlt2 _, ?_, ?_⟩
     ·refine ⟨by have := hk.le; simp; omega, fun id a b => ?_, fun id hid => ?_⟩
      ·have hid1 : id < H.length := by have := hk.le; omega
       rw [List.getElem?_set_ne (by omega), hkeep.low id (by omega) (by simp; omega), List.getElem?_append_left hid1]
       exact hk.low id (by omega) b
      ·exact keepsD_set hl2 id (hkeep.marks id (keepsD_append _ _ id (hk.marks id hid)))
     ·have := Run.rangeFunc_outer (P := P) (g := g) (ps := ps) (assign := assign) (body := body) (σ := ⟨k, vars, H, d⟩) (f := f) (first := first) (captured := captured) (v := v) (fv := fv) (H2 := H2) (l' := l') (e := x)
       hg hf hcal (by rw [← hl] at hcall; exact hcall) (by rw [← hl] at hl2; exact hl2) (busy_of hb) (fun id hid => hkeep.marks id (by
        have := keepsD_append (H ++ [Blk.defd]) [.loop (loop0 ⟨k, vars, H, d⟩ ps assign body H.length)] id hid
        simpa using this)) hj
      simpa [hl] using this
   | _ => trivial
 | some ido =>
  simp only
  cases ho : get t ido with
  | none => trivial
  | some B =>
  cases B with
  | loop l0 =>
   simp only
   have hH2 : HT (set t n (.loop (loop0 ⟨k, vars, [], []⟩ ps assign body l0.defers))) (n + 1) (H ++ [.loop (loop0 ⟨k, vars, H, d⟩ ps assign body l0.defers)]) := hH.push _
   have hcf := hc f (first ++ [.yld n] ++ captured) (set t n (.loop (loop0 ⟨k, vars, [], []⟩ ps assign body l0.defers))) (n + 1)
   generalize call f (first ++ [.yld n] ++ captured) (set t n (.loop (loop0 ⟨k, vars, [], []⟩ ps assign body l0.defers))) (n + 1) = r at hcf ⊢
   cases r with
   | fail w => trivial
   | pan => trivial
   | ret v t2 n2 l =>
    obtain ⟨H2, hHT2, hcall, hkeep⟩ := hcf _ hH2
    simp only
    cases hg2 : get t2 n with
    | none => trivial
    | some B =>
    cases B with
    | loop l' =>
     simp only
     cases hb : isBusy l'.state with
     | true => trivial
     | false =>
     simp only [cond_false]
     cases hj : jumpTo l'.pending with
     | none => trivial
     | some x =>
      refine lowT_spec (Q := fun r => ER.holds k H0 _ r) fun lo' h1 h2 => ?_
      have hl2 := hHT2.blk _ _ hg2
      have hlt2 := hHT2.lt hg2
      have hle2 : H.length + 1 ≤ H2.length := by have := hkeep.le; simp at this; omega
      refine ⟨H2.set n (.loop { l' with state := .exhausted }), hHT2.set hlt2 _, ?_, ?_⟩
      ·refine ⟨by have := hk.le; simp; omega, fun id a b => ?_, fun id hid => ?_⟩
       ·have hid1 : id < H.length := by have := hk.le; omega
        rw [List.getElem?_set_ne (by omega), hkeep.low id (by omega) (by simp; omega), List.getElem?_append_left hid1]
        exact hk.low id (by omega) b
       ·exact keepsD_set hl2 id (hkeep.marks id (keepsD_append _ _ id (hk.marks id hid)))
      ·have := Run.rangeFunc_inner (P := P) (ido := ido) (lo := l0) (g := g) (ps := ps) (assign := assign) (body := body) (σ := ⟨k, vars, H, d⟩) (f := f) (first := first) (captured := captured) (v := v) (fv := fv) (H2 := H2) (l' := l') (e := x)
        (hH.blk _ _ ho) hg hf hcal (by rw [← hl] at hcall; exact hcall) (by rw [← hl] at hl2; exact hl2) (busy_of hb) (fun id hid => hkeep.marks id (keepsD_append _ _ id hid)) hj
       simpa [hl] using this
    | _ => trivial
  | _ => trivial
include hm hc hr in
theorem evCode_sound {ro : Option Nat} : ∀ (c : Code) vars t n d lo H H0, HT t n H → Keep H0 H lo →
  ER.holds k H0 (fun x σ' => Run P ro c ⟨k, vars, H, d⟩ x σ') (evCode P m call round k ro c vars t n d lo) := by
 intro c
 induction c with
 | skip => intro vars t n d lo H H0 hH hk; exact ⟨H, hH, hk, .skip⟩
 | region id ops draw =>
  intro vars t n d lo H H0 hH hk
  cases draw with
  | true => exact evDraw_sound hc hr hm hH hk
  | false =>
   show ER.holds k H0 _ (evOps P m call round k d ops ops.toList vars t n lo)
   refine ER.holds_mono (evOps_sound (ops := ops) hc hr ops.toList 0 (fun j => by simp) vars t n lo H hH hk) ?_
   rintro x σ (⟨rfl, h⟩ | ⟨v, rfl, h⟩)
   ·exact Run.region (by simpa [List.range_eq_range'] using h)
   ·exact Run.region_pan (by simpa [List.range_eq_range'] using h)
 | seq a b iha ihb =>
  intro vars t n d lo H H0 hH hk
  have h1 := iha vars t n d lo H H0 hH hk
  show ER.holds k H0 _ (match evCode P m call round k ro a vars t n d lo with | .ok .normal e lo' => evCode P m call round k ro b e.vars e.t e.n e.defs lo' | r => r)
  generalize evCode P m call round k ro a vars t n d lo = r at h1 ⊢
  cases r with
  | fail w => trivial
  | ok x e lo' =>
   obtain ⟨H1, hH1, hk1, q⟩ := h1
   cases x with
   | normal => exact ER.holds_mono (ihb e.vars e.t e.n e.defs lo' H1 H0 hH1 hk1) fun x σ h => .seq q h
   | _ => exact ⟨H1, hH1, hk1, .seq_out q rfl⟩
 | cond c a b iha ihb =>
  intro vars t n d lo H H0 hH hk
  show ER.holds k H0 _ (match evalT vars c with | some (.lit (.bool true)) => evCode P m call round k ro a vars t n d lo | some (.lit (.bool false)) => evCode P m call round k ro b vars t n d lo | _ => .fail "code")
  split
  ·rename_i he
   rw [evalT_eq k vars H d] at he
   exact ER.holds_mono (iha vars t n d lo H H0 hH hk) fun x σ h => .cond he h
  ·rename_i he
   rw [evalT_eq k vars H d] at he
   exact ER.holds_mono (ihb vars t n d lo H H0 hH hk) fun x σ h => .cond he h
  ·trivial
 | block i c ih =>
  intro vars t n d lo H H0 hH hk
  have h1 := ih vars t n d lo H H0 hH hk
  show ER.holds k H0 _ (match evCode P m call round k ro c vars t n d lo with | .ok (.exit j) e lo' => bif Nat.beq i j then .ok .normal e lo' else .ok (.exit j) e lo' | r => r)
  generalize evCode P m call round k ro c vars t n d lo = r at h1 ⊢
  cases r with
  | fail w => trivial
  | ok x e lo' =>
   obtain ⟨H1, hH1, hk1, q⟩ := h1
   cases x with
   | normal => exact ⟨H1, hH1, hk1, .block q (.inl rfl)⟩
   | exit j =>
    simp only
    cases hb : Nat.beq i j with
    | true =>
     have := Nat.eq_of_beq_eq_true hb
     subst this
     exact ⟨H1, hH1, hk1, .block q (.inr rfl)⟩
    | false =>
     refine ⟨H1, hH1, hk1, .block_out q ?_⟩
     have : j ≠ i := by rintro rfl; rw [Nat.beq_refl] at hb; cases hb
     simp [AExit.passes, this]
   | ret => exact ⟨H1, hH1, hk1, .block_out q rfl⟩
   | pan v => exact ⟨H1, hH1, hk1, .block_out q rfl⟩
 | loop c ih =>
  intro vars t n d lo H H0 hH hk
  exact ER.holds_mono (evLoop_sound ih 100000 vars t n d lo H H0 hH hk) fun x σ h => .loop h
 | rangeFunc g ps assign body _ _ =>
  intro vars t n d lo H H0 hH hk
  exact evRange_sound hc hH hk
 | exit i => intro vars t n d lo H H0 hH hk; exact ⟨H, hH, hk, .exit⟩
 | scope c ih =>
  intro vars t n d lo H H0 hH hk
  exact ER.holds_mono (ih vars t n d lo H H0 hH hk) fun x σ h => .scope h
 | label l => intro vars t n d lo H H0 hH hk; exact ⟨H, hH, hk, .label⟩
 | goto l => intro vars t n d lo H H0 hH hk; trivial
 | ret => intro vars t n d lo H H0 hH hk; exact ⟨H, hH, hk, .ret⟩
 | refuse w => intro vars t n d lo H H0 hH hk; trivial
theorem underB_iff {n : Nat} : (∀ a : AV, AV.underB n a = true → a.under n) ∧ ∀ as : List AV, AV.undersB n as = true → AV.unders n as := by
  have blt : ∀ {id : Nat}, Nat.blt id n = true → id < n := fun h => Nat.le_of_ble_eq_true h
  refine ⟨fun a => AV.rec (motive_1 := fun a => AV.underB n a = true → a.under n) (motive_2 := fun as => AV.undersB n as = true → AV.unders n as) ?_ ?_ ?_ ?_ ?_ ?_ ?_ ?_ ?_ ?_ ?_ ?_ ?_ ?_ ?_ ?_ a,
    fun as => AV.rec_1 (motive_1 := fun a => AV.underB n a = true → a.under n) (motive_2 := fun as => AV.undersB n as = true → AV.unders n as) ?_ ?_ ?_ ?_ ?_ ?_ ?_ ?_ ?_ ?_ ?_ ?_ ?_ ?_ ?_ ?_ as⟩
  all_goals first
    | (intro v _; simp only [AV.under]; done)
    | (intro cells ih h; simp only [AV.under, AV.underB] at h ⊢; exact ih h)
    | (intro id off h; simp only [AV.under, AV.underB] at h ⊢; exact blt h)
    | (intro id h; simp only [AV.under, AV.underB] at h ⊢; exact blt h)
    | (intro id off len cap h; simp only [AV.under, AV.underB] at h ⊢; exact blt h)
    | (intro id off len h; simp only [AV.under, AV.underB] at h ⊢; exact blt h)
    | (intro len cells tail ih h
       simp only [AV.under, AV.underB, Bool.and_eq_true] at h ⊢
       refine ⟨ih h.2, ?_⟩
       cases tail with
       | own id g sz => exact blt h.1
       | _ => trivial)
    | (intro f first captured ih1 ih2 h; simp only [AV.under, AV.underB, Bool.and_eq_true] at h ⊢; exact ⟨ih1 h.1, ih2 h.2⟩)
    | (intro t v ih h; simp only [AV.under, AV.underB] at h ⊢; exact ih h)
    | (intro _; simp only [AV.unders]; done)
    | (intro _; simp only [AV.under]; done)
    | (intro a as ih1 ih2 h; simp only [AV.unders, AV.undersB, Bool.and_eq_true] at h ⊢; exact ⟨ih1 h.1, ih2 h.2⟩)
theorem resT_sound {t : Trie Blk} {n : Nat} {H : List Blk} (hH : HT t n H) {vars : Trie AV} {d : List Nat} : ∀ {rs : List ResultVar} {vs : List AV}, resT P (get t) vars rs = some vs → resA P ⟨k, vars, H, d⟩ rs = some vs
 | [], vs, h => h
 | .tmp x :: rs, vs, h => by
  simp only [resT] at h
  simp only [resA]
  split at h
  ·cases h
  ·rename_i v hv
   split at h
   ·cases h
   ·rename_i vs' hvs
    cases h
    rw [hv, resT_sound hH hvs]
 | .cell x ty :: rs, vs, h => by
  simp only [resT] at h
  simp only [resA]
  split at h
  ·cases h
  ·rename_i a ha
   split at h
   ·cases h
   ·rename_i v hv
    split at h
    ·cases h
    ·rename_i vs' hvs
     cases h
     rw [ha, resT_sound hH hvs]
     simp only [Option.bind_some, loadT_sound hH.blk hv]
theorem spendT_sound : ∀ (l : List Nat) {t : Trie Blk} {n : Nat} {H : List Blk}, HT t n H → (∀ id ∈ l, id < n) → HT (spendT l t) n (spend l H)
 | [], _, _, _, h, _ => h
 | id :: l, t, n, H, h, hl => spendT_sound l (h.set (hl id (by simp)) .spent) fun j hj => hl j (by simp [hj])
theorem spend_length : ∀ (l : List Nat) (H : List Blk), (spend l H).length = H.length
 | [], _ => rfl
 | id :: l, H => by unfold spend; rw [spend_length l]; simp
theorem spend_other : ∀ (l : List Nat) (H : List Blk) (j : Nat), j ∉ l → (spend l H)[j]? = H[j]?
 | [], _, _, _ => rfl
 | id :: l, H, j, h => by
  unfold spend
  rw [spend_other l _ j (fun hm => h (by simp [hm])), List.getElem?_set_ne (fun e => h (by simp [e]))]
theorem nodupB_sound : ∀ {l : List Nat}, nodupB l = true → l.Nodup
 | [], _ => List.nodup_nil
 | a :: l, h => by
  simp only [nodupB, Bool.and_eq_true, List.all_eq_true] at h
  refine List.nodup_cons.2 ⟨fun hm => ?_, nodupB_sound h.2⟩
  have := h.1 a hm
  simp [Nat.beq_refl] at this
theorem evFin_sound {f : FuncId} {fn : Func} {c : Code} {args : List AV} {t : Trie Blk} {n : Nat} {e : ES} {lo : Nat} {x : AExit} (hf : P.funcs[f]? = some fn) (hb : fn.body = some c) (hn : args.length ≤ fn.ntmps) (hx : x = .ret ∨ x = .normal)
  (h : ∀ H, HT t n H → ∃ H', HT e.t e.n H' ∧ Keep H H' lo ∧ Run P none c ⟨fn.ntmps, initVars 0 args, H, []⟩ x ⟨fn.ntmps, e.vars, H', e.defs⟩) : CRok P f args t n (evFin P fn.results.toList t n e lo) := by
 unfold evFin
 cases hd : (e.defs.all (fun d => Nat.ble n d && Nat.blt d e.n) && nodupB e.defs) with
 | false => trivial
 | true =>
 simp only [cond_true]
 rw [Bool.and_eq_true, List.all_eq_true] at hd
 have hdn : ∀ d ∈ e.defs, n ≤ d ∧ d < e.n := fun d hdm => by
  have := hd.1 d hdm
  rw [Bool.and_eq_true] at this
  exact ⟨Nat.le_of_ble_eq_true this.1, Nat.le_of_ble_eq_true this.2⟩
 cases hres : resT P (get (spendT e.defs e.t)) e.vars fn.results.toList with
 | none => trivial
 | some vs =>
 simp only
 have main : ∀ H, HT t n H → ∃ H', HT e.t e.n H' ∧ Keep H H' lo ∧ HT (spendT e.defs e.t) e.n (spend e.defs H') ∧ Keep H (spend e.defs H') lo ∧ ACall P f args H (.ret (resV vs)) (spend e.defs H') := by
  intro H hH
  obtain ⟨H', hH', hk, hrun⟩ := h H hH
  have hs := spendT_sound e.defs hH' fun d hdm => (hdn d hdm).2
  have hl := hH.len
  have hk2 : Keep H (spend e.defs H') lo := by
   refine ⟨by rw [spend_length]; exact hk.le, fun id a b => ?_, fun id hid => ?_⟩
   ·rw [spend_other _ _ _ fun hm => by have := (hdn id hm).1; omega]; exact hk.low id a b
   ·have hlt := (List.getElem?_eq_some_iff.1 hid).1
    rw [spend_other _ _ _ fun hm => by have := (hdn id hm).1; omega]; exact hk.marks id hid
  exact ⟨H', hH', hk, hs, hk2, ACall.intro_marks hf hb hn hrun hx (nodupB_sound hd.2) (resT_sound hs hres)⟩
 cases hcut : (Nat.ble n lo && AV.underB n (resV vs)) with
 | true =>
  rw [Bool.and_eq_true] at hcut
  have hle := Nat.le_of_ble_eq_true hcut.1
  intro H hH
  obtain ⟨H', _, _, _, hk2, hcall⟩ := main H hH
  have hl := hH.len
  exact ⟨H, hH, hcall.cut_same (by rw [hl]; exact underB_iff.1 _ hcut.2) (fun id hlt => hk2.low id (by omega) hlt) hk2.le, Keep.refl _ _⟩
 | false =>
  intro H hH
  obtain ⟨H', _, _, hs, hk2, hcall⟩ := main H hH
  exact ⟨_, hs, hcall, hk2⟩
include hm hc hr in
theorem evBody_sound (muts : FuncId → Bool) : SoundC P (evBody P call round muts) := by
 intro f args t n
 unfold evBody
 cases hf : P.funcs[f]? with
 | none => trivial
 | some fn =>
 simp only
 cases hb : fn.body with
 | none => trivial
 | some c =>
 simp only
 cases hlen : Nat.ble args.length fn.ntmps with
 | false => trivial
 | true =>
 simp only [cond_true]
 have hn := Nat.le_of_ble_eq_true hlen
 have key : ∀ H, HT t n H → ER.holds fn.ntmps H (fun x σ' => Run P none c ⟨fn.ntmps, initVars 0 args, H, []⟩ x σ') (evCode P (muts f) call round fn.ntmps none c (initVars 0 args) t n [] noLo) :=
  fun H hH => evCode_sound hm hc hr c (initVars 0 args) t n [] noLo H H hH (Keep.refl _ _)
 generalize evCode P (muts f) call round fn.ntmps none c (initVars 0 args) t n [] noLo = r at key ⊢
 cases r with
 | fail w => trivial
 | ok x e lo =>
 cases x with
 | pan v =>
  simp only
  cases hd : e.defs with
  | cons a l => trivial
  | nil =>
   intro H hH
   obtain ⟨H', hH', hk, hrun⟩ := key H hH
   rw [hd] at hrun
   exact ⟨H', hH', ACall.intro_pan hf hb hn hrun rfl, hk⟩
 | exit i => trivial
 | normal => exact evFin_sound hf hb hn (.inr rfl) key
 | ret => exact evFin_sound hf hb hn (.inl rfl) key
include hm hc hr in
theorem evRoundBody_sound : SoundR P (evRoundBody P call round) := by
  intro id args t n
  unfold evRoundBody
  cases hg : get t id with
  | none => trivial
  | some B =>
  cases B with
  | loop l =>
    simp only
    cases hp : (Nat.beq args.length l.params.size && l.params.toList.all (fun t => Nat.blt t l.n)) with
    | false => trivial
    | true =>
    simp only [cond_true]
    rw [Bool.and_eq_true, List.all_eq_true] at hp
    have hlen := Nat.eq_of_beq_eq_true hp.1
    have hpar : ∀ t ∈ l.params, t < l.n := fun t ht => Nat.le_of_ble_eq_true (hp.2 t (by simpa using ht))
    have key1 : ∀ H, HT t n H → ER.holds l.n H (fun x σ' => Run P (some id) l.assign ⟨l.n, putParams l.vars l.params.toList args, H, []⟩ x σ') (evCode P false call round l.n (some id) l.assign (putParams l.vars l.params.toList args) t n [] noLo) :=
      fun H hH => evCode_sound hm hc hr l.assign _ t n [] noLo H H hH (Keep.refl _ _)
    generalize evCode P false call round l.n (some id) l.assign (putParams l.vars l.params.toList args) t n [] noLo = r1 at key1 ⊢
    cases r1 with
    | fail w => trivial
    | ok x1 e1 lo1 =>
    cases x1 with
    | normal =>
      simp only
      cases hg1 : get e1.t id with
      | none => trivial
      | some B1 =>
      cases B1 with
      | loop l1 =>
        simp only
        cases hst : isReady l1.state with
        | false => trivial
        | true =>
        simp only [cond_true]
        have hready : l1.state = .ready := by cases hs : l1.state <;> rw [hs] at hst <;> first | rfl | cases hst
        refine lowT_spec (Q := fun r => RRok P id args t n r) fun lo1' h1 h2 => ?_
        have key2 : ∀ H1 H, HT e1.t e1.n H1 → Keep H H1 lo1 → ER.holds l.n H (fun x σ' => Run P (some id) l.body ⟨l.n, e1.vars, H1.set id (.loop { l1 with state := .busy }), e1.defs⟩ x σ')
            (evCode P false call round l.n (some id) l.body e1.vars (set e1.t id (.loop { l1 with state := .busy })) e1.n e1.defs lo1') := fun H1 H hH1 hk1 => by
          have hB := hH1.blk _ _ hg1
          exact evCode_sound hm hc hr l.body _ _ _ _ _ _ H (hH1.set (hH1.lt hg1) _) (hk1.trans (Keep.set hB (by simp)) h1 h2)
        generalize evCode P false call round l.n (some id) l.body e1.vars (set e1.t id (.loop { l1 with state := .busy })) e1.n e1.defs lo1' = r2 at key2 ⊢
        cases r2 with
        | fail w => trivial
        | ok x2 e2 lo2 =>
        simp only
        cases hg2 : get e2.t id with
        | none => trivial
        | some B2 =>
        cases B2 with
        | loop l2 =>
          cases hj : jumpOf x2 with
          | none => trivial
          | some j =>
            simp only
            refine lowT_spec (Q := fun r => RRok P id args t n r) fun lo2' h3 h4 => ?_
            intro H hH
            obtain ⟨H1, hH1, hk1, hrun1⟩ := key1 H hH
            obtain ⟨H2, hH2, hk2, hrun2⟩ := key2 H1 H hH1 hk1
            have hB2 := hH2.blk _ _ hg2
            refine ⟨H2.set id (.loop { l2 with state := if j.isNone then .ready else .done, pending := j }), hH2.set (hH2.lt hg2) _, ?_, hk2.trans (Keep.set hB2 (by simp)) h3 h4⟩
            exact ARound.intro (hH.blk _ _ hg) hlen hpar hrun1 (hH1.blk _ _ hg1) hready hrun2 hB2 hj
        | _ => trivial
      | _ => trivial
    | _ => trivial
  | _ => trivial
end
theorem forceN_eq {α : Type} (n : Nat) (k : Nat → α) : forceN n k = k n := by
 have key : ∀ (m : Nat) (x : α), x = k n → (bif Nat.beq n m then k m else x) = k n := fun m x hx => by
  cases h : Nat.beq n m with
  | true => rw [Nat.eq_of_beq_eq_true h]; rfl
  | false => exact hx
 unfold forceN
 exact key _ _ (key _ _ (key _ _ (key _ _ (key _ _ (key _ _ (key _ _ (key _ _ rfl)))))))
theorem forceI_eq {α : Type} (n : Int) (k : Int → α) : forceI n k = k n := by
 cases n with
 | ofNat n => exact forceN_eq n fun m => k (Int.ofNat m)
 | negSucc n => exact forceN_eq n fun m => k (Int.negSucc m)
theorem forceK_eq {α : Type} (d : IntKind) (k : IntKind → α) : forceK d k = k d := by
 cases d <;> rfl
theorem forceV_eq {α : Type} (v : Value) (k : Value → α) : forceV v k = k v := by
 cases v with
 | int d n => simp only [forceV, forceK_eq, forceI_eq]
 | bool b => cases b <;> rfl
 | _ => rfl
theorem forceT_eq {α : Type} (t : Tail) (k : Tail → α) : forceT t k = k t := by
 cases t <;> rfl
mutual
theorem AV.force_eq {α : Type} : ∀ (a : AV) (k : AV → α), AV.force a k = k a
 | .lit v, k => by simp only [AV.force, forceV_eq]
 | .agg cells, k => by simp only [AV.force, AV.forces_eq cells]
 | .tup vs, k => by simp only [AV.force, AV.forces_eq vs]
 | .eptr cells, k => by simp only [AV.force, AV.forces_eq cells]
 | .sl len cells tail, k => by simp only [AV.force, forceN_eq, AV.forces_eq cells, forceT_eq]
 | .iface t v, k => by simp only [AV.force, AV.force_eq v]
 | .ptr _ _, k => by simp only [AV.force]
 | .hsl _ _ _ _, k => by simp only [AV.force]
 | .mp _, k => by simp only [AV.force]
 | .fn _ _ _, k => by simp only [AV.force]
 | .yld _, k => by simp only [AV.force]
 | .msl _ _ _ _, k => by simp only [AV.force]
 | .mptr _ _ _, k => by simp only [AV.force]
 | .mpx, k => by simp only [AV.force]
theorem AV.forces_eq {α : Type} : ∀ (l : List AV) (k : List AV → α), AV.forces l k = k l
 | [], k => by simp only [AV.forces]
 | a :: l, k => by simp only [AV.forces, AV.force_eq a, AV.forces_eq l]
end
theorem evAlone_sound {body : CallT} (h : SoundC P body) : SoundC P (evAlone body) := by
 intro f args t n
 unfold evAlone
 cases ha : AV.undersB 0 (AV.forgets args) with
 | false => exact h f args t n
 | true =>
 simp only [cond_true, AV.forces_eq]
 have hcf := h f (AV.forgets args) .nil 0
 generalize body f (AV.forgets args) .nil 0 = r at hcf ⊢
 cases r with
 | fail w => trivial
 | pan => trivial
 | ret v t' n' lo =>
  simp only
  cases hv : AV.underB 0 v.forget with
  | false => trivial
  | true =>
   simp only [cond_true]
   intro H hH
   obtain ⟨H', _, hcall, _⟩ := hcf [] HT.nil
   exact ⟨H, hH, hcall.alone (underB_iff.2 _ ha) (underB_iff.1 _ hv) H, Keep.refl _ _⟩
def Know.Right (P : Program) (K : Know) : Prop := ∀ f T, K.told f = some T → ∀ call, SoundC P call → ∀ args t n, CRok P f args t n (T call f args t n)
theorem evN_sound {K : Know} (hm : P.follows .mixedOrders = true) (hK : K.Right P) : ∀ fuel, SoundC P (evN P K fuel).1 ∧ SoundR P (evN P K fuel).2
 | 0 => ⟨fun _ _ _ _ => trivial, fun _ _ _ _ => trivial⟩
 | fuel + 1 => by
  obtain ⟨hc, hr⟩ := evN_sound hm hK fuel
  refine ⟨fun f args t n => ?_, evRoundBody_sound hm hc hr⟩
  show CRok P f args t n (match K.told f with
   | some T => T (evN P K fuel).1 f args t n
   | none => bif K.alone f then evAlone (evBody P (evN P K fuel).1 (evN P K fuel).2 K.muts) f args t n else evBody P (evN P K fuel).1 (evN P K fuel).2 K.muts f args t n)
  cases ht : K.told f with
  | some T => exact hK f T ht _ hc args t n
  | none =>
   simp only
   cases K.alone f with
   | true => exact evAlone_sound (evBody_sound hm hc hr K.muts) f args t n
   | false => exact evBody_sound hm hc hr K.muts f args t n
end Go.Vm

namespace Go.Vm
inductive PanOne (P : Program) (ops : Array Oper) (i : Nat) : St → AV → St → Prop where
  | op {m : Bool} {σ : St} {o : Oper} {v : AV} (ho : ops[i]? = some o) (hw : wantedA ops σ.vars o = some true) (ha : aop P m σ.H σ.eval o = some (.pan v)) : PanOne P ops i σ v σ
  | call {m : Bool} {σ : St} {o : Oper} {f : FuncId} {args : List AV} {v : AV} {H' : List Blk} (ho : ops[i]? = some o) (hw : wantedA ops σ.vars o = some true)
      (ha : aop P m σ.H σ.eval o = some (.call f args)) (hcal : callable P f = true) (hc : ACall P f args σ.H (.pan v) H') (hd : keepsD σ.H H') : PanOne P ops i σ v { σ with H := H' }
theorem PanOne.all {P : Program} {ops : Array Oper} {i : Nat} {l : List Nat} {σ σ' : St} {v : AV} (h : PanOne P ops i σ v σ') : APanics P ops (i :: l) σ v σ' := by
 cases h with
 | op ho hw ha => exact .op ho hw ha
 | call ho hw ha hcal hc hd => exact .call ho hw ha hcal hc hd
theorem PanOne.one [Outer] {P : Program} {ops : Array Oper} {i : Nat} {σ σ' σf : St} {v : AV} {cro : Option Nat} {S0 : Sit} (h : PanOne P ops i σ v σ') {ι : Nat → Option (Nat × Nat)} {a : Act} {w : World} (hs : SRel σ ι a w) (he : σ'.Eqv σf)
  (hev : Ev S0 ⟨σ.H, ι, w⟩) (hnon : Non S0 ⟨σ.H, ι, w⟩) {K : Act → World → Prop} : wpOpIn (Fr cro) 0 P ops (Post S0 (.pan v) σf) i K a w := by
 cases h with
 | op ho hw ha =>
  unfold wpOpIn
  simp only [ho]
  rw [wantedA_sound hs.vars hw]
  simp only [if_true]
  refine ⟨fun _ _ => Fr_fn _ _, ?_⟩
  obtain ⟨c, hx, hv⟩ := aop_sound hs.rel (St.eval_sound hs) ha
  rw [Oper.semAt_eq _ _ _ (aop_noDefer ha), hx]
  exact ⟨ι, by rw [← he.H]; exact ⟨c, rfl, hv⟩, hs.eqv he, by rw [← he.H]; exact hev, by rw [← he.H]; exact hnon⟩
 | call ho hw ha hcal hc hd =>
  rename_i o f args H'
  unfold wpOpIn
  simp only [ho]
  rw [wantedA_sound hs.vars hw]
  simp only [if_true]
  refine ⟨fun _ _ => Fr_fn _ _, ?_⟩
  obtain ⟨cs, hx, hargs⟩ := aop_sound hs.rel (St.eval_sound hs) ha hcal
  rw [Oper.semAt_eq _ _ _ (aop_noDefer ha), hx]
  refine ⟨fun h => (by simp [Fr_depth] at h), ?_⟩
  have hcall : CallsIn (Fr cro) 0 P _ cs w (EPost ⟨σ.H, ι, w⟩ (.pan v) H') := hc _ ι w cs hs.rel hargs
  refine hcall.mono ?_
  rintro e w' ⟨ι', hend, hR, hev', hnon'⟩
  have hx : SRel { σ with H := H' } ι' a w' := ⟨hR, hs.size, hs.vars.ev hev', hs.defs.ev hev' hd⟩
  have e2 : σf.H = H' := he.H.symm
  cases e with
  | returned c => exact hend.elim
  | panicked chain => exact ⟨ι', by rw [e2]; exact hend, hx.eqv he, by rw [e2]; exact hev.trans hev', by rw [e2]; exact hnon.trans hev hnon'⟩
  | outgrown => exact hend.elim
inductive DPan (P : Program) (ops : Array Oper) (al : Nat → Option Nat) (mask : Nat) : List (List Blk) → List Nat → St → AV → St → Prop
  | pan {Hs : List (List Blk)} {i : Nat} {l : List Nat} {σ σ' : St} {v : AV} (hm : mask.testBit i = true) (h : PanOne P ops i σ v σ') : DPan P ops al mask Hs (i :: l) σ v σ'
  | cons {Hs : List (List Blk)} {i : Nat} {l : List Nat} {σ σ1 σ2 : St} {v : AV} (hm : mask.testBit i = false) (h : DStep P ops al Hs i σ σ1) (t : DPan P ops al mask Hs l σ1 v σ2) : DPan P ops al mask Hs (i :: l) σ v σ2
  | barrier {Hs Hs' : List (List Blk)} {i : Nat} {l : List Nat} {σ σ1 σ2 : St} {v : AV} (hm : mask.testBit i = true) (h : AStep P ops i σ σ1) (hf : ∀ j ∈ l, ∀ id, al j = some id → σ1.H[id]? = σ.H[id]?)
      (hg : Good Hs' σ1.H) (t : DPan P ops al mask Hs' l σ1 v σ2) : DPan P ops al mask Hs (i :: l) σ v σ2
theorem PanOne.eqv {P : Program} {ops : Array Oper} {i : Nat} {σ σ' τ : St} {v : AV} (h : PanOne P ops i σ v σ') (he : σ.Eqv τ) : ∃ τ', PanOne P ops i τ v τ' ∧ σ'.Eqv τ' := by
 cases h with
 | op ho hw ha =>
  refine ⟨τ, .op ho (by rw [← wantedA_eqv he.vars]; exact hw) (by rw [← he.H, ← he.eval]; exact ha), he⟩
 | call ho hw ha hcal hc hd =>
  rename_i H'
  refine ⟨{ τ with H := H' }, .call ho (by rw [← wantedA_eqv he.vars]; exact hw) (by rw [← he.H, ← he.eval]; exact ha) hcal (by rw [← he.H]; exact hc) (by rw [← he.H]; exact hd), ⟨he.n, rfl, he.defs, he.vars⟩⟩
theorem DPan.eqv {P : Program} {ops : Array Oper} {al : Nat → Option Nat} {mask : Nat} : ∀ {Hs : List (List Blk)} {l : List Nat} {σ σ2 τ : St} {v : AV}, DPan P ops al mask Hs l σ v σ2 → σ.Eqv τ → ∃ τ2, DPan P ops al mask Hs l τ v τ2 ∧ σ2.Eqv τ2
 | _, _, _, _, _, _, .pan hm h, he => by
  obtain ⟨τ', h', he'⟩ := h.eqv he
  exact ⟨τ', .pan hm h', he'⟩
 | _, _, _, _, _, _, .cons hm h t, he => by
  obtain ⟨τ1, h1, he1⟩ := h.eqv he
  obtain ⟨τ2, t2, he2⟩ := DPan.eqv t he1
  exact ⟨τ2, .cons hm h1 t2, he2⟩
 | _, _, _, _, _, _, .barrier hm h hf hg t, he => by
  obtain ⟨τ1, h1, he1⟩ := h.eqv he
  obtain ⟨τ2, t2, he2⟩ := DPan.eqv t he1
  exact ⟨τ2, .barrier hm h1 (by rw [← he.H, ← he1.H]; exact hf) (by rw [← he1.H]; exact hg) t2, he2⟩
theorem DPan.first {P : Program} {mask : Nat} {ops : Array Oper} {al : Nat → Option Nat} {Hs : List (List Blk)} {i : Nat} {oi : Oper} {post : List Nat} (hoi : ops[i]? = some oi) (hmi : mask.testBit i = false) : ∀ {pre : List Nat} {σ σ' : St} {v : AV},
  DPan P ops al mask Hs (pre ++ i :: post) σ v σ' → (∀ p ∈ pre, mask.testBit p = false ∧ ∃ op, ops[p]? = some op ∧ comm ops op oi = true) → Good Hs σ.H →
  ∃ τ σ'', DStep P ops al Hs i σ τ ∧ DPan P ops al mask Hs (pre ++ post) τ v σ'' ∧ σ'.Eqv σ''
 | [], σ, σ', _, h, _, _ => by
  cases h with
  | cons hm h t => exact ⟨_, σ', h, t, St.Eqv.refl _⟩
  | barrier hm => rw [hmi] at hm; cases hm
  | pan hm => rw [hmi] at hm; cases hm
 | p :: pre, σ, σ', _, h, hc, hle => by
  obtain ⟨hmp, op, hop, hcomm⟩ := hc p (by simp)
  rw [List.cons_append] at h
  cases h with
  | barrier hm => rw [hmp] at hm; cases hm
  | pan hm => rw [hmp] at hm; cases hm
  | cons hm h t =>
   rename_i σ1
   have hle1 : Good Hs σ1.H := by
    obtain ⟨o, v, H', _, hr, hp⟩ := h
    rw [(putA_H hp).1]; exact hr.good hle
   obtain ⟨τ1, σ'', hi, ht, he⟩ := DPan.first hoi hmi t (fun q hq => hc q (by simp [hq])) hle1
   obtain ⟨τ, τ2, hi', hp', he2⟩ := swap_steps hop hoi hcomm h hi hle
   obtain ⟨σ3, ht3, he3⟩ := ht.eqv he2
   exact ⟨τ, σ3, hi', .cons hmp hp' ht3, he.trans he3⟩
section
variable {P : Program}
theorem draw_pan [Outer] {mask : Nat} {ops : Array Oper} {al : Nat → Option Nat} (hd : drawOk mask ops = true) {n0 : Nat} {S0 : Sit} (hS0 : n0 = S0.H.length)
  (hal : ∀ j id, al j = some id → n0 ≤ id) (hinj : ∀ j k id, al j = some id → al k = some id → j = k) {cro : Option Nat} {v0 : AV} {σf : St} :
  ∀ (fuel : Nat) (listed : Array Bool) (Hs : List (List Blk)) (σ σ' : St) (ι : Nat → Option (Nat × Nat)) (a : Act) (w : World), listed.size = ops.size → Closed ops listed →
   DPan P ops al mask Hs (left ops listed) σ v0 σ' → σ'.Eqv σf → Good Hs σ.H → SRel σ ι a w → Pend P ops al (left ops listed) ι σ.H → (∀ j id, al j = some id → notRow σ.H id) →
   Ev S0 ⟨σ.H, ι, w⟩ → Non S0 ⟨σ.H, ι, w⟩ → (left ops listed).length ≤ fuel →
   wpAnyIn (Fr cro) 0 P .any ops (Post S0 (.pan v0) σf) fuel listed a w := by
 have empty : ∀ (listed : Array Bool) (Hs : List (List Blk)) (σ σ' : St), left ops listed = [] → DPan P ops al mask Hs (left ops listed) σ v0 σ' → False := by
  intro listed Hs σ σ' hl hp
  rw [hl] at hp
  cases hp
 intro fuel
 induction fuel with
 | zero =>
  intro listed Hs σ σ' ι a w hsz hcl hp he hle hs hpend hbox hev hnon hlen
  exact (empty listed Hs σ σ' (by simpa using hlen) hp).elim
 | succ fuel ih =>
  intro listed Hs σ σ' ι a w hsz hcl hp he hle hs hpend hbox hev hnon hlen
  have conv : ∀ j, j < ops.size → listed.getD j false = listed.getD j true := fun j hj => by
   simp [Array.getD_eq_getD_getElem?, hsz ▸ hj]
  constructor
  ·intro hready
   refine (empty listed Hs σ σ' ?_ hp).elim
   cases hl : left ops listed with
   | nil => rfl
   | cons i rest =>
    exfalso
    have himem : i ∈ left ops listed := by rw [hl]; simp
    obtain ⟨hi1, hi2⟩ := mem_left.1 himem
    obtain ⟨oi, hoi⟩ : ∃ oi, ops[i]? = some oi := ⟨ops[i], by simp [hi1]⟩
    obtain ⟨pre, post, hsp, hpre, _⟩ := left_split himem
    have hpre0 : pre = [] := by
     rw [hl] at hsp
     cases pre with
     | nil => rfl
     | cons p pre =>
      simp only [List.cons_append, List.cons.injEq] at hsp
      have := hpre p (by simp)
      omega
    have : i ∈ Region.ready .any ops listed := by
     refine mem_ready.2 ⟨hi2, oi, hoi, fun e hemem hb => ?_⟩
     have hlt := (drawOk_spec hd hoi).1 e hemem hb
     rw [conv _ (by omega)]
     cases hg : listed.getD e.on true with
     | true => rfl
     | false =>
      have hm : e.on ∈ left ops listed := mem_left.2 ⟨by omega, hg⟩
      rw [hsp, hpre0] at hm
      have hs' : (left ops listed).Pairwise (· < ·) := List.Pairwise.filter _ List.pairwise_lt_range
      rw [hsp, hpre0, List.nil_append, List.pairwise_cons] at hs'
      rcases List.mem_cons.1 hm with h | h
      ·omega
      ·have := hs'.1 _ h; omega
    rw [hready] at this
    cases this
  ·intro i hi
   obtain ⟨hi0, oi, hoi, hafter⟩ := mem_ready.1 hi
   have hilt := (Array.getElem?_eq_some_iff.1 hoi).1
   have himem : i ∈ left ops listed := mem_left.2 ⟨hilt, hi0⟩
   obtain ⟨pre, post, hsp, hpre, hleft, hfil⟩ := left_split himem
   obtain ⟨hback, hcomm⟩ := drawOk_spec hd hoi
   have getop : ∀ p, p < ops.size → ∃ op, ops[p]? = some op := fun p hp => ⟨ops[p]'hp, by simp [hp]⟩
   have hc0 : ∀ p ∈ left ops listed, p < i → mask.testBit i = false ∧ mask.testBit p = false ∧ ∃ op, ops[p]? = some op ∧ comm ops op oi = true := by
    intro p hpm hplt
    obtain ⟨op, hop⟩ := getop p (by omega)
    have := (hcomm p op hplt hop).1.resolve_left fun hb => by
     have h1 := ready_bef hoi hback hcl hafter hb
     have h2 := (mem_left.1 hpm).2
     rw [conv p (by omega), h2] at h1
     cases h1
    exact ⟨this.1, this.2.1, op, hop, this.2.2⟩
   have hc : ∀ p ∈ pre, mask.testBit p = false ∧ ∃ op, ops[p]? = some op ∧ comm ops op oi = true := fun p hpm => (hc0 p (by rw [hsp]; simp [hpm]) (hpre p hpm)).2
   have hsz' : (listed.setIfInBounds i true).size = ops.size := by simpa using hsz
   have hcl' : Closed ops (listed.setIfInBounds i true) := by
    intro j hj hlj p hb
    by_cases hpi : p = i
    ·subst hpi; simp [Array.getD_eq_getD_getElem?, hsz ▸ hilt]
    ·rw [getD_set_ne false (Ne.symm hpi)]
     by_cases hji : j = i
     ·subst hji; exact ready_bef hoi hback hcl hafter hb
     ·rw [getD_set_ne false (Ne.symm hji)] at hlj
      exact hcl j hj hlj p hb
   have hlen' : (left ops (listed.setIfInBounds i true)).length ≤ fuel := by
    rw [hleft]
    rw [hsp] at hlen
    simp at hlen ⊢
    omega
   by_cases hks : mask.testBit i = true
   ·-- a barrier stands first
    have hpre0 : pre = [] := by
     cases pre with
     | nil => rfl
     | cons p pre =>
      have := (hc0 p (by rw [hsp]; simp) (hpre p (by simp))).1
      rw [hks] at this; cases this
    subst hpre0
    rw [hsp, List.nil_append] at hp
    cases hp with
    | cons hm => rw [hks] at hm; cases hm
    | pan hm h => exact h.one hs he hev hnon
    | barrier hm hst hf hg t =>
     rename_i Hs' σ1
     refine hst.sound hs fun ι' a' w' hs' hev' hnon' => ?_
     refine ih _ Hs' σ1 σ' ι' a' w' hsz' hcl' (hleft ▸ t) he hg hs' ?_ (fun j id h => (hev'.ptr id (hbox j id h)).1) (hev.trans hev') (hnon.trans hev hnon') hlen'
     intro j hj o' B id ho' hB hal'
     have hjp : j ∈ post := by rw [hleft] at hj; simpa using hj
     have hjL : j ∈ left ops listed := by rw [hsp]; simp [hjp]
     obtain ⟨h1, h2⟩ := hpend j hjL o' B id ho' hB hal'
     exact ⟨hnon' id (hbox j id hal') h1, by rw [hf j hjp id hal']; exact h2⟩
   ·have hks : mask.testBit i = false := by simpa using hks
    rw [hsp] at hp
    obtain ⟨τ, σ'', hst, hrest, heq⟩ := hp.first hoi hks hc hle
    have hgτ : Good Hs τ.H := by
     obtain ⟨o, v, H', _, hr, hpp⟩ := hst
     rw [(putA_H hpp).1]; exact hr.good hle
    refine hst.sound hal hinj hbox himem (fun o ho hk j hj o' B ho' hB => ?_) hs hpend fun ι' a' w' hs' hev' hnon' hpend' => ?_
    ·rw [hoi] at ho; cases ho
     have hkj := layB_kind hB
     rcases Nat.lt_trichotomy j i with h | h | h
     ·obtain ⟨_, _, op, hop, hcc⟩ := hc0 j hj h
      rw [hop] at ho'; cases ho'
      unfold comm at hcc
      rw [hkj, hk] at hcc
      simp at hcc
     ·subst h; rw [hoi] at ho'; cases ho'; rw [hk] at hkj; cases hkj
     ·have := ((drawOk_spec hd ho').2 i oi h hoi).2
      rw [hks, hk, hkj] at this
      simp at this
    ·refine ih _ Hs τ σ'' ι' a' w' hsz' hcl' (hleft ▸ hrest) (heq.symm.trans he) hgτ hs' (by rw [hleft, ← hfil]; exact hpend') (fun j id h => (hev'.ptr id (hbox j id h)).1) (hev.trans hev') ?_ hlen'
     intro id hn hi0
     exact hnon' id (by rw [hS0]; exact hn.lt) (hev.ptr id hn).1 (hnon id hn hi0)
theorem Run.region_draw_pan {ro : Option Nat} {id : Nat} {ops : Array Oper} {σ σ' : St} {v : AV} {mask : Nat} {Hs : List (List Blk)} (hm : P.follows .mixedOrders = true) (hd : drawOk mask ops = true) (hHs : (σ.H ++ hoisted P ops) ∈ Hs)
  (h : DPan P ops (alAt P σ.H.length ops) mask Hs (List.range ops.size) { σ with H := σ.H ++ hoisted P ops } v σ') : Run P ro (.region id ops true) σ (.pan v) σ' := by
 intro O ι a w cro hro hs
 refine wpIn_region_any hm ?_
 have hleft : left ops (Array.replicate ops.size false) = List.range ops.size := by
  unfold left
  refine List.filter_eq_self.2 fun j hj => ?_
  have : j < ops.size := by simpa using hj
  simp [Array.getD_eq_getD_getElem?, this]
 have hR : Rel ⟨σ.H, ι, w⟩ := hs.rel
 have hR1 : Rel ⟨σ.H ++ hoisted P ops, ι, { w with drawn := w.drawn + 1 }⟩ := Rel.fresh hR fun _ _ => rfl
 have hev : Ev ⟨σ.H, ι, w⟩ ⟨σ.H ++ hoisted P ops, ι, { w with drawn := w.drawn + 1 }⟩ := Ev.fresh hR fun _ _ => rfl
 have hat : ∀ j, j < ops.size → (σ.H ++ hoisted P ops)[σ.H.length + j]? = (ops[j]?).map fun o => (layB P o).getD .defd := by
  intro j hj
  rw [List.getElem?_append_right (by omega)]
  simp [hoisted]
 refine draw_pan hd (n0 := σ.H.length) rfl (fun j id' hj => by have := alAt_spec hj; omega) (fun j k id' hj hk => by have := alAt_spec hj; have := alAt_spec hk; omega)
  ops.size _ Hs { σ with H := σ.H ++ hoisted P ops } σ' ι a _ (by simp) ?_ (hleft ▸ h) (St.Eqv.refl _) ⟨_, hHs, HLe.refl _⟩ ⟨hR1, hs.size, hs.vars.ev hev, hs.defs.ev hev fun id' hid => ?_⟩ ?_ ?_ hev (Non.same) (by rw [hleft]; simp)
 ·intro j hj hl
  have : j < ops.size := hj
  simp [Array.getD_eq_getD_getElem?, this] at hl
 ·exact HLe.append _ _ id' _ hid rfl
 ·intro j hj o B id' ho hB hal
  obtain ⟨rfl, hlt⟩ := alAt_spec hal
  refine ⟨?_, ?_⟩
  ·cases hi : ι (σ.H.length + j) with
   | none => rfl
   | some p => have h9 : σ.H.length + j < σ.H.length := hR.lt hi; omega
  ·have := hat j hlt
   rw [ho] at this
   simpa [hB] using this
 ·intro j id' hj
  obtain ⟨rfl, hlt⟩ := alAt_spec hj
  have := hat j hlt
  rw [show ops[j]? = some ops[j] by simp [hlt]] at this
  refine ⟨_, this, ?_⟩
  show ((layB P ops[j]).getD .defd).isRow = false
  cases hB : layB P ops[j] with
  | none => rfl
  | some B => exact layB_row hB
end
end Go.Vm
