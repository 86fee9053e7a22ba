/-
  Texts of the proof, part 7: the machine, contracts of functions, plain laws. (Own work.)
-/
import Derived.Test.YteefbiehcfmoeaaGreatDoorG05DalangParses
import Derived.OrdersIn
import Derived.RangeFuncIn

namespace Go.Vm
variable {P : Program} [Outer]
structure St where
 n : Nat
 vars : Trie AV
 H : List Blk
 defs : List Nat := []
noncomputable def St.eval (σ : St) : Operand → Option AV
 | .tmp t => get σ.vars t
 | .const v => some (.lit v)
 | .func f => some (.lit (.func (.func f) #[] #[]))
 | .global _ => none
def Hid (S : Sit) (d : Deferred) : Prop := ∃ b, Mk S b ∧ Outer.out b = none ∧ d = { target := .collected b, args := #[] }
def Named (S : Sit) (id : Nat) (d : Deferred) : Prop := ∃ b wm, S.ι id = some (b, wm) ∧ S.H[id]? = some .defd ∧ d = { target := .collected b, args := #[] }
def DefRel (S : Sit) : List Nat → List Deferred → Prop
 | ids, [] => ids = []
 | ids, d :: ds => d ∉ ds ∧ ((Hid S d ∧ DefRel S ids ds) ∨ ∃ id ids', ids = id :: ids' ∧ Named S id d ∧ DefRel S ids' ds)
structure SRel (σ : St) (ι : Nat → Option (Nat × Nat)) (a : Act) (w : World) : Prop where
 rel : Rel ⟨σ.H, ι, w⟩
 size : a.tmps.size = σ.n
 vars : VarsRel ⟨σ.H, ι, w⟩ σ.vars a.tmps
 defs : DefRel ⟨σ.H, ι, w⟩ σ.defs a.defers
inductive AExit where
 | normal
 | exit (id : Nat)
 | ret
 | pan (v : AV)
def ExRel (S : Sit) : AExit → Exit → Prop
 | .normal, .normal => True
 | .exit i, .exit j => i = j
 | .ret, .ret => True
 | .pan v, .panic chain => ∃ c, chain = [{ v := c, recovered := false }] ∧ VRel S v c
 | _, _ => False
def Fr (ro : Option Nat) : Fence := { Fence.wide with round := ro }
def RoRel (S : Sit) (ro : Option Nat) (cro : Option Nat) : Prop :=
 match ro with
 | none => cro = none
 | some id => ∃ b wm, S.ι id = some (b, wm) ∧ notRow S.H id ∧ cro = some b
theorem RoRel.ev {S S' : Sit} (h : Ev S S') {ro cro : Option Nat} (x : RoRel S ro cro) : RoRel S' ro cro := by
 cases ro with
 | none => exact x
 | some id =>
  obtain ⟨b, wm, hi, hn, hc⟩ := x
  obtain ⟨hn', e⟩ := h.ptr id hn
  obtain ⟨wm', e'⟩ := e b wm hi
  exact ⟨b, wm', e', hn', hc⟩
def Post (S : Sit) (e : AExit) (σ' : St) : Exit → Act → World → Prop := fun e' a' w' =>
 ∃ ι', ExRel ⟨σ'.H, ι', w'⟩ e e' ∧ SRel σ' ι' a' w' ∧ Ev S ⟨σ'.H, ι', w'⟩ ∧ Non S ⟨σ'.H, ι', w'⟩
def Run (P : Program) (ro : Option Nat) (c : Code) (σ : St) (e : AExit) (σ' : St) : Prop :=
 ∀ (_ : Outer) ι a w cro, RoRel ⟨σ.H, ι, w⟩ ro cro → SRel σ ι a w → c.wpIn (Fr cro) 0 P (Post ⟨σ.H, ι, w⟩ e σ') a w
inductive AEnd where
 | ret (v : AV)
 | pan (v : AV)
def EndRel (S : Sit) : AEnd → Ending → Prop
 | .ret v, .returned c => VRel S v c
 | .pan v, .panicked chain => ∃ c, chain = [{ v := c, recovered := false }] ∧ VRel S v c
 | _, _ => False
def EPost (S : Sit) (r : AEnd) (H' : List Blk) : Ending → World → Prop := fun e w' =>
 ∃ ι', EndRel ⟨H', ι', w'⟩ r e ∧ Rel ⟨H', ι', w'⟩ ∧ Ev S ⟨H', ι', w'⟩ ∧ Non S ⟨H', ι', w'⟩
def ACall (P : Program) (f : FuncId) (args : List AV) (H : List Blk) (r : AEnd) (H' : List Blk) : Prop :=
 ∀ (_ : Outer) ι w (cs : Array Value), Rel ⟨H, ι, w⟩ → VRels ⟨H, ι, w⟩ args cs.toList → CallsIn (Fr none) 0 P f cs w (EPost ⟨H, ι, w⟩ r H')
def ARound (P : Program) (id : Nat) (args : List AV) (H : List Blk) (r : AEnd) (H' : List Blk) : Prop :=
 ∀ (_ : Outer) ι w b wm L (cs : Array Value), Rel ⟨H, ι, w⟩ → ι id = some (b, wm) → notRow H id → w.heap[b]? = some (.loop L) → cs.size = L.params.size → VRels ⟨H, ι, w⟩ args cs.toList →
  RoundIn (Fr none) 0 P b L.fn ((L.params.zip cs).foldl (fun tmps (t, a) => tmps.setIfInBounds t a) L.tmps) L.assign L.body w (EPost ⟨H, ι, w⟩ r H')
theorem DefRel.ev {S S' : Sit} (h : Ev S S') (hd : ∀ id : Nat, S.H[id]? = some Blk.defd → S'.H[id]? = some Blk.defd) : ∀ {ids : List Nat} {ds : List Deferred}, DefRel S ids ds → DefRel S' ids ds
 | _, [], x => x
 | _, _ :: _, ⟨hni, .inl ⟨⟨b, hm, ho, e⟩, x⟩⟩ => ⟨hni, .inl ⟨⟨b, h.mark b hm, ho, e⟩, DefRel.ev h hd x⟩⟩
 | _, _ :: _, ⟨hni, .inr ⟨id, ids', e, ⟨b, wm, hi, hB, hx⟩, x⟩⟩ => by
  obtain ⟨_, e2⟩ := h.ptr id ⟨.defd, hB, rfl⟩
  obtain ⟨wm', e'⟩ := e2 b wm hi
  exact ⟨hni, .inr ⟨id, ids', e, ⟨b, wm', e', hd id hB, hx⟩, DefRel.ev h hd x⟩⟩
theorem Post.trans {S S' : Sit} (h : Ev S S') (hn : Non S S') {e : AExit} {σ' : St} : ∀ e' a' w', Post S' e σ' e' a' w' → Post S e σ' e' a' w' :=
 fun _ _ _ ⟨ι', h1, h2, h3, h4⟩ => ⟨ι', h1, h2, h.trans h3, hn.trans h h4⟩
section
variable {ro : Option Nat} {σ σ1 σ' : St} {e : AExit}
omit [Outer] in
theorem Run.skip : Run P ro .skip σ .normal σ := fun _ ι _ _ _ _ h => wpIn_skip ⟨ι, trivial, h, Ev.refl _, Non.refl _⟩
omit [Outer] in
theorem Run.exit {i : Nat} : Run P ro (.exit i) σ (.exit i) σ := fun _ ι _ _ _ _ h => wpIn_exit ⟨ι, rfl, h, Ev.refl _, Non.refl _⟩
omit [Outer] in
theorem Run.ret : Run P ro .ret σ .ret σ := fun _ ι _ _ _ _ h => wpIn_ret ⟨ι, trivial, h, Ev.refl _, Non.refl _⟩
omit [Outer] in
theorem Run.label {l : Nat} : Run P ro (.label l) σ .normal σ := fun _ ι _ _ _ _ h => wpIn_label ⟨ι, trivial, h, Ev.refl _, Non.refl _⟩
omit [Outer] in
theorem Run.seq {x y : Code} (h1 : Run P ro x σ .normal σ1) (h2 : Run P ro y σ1 e σ') : Run P ro (.seq x y) σ e σ' := by
 intro O ι a w cro hro h
 refine wpIn_seq (wpIn_mono (h1 _ ι a w cro hro h) ?_)
 rintro e1 a1 w1 ⟨ι1, hx, hs, hev, hnon⟩
 cases e1 <;> first
  | exact wpIn_mono (h2 _ ι1 a1 w1 cro (hro.ev hev) hs) (Post.trans hev hnon)
  | exact hx.elim
def AExit.isNormal : AExit → Bool
 | .normal => true
 | _ => false
omit [Outer] in
theorem Run.seq_out {x y : Code} (h1 : Run P ro x σ e σ') (he : e.isNormal = false) : Run P ro (.seq x y) σ e σ' := by
 intro O ι a w cro hro h
 refine wpIn_seq (wpIn_mono (h1 _ ι a w cro hro h) ?_)
 rintro e1 a1 w1 hp
 cases e1 with
 | normal =>
  obtain ⟨ι1, hx, _⟩ := hp
  cases e <;> first | (cases he; done) | exact hx.elim
 | _ => exact hp
omit [Outer] in
theorem Run.cond {c : Operand} {x y : Code} {t : Bool} (hc : σ.eval c = some (.lit (.bool t))) (h : Run P ro (if t then x else y) σ e σ') : Run P ro (.cond c x y) σ e σ' := by
 intro O ι a w cro hro hs
 refine wpIn_cond (t := t) ?_ (h _ ι a w cro hro hs)
 cases c with
 | tmp k =>
  obtain ⟨d, hd, hr⟩ := hs.vars k _ hc
  simp only [VRel] at hr
  simp [Act.eval, hd, hr]
 | const v => simp only [St.eval, Option.some.injEq, AV.lit.injEq] at hc; subst hc; rfl
 | func f => simp [St.eval] at hc
 | global g => simp [St.eval] at hc
omit [Outer] in
theorem Run.block {i : Nat} {c : Code} (h : Run P ro c σ e σ') (he : e = .normal ∨ e = .exit i) : Run P ro (.block i c) σ .normal σ' := by
 intro O ι a w cro hro hs
 refine wpIn_block (wpIn_mono (h _ ι a w cro hro hs) ?_)
 rintro e1 a1 w1 ⟨ι1, hx, hr⟩
 rcases he with rfl | rfl
 ·cases e1 <;> first | exact ⟨ι1, trivial, hr⟩ | exact hx.elim
 ·cases e1 with
  | exit j =>
   have : i = j := hx
   subst this
   simp only [Exit.inBlock, if_true]
   exact ⟨ι1, trivial, hr⟩
  | _ => exact hx.elim
def AExit.passes (i : Nat) : AExit → Bool
 | .normal => false
 | .exit j => j != i
 | _ => true
omit [Outer] in
theorem Run.block_out {i : Nat} {c : Code} (h : Run P ro c σ e σ') (he : e.passes i = true) : Run P ro (.block i c) σ e σ' := by
 intro O ι a w cro hro hs
 refine wpIn_block (wpIn_mono (h _ ι a w cro hro hs) ?_)
 rintro e1 a1 w1 hp
 obtain ⟨ι1, hx, hr⟩ := hp
 cases e with
 | normal => cases he
 | exit j =>
  cases e1 with
  | exit k =>
   have hjk : j = k := hx
   subst hjk
   simp only [AExit.passes, bne_iff_ne, ne_eq] at he
   simp only [Exit.inBlock, if_neg he]
   exact ⟨ι1, rfl, hr⟩
  | _ => exact hx.elim
 | ret => cases e1 <;> first | exact ⟨ι1, trivial, hr⟩ | exact hx.elim
 | pan v => cases e1 <;> first | exact ⟨ι1, hx, hr⟩ | exact hx.elim
def InL (P : Program) (ro : Option Nat) (c : Code) (σ : St) (e : AExit) (σ' : St) : Prop :=
 ∀ (_ : Outer) ι a w cro, RoRel ⟨σ.H, ι, w⟩ ro cro → SRel σ ι a w → ∀ (b : Frame) (k : List Item) (cs : List Frame), b.roundOf = (Fr cro).round → (Fr cro).fn b.fn → (Fr cro).room (cs.length + 1 + 0) →
  ∃ e' a' w', Post ⟨σ.H, ι, w⟩ e σ' e' a' w' ∧ ArrivesIn (Machine.fenced P (Fr cro)) P (lone (b.atR a (.code c :: .inLoop c :: k)) cs w) b k cs e' a' w'
omit [Outer] in
theorem Run.loop {c : Code} (h : InL P ro c σ e σ') : Run P ro (.loop c) σ e σ' := by
 intro O ι a w cro hro hs b k cs hbro hb hr
 obtain ⟨e1, a1, w1, hp, harr⟩ := h _ ι a w cro hro hs b k cs hbro hb hr
 exact ⟨e1, a1, w1, hp, .of_steps (.one (fenced_calm hb hr rfl) stepR_loop) harr⟩
omit [Outer] in
theorem InL.go {c : Code} (h1 : Run P ro c σ .normal σ1) (h2 : InL P ro c σ1 e σ') : InL P ro c σ e σ' := by
 intro O ι a w cro hro hs b k cs hbro hb hr
 obtain ⟨e1, a1, w1, ⟨ι1, hx, hs1, hev, hnon⟩, harr⟩ := h1 _ ι a w cro hro hs b (.inLoop c :: k) cs hbro hb hr
 cases e1 with
 | normal =>
  obtain ⟨e2, a2, w2, hp2, harr2⟩ := h2 _ ι1 a1 w1 cro (hro.ev hev) hs1 b k cs hbro hb hr
  exact ⟨e2, a2, w2, Post.trans hev hnon _ _ _ hp2, .of_steps (StepsIn.trans harr (.one (fenced_calm hb hr rfl) stepR_inLoop)) harr2⟩
 | _ => exact hx.elim
omit [Outer] in
theorem InL.out {c : Code} (h1 : Run P ro c σ e σ') (he : e.isNormal = false) : InL P ro c σ e σ' := by
 intro O ι a w cro hro hs b k cs hbro hb hr
 obtain ⟨e1, a1, w1, hp, harr⟩ := h1 _ ι a w cro hro hs b (.inLoop c :: k) cs hbro hb hr
 refine ⟨e1, a1, w1, hp, ?_⟩
 cases e1 with
 | normal =>
  obtain ⟨ι1, hx, _⟩ := hp
  cases e <;> first | (cases he; done) | exact hx.elim
 | _ => exact .pass (x := .inLoop c) rfl (fun _ _ => .inl (by simp)) harr
end
noncomputable def putA (σ : St) (dst : Option Tmp) (v : AV) (H : List Blk) : Option St :=
 match dst with
 | none => some { σ with H := H }
 | some d => if d < σ.n then some { σ with vars := set σ.vars d v, H := H } else none
def keepsD (H H' : List Blk) : Prop := ∀ id : Nat, H[id]? = some Blk.defd → H'[id]? = some Blk.defd
theorem SRel.put {σ σ1 : St} {ι ι' : Nat → Option (Nat × Nat)} {a : Act} {w w' : World} {dst : Option Tmp} {v : AV} {c : Value} {H' : List Blk} (hs : SRel σ ι a w)
  (hR : Rel ⟨H', ι', w'⟩) (hev : Ev ⟨σ.H, ι, w⟩ ⟨H', ι', w'⟩) (hd : keepsD σ.H H') (hv : VRel ⟨H', ι', w'⟩ v c) (h : putA σ dst v H' = some σ1) : SRel σ1 ι' (a.put dst c) w' := by
 unfold putA at h
 cases dst with
 | none =>
  simp only [Option.some.injEq] at h; subst h
  exact ⟨hR, hs.size, hs.vars.ev hev, hs.defs.ev hev hd⟩
 | some d =>
  simp only at h
  split at h
  ·rename_i hlt
   simp only [Option.some.injEq] at h; subst h
   refine ⟨hR, by simp [Act.put, hs.size], ?_, hs.defs.ev hev hd⟩
   exact (hs.vars.ev hev).set (by rw [hs.size]; exact hlt) hv
  ·cases h
noncomputable def wantedA (ops : Array Oper) (vars : Trie AV) (o : Oper) : Option Bool :=
 match o.guard with
 | none => some true
 | some (j, want) =>
  match (ops[j]?).bind (·.dst) with
  | none => none
  | some t => match get vars t with
   | some (.lit (.bool b)) => some (b == want)
   | some (.lit (.tuple _)) => some false
   | _ => none
theorem wantedA_sound {S : Sit} {ops : Array Oper} {vars : Trie AV} {tmps : Array Value} (hv : VarsRel S vars tmps) {o : Oper} {b : Bool} (h : wantedA ops vars o = some b) :
  Region.wanted o (yielded ops tmps) = b := by
 unfold wantedA at h
 unfold Region.wanted
 cases hg : o.guard with
 | none => rw [hg] at h; simpa using h
 | some p =>
  obtain ⟨j, want⟩ := p
  rw [hg] at h
  simp only at h ⊢
  cases hd : (ops[j]?).bind (·.dst) with
  | none => simp [hd] at h
  | some t =>
   simp only [hd] at h
   split at h
   ·rename_i b' hb
    obtain ⟨c, hc, hr⟩ := hv t _ hb
    simp only [VRel] at hr; subst hr
    cases h
    unfold yielded
    simp only [hd, Option.bind_some, hc]
    cases b' <;> cases want <;> rfl
   ·rename_i vs hb
    obtain ⟨c, hc, hr⟩ := hv t _ hb
    simp only [VRel] at hr; subst hr
    cases h
    unfold yielded
    simp only [hd, Option.bind_some, hc]
    rfl
   ·cases h
theorem St.eval_sound {σ : St} {ι : Nat → Option (Nat × Nat)} {a : Act} {w : World} (hs : SRel σ ι a w) : ∀ x v, σ.eval x = some v → VRel ⟨σ.H, ι, w⟩ v (a.eval x) := by
 intro x v h
 cases x with
 | tmp k =>
  obtain ⟨c, hc, hr⟩ := hs.vars k v h
  simpa [Act.eval, hc] using hr
 | const u => simp only [St.eval, Option.some.injEq] at h; subst h; simp [VRel, Act.eval]
 | func f => simp only [St.eval, Option.some.injEq] at h; subst h; simp [VRel, Act.eval]
 | global g => simp [St.eval] at h
inductive AStep (P : Program) (ops : Array Oper) (i : Nat) (σ : St) : St → Prop where
  | val {m : Bool} {o : Oper} {v : AV} {H' : List Blk} {σ1 : St} (ho : ops[i]? = some o) (hw : wantedA ops σ.vars o = some true) (ha : aop P m σ.H σ.eval o = some (.val v H')) (hd : keepsD σ.H H')
      (hp : putA σ o.dst v H' = some σ1) : AStep P ops i σ σ1
  | skip {o : Oper} {σ1 : St} (ho : ops[i]? = some o) (hw : wantedA ops σ.vars o = some false) (hp : putA σ o.dst (.lit undef) σ.H = some σ1) : AStep P ops i σ σ1
  | call {m : Bool} {o : Oper} {f : FuncId} {args : List AV} {v : AV} {H' : List Blk} {σ1 : St} (ho : ops[i]? = some o) (hw : wantedA ops σ.vars o = some true) (ha : aop P m σ.H σ.eval o = some (.call f args))
      (hcal : callable P f = true) (hc : ACall P f args σ.H (.ret v) H') (hd : keepsD σ.H H') (hp : putA σ o.dst v H' = some σ1) : AStep P ops i σ σ1
  | round {m : Bool} {o : Oper} {id : Nat} {args : List AV} {v : AV} {H' : List Blk} {σ1 : St} (ho : ops[i]? = some o) (hw : wantedA ops σ.vars o = some true) (ha : aop P m σ.H σ.eval o = some (.round id args))
      (hc : ARound P id args σ.H (.ret v) H') (hd : keepsD σ.H H') (hp : putA σ o.dst v H' = some σ1) : AStep P ops i σ σ1
omit [Outer] in
theorem aop_noDefer {m : Bool} {H : List Blk} {ρ : Operand → Option AV} {o : Oper} {r : AR} (h : aop P m H ρ o = some r) : ∀ c, o.op ≠ .defer c := by
 intro c hc
 obtain ⟨dst, op, type, pos, after, guard⟩ := o
 subst hc
 simp [aop] at h
omit [Outer] in
theorem Fr_fn (ro : Option Nat) (f : FuncId) : (Fr ro).fn f := trivial
omit [Outer] in
theorem Fr_depth (ro : Option Nat) : (Fr ro).depth = none := rfl
theorem AStep.sound {ops : Array Oper} {i : Nat} {σ σ1 : St} (h : AStep P ops i σ σ1) {ι : Nat → Option (Nat × Nat)} {a : Act} {w : World} {cro : Option Nat} (hs : SRel σ ι a w)
  {Q : Exit → Act → World → Prop} {K : Act → World → Prop}
  (hK : ∀ ι' a' w', SRel σ1 ι' a' w' → Ev ⟨σ.H, ι, w⟩ ⟨σ1.H, ι', w'⟩ → Non ⟨σ.H, ι, w⟩ ⟨σ1.H, ι', w'⟩ → K a' w') : wpOpIn (Fr cro) 0 P ops Q i K a w := by
 unfold wpOpIn
 have hput : ∀ {dst : Option Tmp} {v : AV} {H' : List Blk}, putA σ dst v H' = some σ1 → σ1.H = H' := by
  intro dst v H' hp
  unfold putA at hp
  cases dst with
  | none => simp only [Option.some.injEq] at hp; subst hp; rfl
  | some d => simp only at hp; split at hp <;> first | (simp only [Option.some.injEq] at hp; subst hp; rfl) | cases hp
 cases h with
 | skip ho hw hp =>
  simp only [ho]
  rw [wantedA_sound hs.vars hw]
  simp only [Bool.false_eq_true, if_false]
  refine ⟨fun _ _ => Fr_fn _ _, ?_⟩
  have hH := hput hp
  refine hK ι _ w (hs.put hs.rel (Ev.refl _) (fun _ h => h) (by simp [VRel]) hp) ?_ ?_
  ·rw [hH]; exact Ev.refl _
  ·rw [hH]; exact Non.refl _
 | val ho hw ha hd hp =>
  rename_i o v H'
  simp only [ho]
  rw [wantedA_sound hs.vars hw]
  simp only [if_true]
  refine ⟨fun _ _ => Fr_fn _ _, ?_⟩
  have hH := hput hp
  have hok := aop_sound hs.rel (St.eval_sound hs) ha
  rw [Oper.semAt_eq _ _ _ (aop_noDefer ha)]
  obtain ⟨c, ι', w', hx, hR, hev, hnon, hv⟩ := hok
  rcases hx with hx | ⟨hx, rfl⟩
  ·rw [hx]
   exact hK ι' _ w' (hs.put hR hev hd hv hp) (by rw [hH]; exact hev) (by rw [hH]; exact hnon)
  ·rw [hx]
   exact hK ι' _ w' (hs.put hR hev hd hv hp) (by rw [hH]; exact hev) (by rw [hH]; exact hnon)
 | call ho hw ha hcal hc hd hp =>
  rename_i o f args v H'
  simp only [ho]
  rw [wantedA_sound hs.vars hw]
  simp only [if_true]
  refine ⟨fun _ _ => Fr_fn _ _, ?_⟩
  have hH := hput hp
  obtain ⟨cs, hx, hargs⟩ := aop_sound hs.rel (St.eval_sound hs) ha hcal
  rw [Oper.semAt_eq _ _ _ (aop_noDefer ha), hx]
  refine ⟨fun h => (by simp [Fr_depth] at h), ?_⟩
  have hcall : CallsIn (Fr cro) 0 P f cs w (EPost ⟨σ.H, ι, w⟩ (.ret v) H') := hc _ ι w cs hs.rel hargs
  refine hcall.mono ?_
  rintro e w' ⟨ι', hend, hR, hev, hnon⟩
  cases e with
  | returned c => exact hK ι' _ w' (hs.put hR hev hd hend hp) (by rw [hH]; exact hev) (by rw [hH]; exact hnon)
  | panicked chain => exact hend.elim
  | outgrown => exact hend.elim
 | round ho hw ha hc hd hp =>
  rename_i o id args v H'
  simp only [ho]
  rw [wantedA_sound hs.vars hw]
  simp only [if_true]
  refine ⟨fun _ _ => Fr_fn _ _, ?_⟩
  have hH := hput hp
  obtain ⟨b, wm, L, cs, hi, hn, hL, hsz, hx, hargs⟩ := aop_sound hs.rel (St.eval_sound hs) ha
  rw [Oper.semAt_eq _ _ _ (aop_noDefer ha), hx]
  refine ⟨fun h => (by simp [Fr_depth] at h), ?_⟩
  have hround := hc _ ι w b wm L cs hs.rel hi hn hL hsz hargs
  refine RoundIn.mono (F := Fr cro) hround ?_
  rintro e w' ⟨ι', hend, hR, hev, hnon⟩
  cases e with
  | returned c => exact hK ι' _ w' (hs.put hR hev hd hend hp) (by rw [hH]; exact hev) (by rw [hH]; exact hnon)
  | panicked chain => exact hend.elim
  | outgrown => exact hend.elim
inductive APath (P : Program) (ops : Array Oper) : List Nat → St → St → Prop where
 | nil {σ : St} : APath P ops [] σ σ
 | cons {i : Nat} {l : List Nat} {σ σ1 σ2 : St} (h : AStep P ops i σ σ1) (t : APath P ops l σ1 σ2) : APath P ops (i :: l) σ σ2
theorem APath.sound {ops : Array Oper} {cro : Option Nat} {S0 : Sit} : ∀ {l : List Nat} {σ σ' : St}, APath P ops l σ σ' → ∀ {ι : Nat → Option (Nat × Nat)} {a : Act} {w : World}, SRel σ ι a w →
  Ev S0 ⟨σ.H, ι, w⟩ → Non S0 ⟨σ.H, ι, w⟩ → wpOpsIn (Fr cro) 0 P ops (Post S0 .normal σ') l a w
 | _, _, _, .nil, ι, _, _, hs, hev, hnon => by
  simp only [wpOpsIn]
  exact ⟨ι, trivial, hs, hev, hnon⟩
 | _, _, _, .cons h t, ι, a, w, hs, hev, hnon => by
  rw [wpOpsIn_cons]
  exact h.sound hs fun ι1 a1 w1 hs1 hev1 hnon1 => APath.sound t hs1 (hev.trans hev1) (hnon.trans hev hnon1)
omit [Outer] in
theorem Run.region {ro : Option Nat} {id : Nat} {ops : Array Oper} {σ σ' : St} (h : APath P ops (List.range ops.size) σ σ') : Run P ro (.region id ops false) σ .normal σ' :=
 fun _ _ _ _ _ _ hs => wpIn_region (h.sound hs (Ev.refl _) (Non.refl _))
inductive APanics (P : Program) (ops : Array Oper) : List Nat → St → AV → St → Prop where
  | op {m : Bool} {i : Nat} {l : List Nat} {σ : St} {o : Oper} {v : AV} (ho : ops[i]? = some o) (hw : wantedA ops σ.vars o = some true) (ha : aop P m σ.H σ.eval o = some (.pan v)) : APanics P ops (i :: l) σ v σ
  | call {m : Bool} {i : Nat} {l : List Nat} {σ : St} {o : Oper} {f : FuncId} {args : List AV} {v : AV} {H' : List Blk} (ho : ops[i]? = some o) (hw : wantedA ops σ.vars o = some true)
      (ha : aop P m σ.H σ.eval o = some (.call f args)) (hcal : callable P f = true) (hc : ACall P f args σ.H (.pan v) H') (hd : keepsD σ.H H') : APanics P ops (i :: l) σ v { σ with H := H' }
  | cons {i : Nat} {l : List Nat} {σ σ1 σ2 : St} {v : AV} (h : AStep P ops i σ σ1) (t : APanics P ops l σ1 v σ2) : APanics P ops (i :: l) σ v σ2
theorem APanics.sound {ops : Array Oper} {cro : Option Nat} {S0 : Sit} {v : AV} : ∀ {l : List Nat} {σ σ' : St}, APanics P ops l σ v σ' → ∀ {ι : Nat → Option (Nat × Nat)} {a : Act} {w : World}, SRel σ ι a w →
  Ev S0 ⟨σ.H, ι, w⟩ → Non S0 ⟨σ.H, ι, w⟩ → wpOpsIn (Fr cro) 0 P ops (Post S0 (.pan v) σ') l a w
 | _, σ, _, .op ho hw ha, ι, a, w, hs, hev, hnon => by
  rw [wpOpsIn_cons]
  unfold wpOpIn
  simp only [ho]
  rw [wantedA_sound hs.vars hw]
  simp only [if_true]
  refine ⟨fun _ _ => Fr_fn _ _, ?_⟩
  obtain ⟨c, hx, hv⟩ := aop_sound hs.rel (St.eval_sound hs) ha
  rw [Oper.semAt_eq _ _ _ (aop_noDefer ha), hx]
  exact ⟨ι, ⟨c, rfl, hv⟩, hs, hev, hnon⟩
 | _, σ, _, .call (H' := H') ho hw ha hcal hc hd, ι, a, w, hs, hev, hnon => by
  rw [wpOpsIn_cons]
  unfold wpOpIn
  simp only [ho]
  rw [wantedA_sound hs.vars hw]
  simp only [if_true]
  refine ⟨fun _ _ => Fr_fn _ _, ?_⟩
  obtain ⟨cs, hx, hargs⟩ := aop_sound hs.rel (St.eval_sound hs) ha hcal
  rw [Oper.semAt_eq _ _ _ (aop_noDefer ha), hx]
  refine ⟨fun h => (by simp [Fr_depth] at h), ?_⟩
  have hcall : CallsIn (Fr cro) 0 P _ cs w (EPost ⟨σ.H, ι, w⟩ (.pan v) H') := hc _ ι w cs hs.rel hargs
  refine hcall.mono ?_
  rintro e w' ⟨ι', hend, hR, hev', hnon'⟩
  cases e with
  | returned c => exact hend.elim
  | panicked chain => exact ⟨ι', hend, ⟨hR, hs.size, hs.vars.ev hev', hs.defs.ev hev' hd⟩, hev.trans hev', hnon.trans hev hnon'⟩
  | outgrown => exact hend.elim
 | _, _, _, .cons h t, ι, a, w, hs, hev, hnon => by
  rw [wpOpsIn_cons]
  exact h.sound hs fun ι1 a1 w1 hs1 hev1 hnon1 => APanics.sound t hs1 (hev.trans hev1) (hnon.trans hev hnon1)
omit [Outer] in
theorem Run.region_pan {ro : Option Nat} {id : Nat} {ops : Array Oper} {σ σ' : St} {v : AV} (h : APanics P ops (List.range ops.size) σ v σ') : Run P ro (.region id ops false) σ (.pan v) σ' :=
 fun _ _ _ _ _ _ hs => wpIn_region (h.sound hs (Ev.refl _) (Non.refl _))
noncomputable def initVars : Nat → List AV → Trie AV
 | _, [] => .nil
 | i, a :: as => set (initVars (i + 1) as) i a
omit [Outer] in
theorem get_initVars : ∀ (as : List AV) (i k : Nat), get (initVars i as) k = if k < i then none else as[k - i]?
 | [], i, k => by simp [initVars, get_nil]
 | a :: as, i, k => by
  unfold initVars
  by_cases h : i = k
  ·subst h; rw [get_set_same]; simp
  ·rw [get_set_other _ _ _ _ h, get_initVars as (i + 1) k]
   by_cases h2 : k < i
   ·simp [h2, Nat.lt_succ_of_lt h2]
   ·have e : k - i = (k - (i + 1)) + 1 := by omega
    have h3 : ¬ k < i + 1 := by omega
    simp [h2, h3, e]
noncomputable def resA (P : Program) (σ : St) : List ResultVar → Option (List AV)
 | [] => some []
 | .tmp t :: rs => match get σ.vars t, resA P σ rs with
  | some v, some vs => some (v :: vs)
  | _, _ => none
 | .cell t ty :: rs => match (get σ.vars t).bind (loadOp P σ.H ty), resA P σ rs with
  | some v, some vs => some (v :: vs)
  | _, _ => none
def resV : List AV → AV
 | [v] => v
 | vs => .tup vs
def resOne (tmps : Array Value) : ResultVar → Sem Value
 | .tmp t => pure (tmps.getD t undef)
 | .cell x t => do loadVar t (← asAddr (tmps.getD x undef))
theorem resA_sound {σ : St} {ι : Nat → Option (Nat × Nat)} {a : Act} {w : World} (hs : SRel σ ι a w) : ∀ {rs : List ResultVar} {vs : List AV}, resA P σ rs = some vs →
  ∃ cs : List Value, (rs.mapM (resOne a.tmps)).run P w = .ok cs w ∧ VRels ⟨σ.H, ι, w⟩ vs cs
 | [], vs, h => by simp only [resA, Option.some.injEq] at h; subst h; exact ⟨[], rfl, by simp [VRels]⟩
 | .tmp t :: rs, vs, h => by
  simp only [resA] at h
  split at h
  ·rename_i v vs' h1 h2
   cases h
   obtain ⟨cs, hc, hr⟩ := resA_sound hs h2
   obtain ⟨c, hc1, hr1⟩ := hs.vars t v h1
   refine ⟨c :: cs, ?_, ⟨hr1, hr⟩⟩
   rw [List.mapM_cons, Sem.run_bind]
   have : (resOne a.tmps (.tmp t)).run P w = .ok c w := by simp [resOne, hc1]
   rw [this]
   simp only [Result.andThen_ok]
   rw [Sem.run_bind, hc]
   rfl
  ·cases h
 | .cell t ty :: rs, vs, h => by
  simp only [resA] at h
  split at h
  ·rename_i v vs' h1 h2
   cases h
   obtain ⟨cs, hc, hr⟩ := resA_sound hs h2
   obtain ⟨x, hx, hl⟩ := bind_some h1
   obtain ⟨c, hc1, hr1⟩ := hs.vars t x hx
   obtain ⟨d, hd, hrd⟩ := loadOp_sound hs.rel hl hr1
   refine ⟨d :: cs, ?_, ⟨hrd, hr⟩⟩
   rw [List.mapM_cons, Sem.run_bind]
   have hptr : ∃ ad, c = .pointer (some ad) := by
    unfold loadOp at hl
    obtain ⟨cells, hcells, _⟩ := bind_some hl
    obtain ⟨b, o, rfl, _⟩ := cellsAt_sound hs.rel hcells hr1
    exact ⟨_, rfl⟩
   obtain ⟨ad, rfl⟩ := hptr
   have : (resOne a.tmps (.cell t ty)).run P w = .ok d w := by
    unfold resOne
    rw [Sem.run_bind]
    simp only [Array.getD_eq_getD_getElem?, hc1, Option.getD_some, asAddr, Sem.run_pure, Result.andThen_ok]
    unfold Instr.loadAt at hd
    rw [Sem.run_bind] at hd
    exact hd
   rw [this]
   simp only [Result.andThen_ok]
   rw [Sem.run_bind, hc]
   rfl
  ·cases h
theorem results_run {σ : St} {ι : Nat → Option (Nat × Nat)} {a : Act} {w : World} (hs : SRel σ ι a w) {fn : Func} {vs : List AV} (h : resA P σ fn.results.toList = some vs) :
  ∃ c, (results fn a.tmps).run P w = .ok c w ∧ VRel ⟨σ.H, ι, w⟩ (resV vs) c := by
 obtain ⟨cs, hc, hr⟩ := resA_sound hs h
 have hl := hr.length
 have hm : (results fn a.tmps).run P w = .ok (if h : cs.toArray.size = 1 then cs.toArray[0] else .tuple cs.toArray) w := by
  have e0 : results fn a.tmps = (fn.results.mapM (resOne a.tmps)) >>= fun vs => pure (if h : vs.size = 1 then vs[0] else .tuple vs) := by
   unfold results
   congr 2
  rw [e0, Sem.run_bind]
  have e : (fn.results.mapM (resOne a.tmps)).run P w = .ok cs.toArray w := by
   rw [← Array.toArray_toList (xs := fn.results), List.mapM_toArray, Sem.run_map, hc]
   rfl
  rw [e]
  rfl
 refine ⟨_, hm, ?_⟩
 match vs, cs, hr, hl with
 | [], [], _, _ => simp [resV, VRel, VRels]
 | [v], [c], hr, _ => simp only [VRels] at hr; simpa [resV] using hr.1
 | v :: v' :: vs, c :: c' :: cs, hr, _ =>
  have : ¬ ((c :: c' :: cs).toArray.size = 1) := by simp
  rw [dif_neg this]
  simp only [resV, VRel]
  exact ⟨_, rfl, hr⟩
end Go.Vm
