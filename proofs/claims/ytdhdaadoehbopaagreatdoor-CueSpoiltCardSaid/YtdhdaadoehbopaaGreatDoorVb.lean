/-
  The abstract machine over the model's calculus, on which this claim rests; no statement of the program is proved here. Conditions: none. (Code, calls, regions, an evaluator.)
-/
import Derived.Test.YtdhdaadoehbopaaGreatDoorVa
import Derived.OrdersIn
import Derived.RangeFuncIn
import Derived.RangeFuncRecord

namespace Go.Vm
variable {P : Program} [Outer]
structure St where
 n : Nat
 vars : Trie AV
 H : List Blk
 defs : List Nat := []
noncomputable def St.eval (σ : St) : Operand → Option AV
 | .tmp t => get σ.vars t
 | .const v => some (.lit v)
 | .func f => some (.lit (.func (.func f) #[] #[]))
 | .global _ => none
def DefRel (S : Sit) : List Nat → List Deferred → Prop
 | [], [] => True
 | id :: ids, d :: ds => (∃ b wm, S.ι id = some (b, wm) ∧ S.H[id]? = some .defd ∧ d = { target := .collected b, args := #[] }) ∧ DefRel S ids ds
 | _, _ => False
structure SRel (σ : St) (ι : Nat → Option (Nat × Nat)) (a : Act) (w : World) : Prop where
 rel : Rel ⟨σ.H, ι, w⟩
 size : a.tmps.size = σ.n
 vars : VarsRel ⟨σ.H, ι, w⟩ σ.vars a.tmps
 defs : DefRel ⟨σ.H, ι, w⟩ σ.defs a.defers
inductive AExit where
 | normal
 | exit (id : Nat)
 | ret
 | pan (v : AV)
def ExRel (S : Sit) : AExit → Exit → Prop
 | .normal, .normal => True
 | .exit i, .exit j => i = j
 | .ret, .ret => True
 | .pan v, .panic chain => ∃ c, chain = [{ v := c, recovered := false }] ∧ VRel S v c
 | _, _ => False
def Fr (ro : Option Nat) : Fence := { Fence.wide with round := ro }
def RoRel (S : Sit) (ro : Option Nat) (cro : Option Nat) : Prop :=
 match ro with
 | none => cro = none
 | some id => ∃ b wm, S.ι id = some (b, wm) ∧ notRow S.H id ∧ cro = some b
theorem RoRel.ev {S S' : Sit} (h : Ev S S') {ro cro : Option Nat} (x : RoRel S ro cro) : RoRel S' ro cro := by
 cases ro with
 | none => exact x
 | some id =>
  obtain ⟨b, wm, hi, hn, hc⟩ := x
  obtain ⟨hn', e⟩ := h.ptr id hn
  obtain ⟨wm', e'⟩ := e b wm hi
  exact ⟨b, wm', e', hn', hc⟩
def Post (S : Sit) (e : AExit) (σ' : St) : Exit → Act → World → Prop := fun e' a' w' =>
 ∃ ι', ExRel ⟨σ'.H, ι', w'⟩ e e' ∧ SRel σ' ι' a' w' ∧ Ev S ⟨σ'.H, ι', w'⟩ ∧ Non S ⟨σ'.H, ι', w'⟩
def Run (P : Program) (ro : Option Nat) (c : Code) (σ : St) (e : AExit) (σ' : St) : Prop :=
 ∀ (_ : Outer) ι a w cro, RoRel ⟨σ.H, ι, w⟩ ro cro → SRel σ ι a w → c.wpIn (Fr cro) 0 P (Post ⟨σ.H, ι, w⟩ e σ') a w
inductive AEnd where
 | ret (v : AV)
 | pan (v : AV)
def EndRel (S : Sit) : AEnd → Ending → Prop
 | .ret v, .returned c => VRel S v c
 | .pan v, .panicked chain => ∃ c, chain = [{ v := c, recovered := false }] ∧ VRel S v c
 | _, _ => False
def EPost (S : Sit) (r : AEnd) (H' : List Blk) : Ending → World → Prop := fun e w' =>
 ∃ ι', EndRel ⟨H', ι', w'⟩ r e ∧ Rel ⟨H', ι', w'⟩ ∧ Ev S ⟨H', ι', w'⟩ ∧ Non S ⟨H', ι', w'⟩
def ACall (P : Program) (f : FuncId) (args : List AV) (H : List Blk) (r : AEnd) (H' : List Blk) : Prop :=
 ∀ (_ : Outer) ι w (cs : Array Value), Rel ⟨H, ι, w⟩ → VRels ⟨H, ι, w⟩ args cs.toList → CallsIn (Fr none) 0 P f cs w (EPost ⟨H, ι, w⟩ r H')
def ARound (P : Program) (id : Nat) (args : List AV) (H : List Blk) (r : AEnd) (H' : List Blk) : Prop :=
 ∀ (_ : Outer) ι w b wm L (cs : Array Value), Rel ⟨H, ι, w⟩ → ι id = some (b, wm) → notRow H id → w.heap[b]? = some (.loop L) → cs.size = L.params.size → VRels ⟨H, ι, w⟩ args cs.toList →
  RoundIn (Fr none) 0 P b L.fn ((L.params.zip cs).foldl (fun tmps (t, a) => tmps.setIfInBounds t a) L.tmps) L.assign L.body w (EPost ⟨H, ι, w⟩ r H')
theorem DefRel.ev {S S' : Sit} (h : Ev S S') (hd : ∀ id : Nat, S.H[id]? = some Blk.defd → S'.H[id]? = some Blk.defd) : ∀ {ids : List Nat} {ds : List Deferred}, DefRel S ids ds → DefRel S' ids ds
 | [], [], _ => trivial
 | [], _ :: _, x => x.elim
 | _ :: _, [], x => x.elim
 | id :: ids, d :: ds, x => by
  obtain ⟨⟨b, wm, hi, hB, hx⟩, x2⟩ := x
  obtain ⟨_, e⟩ := h.ptr id ⟨.defd, hB, rfl⟩
  obtain ⟨wm', e'⟩ := e b wm hi
  exact ⟨⟨b, wm', e', hd id hB, hx⟩, DefRel.ev h hd x2⟩
theorem Post.trans {S S' : Sit} (h : Ev S S') (hn : Non S S') {e : AExit} {σ' : St} : ∀ e' a' w', Post S' e σ' e' a' w' → Post S e σ' e' a' w' :=
 fun _ _ _ ⟨ι', h1, h2, h3, h4⟩ => ⟨ι', h1, h2, h.trans h3, hn.trans h h4⟩
section
variable {ro : Option Nat} {σ σ1 σ' : St} {e : AExit}
omit [Outer] in
theorem Run.skip : Run P ro .skip σ .normal σ := fun _ ι _ _ _ _ h => wpIn_skip ⟨ι, trivial, h, Ev.refl _, Non.refl _⟩
omit [Outer] in
theorem Run.exit {i : Nat} : Run P ro (.exit i) σ (.exit i) σ := fun _ ι _ _ _ _ h => wpIn_exit ⟨ι, rfl, h, Ev.refl _, Non.refl _⟩
omit [Outer] in
theorem Run.ret : Run P ro .ret σ .ret σ := fun _ ι _ _ _ _ h => wpIn_ret ⟨ι, trivial, h, Ev.refl _, Non.refl _⟩
omit [Outer] in
theorem Run.label {l : Nat} : Run P ro (.label l) σ .normal σ := fun _ ι _ _ _ _ h => wpIn_label ⟨ι, trivial, h, Ev.refl _, Non.refl _⟩
omit [Outer] in
theorem Run.seq {x y : Code} (h1 : Run P ro x σ .normal σ1) (h2 : Run P ro y σ1 e σ') : Run P ro (.seq x y) σ e σ' := by
 intro O ι a w cro hro h
 refine wpIn_seq (wpIn_mono (h1 _ ι a w cro hro h) ?_)
 rintro e1 a1 w1 ⟨ι1, hx, hs, hev, hnon⟩
 cases e1 <;> first
  | exact wpIn_mono (h2 _ ι1 a1 w1 cro (hro.ev hev) hs) (Post.trans hev hnon)
  | exact hx.elim
def AExit.isNormal : AExit → Bool
 | .normal => true
 | _ => false
omit [Outer] in
theorem Run.seq_out {x y : Code} (h1 : Run P ro x σ e σ') (he : e.isNormal = false) : Run P ro (.seq x y) σ e σ' := by
 intro O ι a w cro hro h
 refine wpIn_seq (wpIn_mono (h1 _ ι a w cro hro h) ?_)
 rintro e1 a1 w1 hp
 cases e1 with
 | normal =>
  obtain ⟨ι1, hx, _⟩ := hp
  cases e <;> first | (cases he; done) | exact hx.elim
 | _ => exact hp
omit [Outer] in
theorem Run.cond {c : Operand} {x y : Code} {t : Bool} (hc : σ.eval c = some (.lit (.bool t))) (h : Run P ro (if t then x else y) σ e σ') : Run P ro (.cond c x y) σ e σ' := by
 intro O ι a w cro hro hs
 refine wpIn_cond (t := t) ?_ (h _ ι a w cro hro hs)
 cases c with
 | tmp k =>
  obtain ⟨d, hd, hr⟩ := hs.vars k _ hc
  simp only [VRel] at hr
  simp [Act.eval, hd, hr]
 | const v => simp only [St.eval, Option.some.injEq, AV.lit.injEq] at hc; subst hc; rfl
 | func f => simp [St.eval] at hc
 | global g => simp [St.eval] at hc
omit [Outer] in
theorem Run.block {i : Nat} {c : Code} (h : Run P ro c σ e σ') (he : e = .normal ∨ e = .exit i) : Run P ro (.block i c) σ .normal σ' := by
 intro O ι a w cro hro hs
 refine wpIn_block (wpIn_mono (h _ ι a w cro hro hs) ?_)
 rintro e1 a1 w1 ⟨ι1, hx, hr⟩
 rcases he with rfl | rfl
 ·cases e1 <;> first | exact ⟨ι1, trivial, hr⟩ | exact hx.elim
 ·cases e1 with
  | exit j =>
   have : i = j := hx
   subst this
   simp only [Exit.inBlock, if_true]
   exact ⟨ι1, trivial, hr⟩
  | _ => exact hx.elim
def AExit.passes (i : Nat) : AExit → Bool
 | .normal => false
 | .exit j => j != i
 | _ => true
omit [Outer] in
theorem Run.block_out {i : Nat} {c : Code} (h : Run P ro c σ e σ') (he : e.passes i = true) : Run P ro (.block i c) σ e σ' := by
 intro O ι a w cro hro hs
 refine wpIn_block (wpIn_mono (h _ ι a w cro hro hs) ?_)
 rintro e1 a1 w1 hp
 obtain ⟨ι1, hx, hr⟩ := hp
 cases e with
 | normal => cases he
 | exit j =>
  cases e1 with
  | exit k =>
   have hjk : j = k := hx
   subst hjk
   simp only [AExit.passes, bne_iff_ne, ne_eq] at he
   simp only [Exit.inBlock, if_neg he]
   exact ⟨ι1, rfl, hr⟩
  | _ => exact hx.elim
 | ret => cases e1 <;> first | exact ⟨ι1, trivial, hr⟩ | exact hx.elim
 | pan v => cases e1 <;> first | exact ⟨ι1, hx, hr⟩ | exact hx.elim
def InL (P : Program) (ro : Option Nat) (c : Code) (σ : St) (e : AExit) (σ' : St) : Prop :=
 ∀ (_ : Outer) ι a w cro, RoRel ⟨σ.H, ι, w⟩ ro cro → SRel σ ι a w → ∀ (b : Frame) (k : List Item) (cs : List Frame), b.roundOf = (Fr cro).round → (Fr cro).fn b.fn → (Fr cro).room (cs.length + 1 + 0) →
  ∃ e' a' w', Post ⟨σ.H, ι, w⟩ e σ' e' a' w' ∧ ArrivesIn (Machine.fenced P (Fr cro)) P (lone (b.atR a (.code c :: .inLoop c :: k)) cs w) b k cs e' a' w'
omit [Outer] in
theorem Run.loop {c : Code} (h : InL P ro c σ e σ') : Run P ro (.loop c) σ e σ' := by
 intro O ι a w cro hro hs b k cs hbro hb hr
 obtain ⟨e1, a1, w1, hp, harr⟩ := h _ ι a w cro hro hs b k cs hbro hb hr
 exact ⟨e1, a1, w1, hp, .of_steps (.one (fenced_calm hb hr rfl) stepR_loop) harr⟩
omit [Outer] in
theorem InL.go {c : Code} (h1 : Run P ro c σ .normal σ1) (h2 : InL P ro c σ1 e σ') : InL P ro c σ e σ' := by
 intro O ι a w cro hro hs b k cs hbro hb hr
 obtain ⟨e1, a1, w1, ⟨ι1, hx, hs1, hev, hnon⟩, harr⟩ := h1 _ ι a w cro hro hs b (.inLoop c :: k) cs hbro hb hr
 cases e1 with
 | normal =>
  obtain ⟨e2, a2, w2, hp2, harr2⟩ := h2 _ ι1 a1 w1 cro (hro.ev hev) hs1 b k cs hbro hb hr
  exact ⟨e2, a2, w2, Post.trans hev hnon _ _ _ hp2, .of_steps (StepsIn.trans harr (.one (fenced_calm hb hr rfl) stepR_inLoop)) harr2⟩
 | _ => exact hx.elim
omit [Outer] in
theorem InL.out {c : Code} (h1 : Run P ro c σ e σ') (he : e.isNormal = false) : InL P ro c σ e σ' := by
 intro O ι a w cro hro hs b k cs hbro hb hr
 obtain ⟨e1, a1, w1, hp, harr⟩ := h1 _ ι a w cro hro hs b (.inLoop c :: k) cs hbro hb hr
 refine ⟨e1, a1, w1, hp, ?_⟩
 cases e1 with
 | normal =>
  obtain ⟨ι1, hx, _⟩ := hp
  cases e <;> first | (cases he; done) | exact hx.elim
 | _ => exact .pass (x := .inLoop c) rfl (fun _ _ => .inl (by simp)) harr
end
noncomputable def putA (σ : St) (dst : Option Tmp) (v : AV) (H : List Blk) : Option St :=
 match dst with
 | none => some { σ with H := H }
 | some d => if d < σ.n then some { σ with vars := set σ.vars d v, H := H } else none
def keepsD (H H' : List Blk) : Prop := ∀ id : Nat, H[id]? = some Blk.defd → H'[id]? = some Blk.defd
theorem SRel.put {σ σ1 : St} {ι ι' : Nat → Option (Nat × Nat)} {a : Act} {w w' : World} {dst : Option Tmp} {v : AV} {c : Value} {H' : List Blk} (hs : SRel σ ι a w)
  (hR : Rel ⟨H', ι', w'⟩) (hev : Ev ⟨σ.H, ι, w⟩ ⟨H', ι', w'⟩) (hd : keepsD σ.H H') (hv : VRel ⟨H', ι', w'⟩ v c) (h : putA σ dst v H' = some σ1) : SRel σ1 ι' (a.put dst c) w' := by
 unfold putA at h
 cases dst with
 | none =>
  simp only [Option.some.injEq] at h; subst h
  exact ⟨hR, hs.size, hs.vars.ev hev, hs.defs.ev hev hd⟩
 | some d =>
  simp only at h
  split at h
  ·rename_i hlt
   simp only [Option.some.injEq] at h; subst h
   refine ⟨hR, by simp [Act.put, hs.size], ?_, hs.defs.ev hev hd⟩
   exact (hs.vars.ev hev).set (by rw [hs.size]; exact hlt) hv
  ·cases h
noncomputable def wantedA (ops : Array Oper) (vars : Trie AV) (o : Oper) : Option Bool :=
 match o.guard with
 | none => some true
 | some (j, want) =>
  match (ops[j]?).bind (·.dst) with
  | none => none
  | some t => match get vars t with
   | some (.lit (.bool b)) => some (b == want)
   | some (.lit (.tuple _)) => some false
   | _ => none
theorem wantedA_sound {S : Sit} {ops : Array Oper} {vars : Trie AV} {tmps : Array Value} (hv : VarsRel S vars tmps) {o : Oper} {b : Bool} (h : wantedA ops vars o = some b) :
  Region.wanted o (yielded ops tmps) = b := by
 unfold wantedA at h
 unfold Region.wanted
 cases hg : o.guard with
 | none => rw [hg] at h; simpa using h
 | some p =>
  obtain ⟨j, want⟩ := p
  rw [hg] at h
  simp only at h ⊢
  cases hd : (ops[j]?).bind (·.dst) with
  | none => simp [hd] at h
  | some t =>
   simp only [hd] at h
   split at h
   ·rename_i b' hb
    obtain ⟨c, hc, hr⟩ := hv t _ hb
    simp only [VRel] at hr; subst hr
    cases h
    unfold yielded
    simp only [hd, Option.bind_some, hc]
    cases b' <;> cases want <;> rfl
   ·rename_i vs hb
    obtain ⟨c, hc, hr⟩ := hv t _ hb
    simp only [VRel] at hr; subst hr
    cases h
    unfold yielded
    simp only [hd, Option.bind_some, hc]
    rfl
   ·cases h
theorem St.eval_sound {σ : St} {ι : Nat → Option (Nat × Nat)} {a : Act} {w : World} (hs : SRel σ ι a w) : ∀ x v, σ.eval x = some v → VRel ⟨σ.H, ι, w⟩ v (a.eval x) := by
 intro x v h
 cases x with
 | tmp k =>
  obtain ⟨c, hc, hr⟩ := hs.vars k v h
  simpa [Act.eval, hc] using hr
 | const u => simp only [St.eval, Option.some.injEq] at h; subst h; simp [VRel, Act.eval]
 | func f => simp only [St.eval, Option.some.injEq] at h; subst h; simp [VRel, Act.eval]
 | global g => simp [St.eval] at h
inductive AStep (P : Program) (ops : Array Oper) (i : Nat) (σ : St) : St → Prop where
  | val {m : Bool} {o : Oper} {v : AV} {H' : List Blk} {σ1 : St} (ho : ops[i]? = some o) (hw : wantedA ops σ.vars o = some true) (ha : aop P m σ.H σ.eval o = some (.val v H')) (hd : keepsD σ.H H')
      (hp : putA σ o.dst v H' = some σ1) : AStep P ops i σ σ1
  | skip {o : Oper} {σ1 : St} (ho : ops[i]? = some o) (hw : wantedA ops σ.vars o = some false) (hp : putA σ o.dst (.lit undef) σ.H = some σ1) : AStep P ops i σ σ1
  | call {m : Bool} {o : Oper} {f : FuncId} {args : List AV} {v : AV} {H' : List Blk} {σ1 : St} (ho : ops[i]? = some o) (hw : wantedA ops σ.vars o = some true) (ha : aop P m σ.H σ.eval o = some (.call f args))
      (hcal : callable P f = true) (hc : ACall P f args σ.H (.ret v) H') (hd : keepsD σ.H H') (hp : putA σ o.dst v H' = some σ1) : AStep P ops i σ σ1
  | round {m : Bool} {o : Oper} {id : Nat} {args : List AV} {v : AV} {H' : List Blk} {σ1 : St} (ho : ops[i]? = some o) (hw : wantedA ops σ.vars o = some true) (ha : aop P m σ.H σ.eval o = some (.round id args))
      (hc : ARound P id args σ.H (.ret v) H') (hd : keepsD σ.H H') (hp : putA σ o.dst v H' = some σ1) : AStep P ops i σ σ1
omit [Outer] in
theorem aop_noDefer {m : Bool} {H : List Blk} {ρ : Operand → Option AV} {o : Oper} {r : AR} (h : aop P m H ρ o = some r) : ∀ c, o.op ≠ .defer c := by
 intro c hc
 obtain ⟨dst, op, type, pos, after, guard⟩ := o
 subst hc
 simp [aop] at h
omit [Outer] in
theorem Fr_fn (ro : Option Nat) (f : FuncId) : (Fr ro).fn f := trivial
omit [Outer] in
theorem Fr_depth (ro : Option Nat) : (Fr ro).depth = none := rfl
theorem AStep.sound {ops : Array Oper} {i : Nat} {σ σ1 : St} (h : AStep P ops i σ σ1) {ι : Nat → Option (Nat × Nat)} {a : Act} {w : World} {cro : Option Nat} (hs : SRel σ ι a w)
  {Q : Exit → Act → World → Prop} {K : Act → World → Prop}
  (hK : ∀ ι' a' w', SRel σ1 ι' a' w' → Ev ⟨σ.H, ι, w⟩ ⟨σ1.H, ι', w'⟩ → Non ⟨σ.H, ι, w⟩ ⟨σ1.H, ι', w'⟩ → K a' w') : wpOpIn (Fr cro) 0 P ops Q i K a w := by
 unfold wpOpIn
 have hput : ∀ {dst : Option Tmp} {v : AV} {H' : List Blk}, putA σ dst v H' = some σ1 → σ1.H = H' := by
  intro dst v H' hp
  unfold putA at hp
  cases dst with
  | none => simp only [Option.some.injEq] at hp; subst hp; rfl
  | some d => simp only at hp; split at hp <;> first | (simp only [Option.some.injEq] at hp; subst hp; rfl) | cases hp
 cases h with
 | skip ho hw hp =>
  simp only [ho]
  rw [wantedA_sound hs.vars hw]
  simp only [Bool.false_eq_true, if_false]
  refine ⟨fun _ _ => Fr_fn _ _, ?_⟩
  have hH := hput hp
  refine hK ι _ w (hs.put hs.rel (Ev.refl _) (fun _ h => h) (by simp [VRel]) hp) ?_ ?_
  ·rw [hH]; exact Ev.refl _
  ·rw [hH]; exact Non.refl _
 | val ho hw ha hd hp =>
  rename_i o v H'
  simp only [ho]
  rw [wantedA_sound hs.vars hw]
  simp only [if_true]
  refine ⟨fun _ _ => Fr_fn _ _, ?_⟩
  have hH := hput hp
  have hok := aop_sound hs.rel (St.eval_sound hs) ha
  rw [Oper.semAt_eq _ _ _ (aop_noDefer ha)]
  obtain ⟨c, ι', w', hx, hR, hev, hnon, hv⟩ := hok
  rcases hx with hx | ⟨hx, rfl⟩
  ·rw [hx]
   exact hK ι' _ w' (hs.put hR hev hd hv hp) (by rw [hH]; exact hev) (by rw [hH]; exact hnon)
  ·rw [hx]
   exact hK ι' _ w' (hs.put hR hev hd hv hp) (by rw [hH]; exact hev) (by rw [hH]; exact hnon)
 | call ho hw ha hcal hc hd hp =>
  rename_i o f args v H'
  simp only [ho]
  rw [wantedA_sound hs.vars hw]
  simp only [if_true]
  refine ⟨fun _ _ => Fr_fn _ _, ?_⟩
  have hH := hput hp
  obtain ⟨cs, hx, hargs⟩ := aop_sound hs.rel (St.eval_sound hs) ha hcal
  rw [Oper.semAt_eq _ _ _ (aop_noDefer ha), hx]
  refine ⟨fun h => (by simp [Fr_depth] at h), ?_⟩
  have hcall : CallsIn (Fr cro) 0 P f cs w (EPost ⟨σ.H, ι, w⟩ (.ret v) H') := hc _ ι w cs hs.rel hargs
  refine hcall.mono ?_
  rintro e w' ⟨ι', hend, hR, hev, hnon⟩
  cases e with
  | returned c => exact hK ι' _ w' (hs.put hR hev hd hend hp) (by rw [hH]; exact hev) (by rw [hH]; exact hnon)
  | panicked chain => exact hend.elim
  | outgrown => exact hend.elim
 | round ho hw ha hc hd hp =>
  rename_i o id args v H'
  simp only [ho]
  rw [wantedA_sound hs.vars hw]
  simp only [if_true]
  refine ⟨fun _ _ => Fr_fn _ _, ?_⟩
  have hH := hput hp
  obtain ⟨b, wm, L, cs, hi, hn, hL, hsz, hx, hargs⟩ := aop_sound hs.rel (St.eval_sound hs) ha
  rw [Oper.semAt_eq _ _ _ (aop_noDefer ha), hx]
  refine ⟨fun h => (by simp [Fr_depth] at h), ?_⟩
  have hround := hc _ ι w b wm L cs hs.rel hi hn hL hsz hargs
  refine RoundIn.mono (F := Fr cro) hround ?_
  rintro e w' ⟨ι', hend, hR, hev, hnon⟩
  cases e with
  | returned c => exact hK ι' _ w' (hs.put hR hev hd hend hp) (by rw [hH]; exact hev) (by rw [hH]; exact hnon)
  | panicked chain => exact hend.elim
  | outgrown => exact hend.elim
inductive APath (P : Program) (ops : Array Oper) : List Nat → St → St → Prop where
 | nil {σ : St} : APath P ops [] σ σ
 | cons {i : Nat} {l : List Nat} {σ σ1 σ2 : St} (h : AStep P ops i σ σ1) (t : APath P ops l σ1 σ2) : APath P ops (i :: l) σ σ2
theorem APath.sound {ops : Array Oper} {cro : Option Nat} {S0 : Sit} : ∀ {l : List Nat} {σ σ' : St}, APath P ops l σ σ' → ∀ {ι : Nat → Option (Nat × Nat)} {a : Act} {w : World}, SRel σ ι a w →
  Ev S0 ⟨σ.H, ι, w⟩ → Non S0 ⟨σ.H, ι, w⟩ → wpOpsIn (Fr cro) 0 P ops (Post S0 .normal σ') l a w
 | _, _, _, .nil, ι, _, _, hs, hev, hnon => by
  simp only [wpOpsIn]
  exact ⟨ι, trivial, hs, hev, hnon⟩
 | _, _, _, .cons h t, ι, a, w, hs, hev, hnon => by
  rw [wpOpsIn_cons]
  exact h.sound hs fun ι1 a1 w1 hs1 hev1 hnon1 => APath.sound t hs1 (hev.trans hev1) (hnon.trans hev hnon1)
omit [Outer] in
theorem Run.region {ro : Option Nat} {id : Nat} {ops : Array Oper} {σ σ' : St} (h : APath P ops (List.range ops.size) σ σ') : Run P ro (.region id ops false) σ .normal σ' :=
 fun _ _ _ _ _ _ hs => wpIn_region (h.sound hs (Ev.refl _) (Non.refl _))
inductive APanics (P : Program) (ops : Array Oper) : List Nat → St → AV → St → Prop where
  | op {m : Bool} {i : Nat} {l : List Nat} {σ : St} {o : Oper} {v : AV} (ho : ops[i]? = some o) (hw : wantedA ops σ.vars o = some true) (ha : aop P m σ.H σ.eval o = some (.pan v)) : APanics P ops (i :: l) σ v σ
  | call {m : Bool} {i : Nat} {l : List Nat} {σ : St} {o : Oper} {f : FuncId} {args : List AV} {v : AV} {H' : List Blk} (ho : ops[i]? = some o) (hw : wantedA ops σ.vars o = some true)
      (ha : aop P m σ.H σ.eval o = some (.call f args)) (hcal : callable P f = true) (hc : ACall P f args σ.H (.pan v) H') (hd : keepsD σ.H H') : APanics P ops (i :: l) σ v { σ with H := H' }
  | cons {i : Nat} {l : List Nat} {σ σ1 σ2 : St} {v : AV} (h : AStep P ops i σ σ1) (t : APanics P ops l σ1 v σ2) : APanics P ops (i :: l) σ v σ2
theorem APanics.sound {ops : Array Oper} {cro : Option Nat} {S0 : Sit} {v : AV} : ∀ {l : List Nat} {σ σ' : St}, APanics P ops l σ v σ' → ∀ {ι : Nat → Option (Nat × Nat)} {a : Act} {w : World}, SRel σ ι a w →
  Ev S0 ⟨σ.H, ι, w⟩ → Non S0 ⟨σ.H, ι, w⟩ → wpOpsIn (Fr cro) 0 P ops (Post S0 (.pan v) σ') l a w
 | _, σ, _, .op ho hw ha, ι, a, w, hs, hev, hnon => by
  rw [wpOpsIn_cons]
  unfold wpOpIn
  simp only [ho]
  rw [wantedA_sound hs.vars hw]
  simp only [if_true]
  refine ⟨fun _ _ => Fr_fn _ _, ?_⟩
  obtain ⟨c, hx, hv⟩ := aop_sound hs.rel (St.eval_sound hs) ha
  rw [Oper.semAt_eq _ _ _ (aop_noDefer ha), hx]
  exact ⟨ι, ⟨c, rfl, hv⟩, hs, hev, hnon⟩
 | _, σ, _, .call (H' := H') ho hw ha hcal hc hd, ι, a, w, hs, hev, hnon => by
  rw [wpOpsIn_cons]
  unfold wpOpIn
  simp only [ho]
  rw [wantedA_sound hs.vars hw]
  simp only [if_true]
  refine ⟨fun _ _ => Fr_fn _ _, ?_⟩
  obtain ⟨cs, hx, hargs⟩ := aop_sound hs.rel (St.eval_sound hs) ha hcal
  rw [Oper.semAt_eq _ _ _ (aop_noDefer ha), hx]
  refine ⟨fun h => (by simp [Fr_depth] at h), ?_⟩
  have hcall : CallsIn (Fr cro) 0 P _ cs w (EPost ⟨σ.H, ι, w⟩ (.pan v) H') := hc _ ι w cs hs.rel hargs
  refine hcall.mono ?_
  rintro e w' ⟨ι', hend, hR, hev', hnon'⟩
  cases e with
  | returned c => exact hend.elim
  | panicked chain => exact ⟨ι', hend, ⟨hR, hs.size, hs.vars.ev hev', hs.defs.ev hev' hd⟩, hev.trans hev', hnon.trans hev hnon'⟩
  | outgrown => exact hend.elim
 | _, _, _, .cons h t, ι, a, w, hs, hev, hnon => by
  rw [wpOpsIn_cons]
  exact h.sound hs fun ι1 a1 w1 hs1 hev1 hnon1 => APanics.sound t hs1 (hev.trans hev1) (hnon.trans hev hnon1)
omit [Outer] in
theorem Run.region_pan {ro : Option Nat} {id : Nat} {ops : Array Oper} {σ σ' : St} {v : AV} (h : APanics P ops (List.range ops.size) σ v σ') : Run P ro (.region id ops false) σ (.pan v) σ' :=
 fun _ _ _ _ _ _ hs => wpIn_region (h.sound hs (Ev.refl _) (Non.refl _))
noncomputable def initVars : Nat → List AV → Trie AV
 | _, [] => .nil
 | i, a :: as => set (initVars (i + 1) as) i a
omit [Outer] in
theorem get_initVars : ∀ (as : List AV) (i k : Nat), get (initVars i as) k = if k < i then none else as[k - i]?
 | [], i, k => by simp [initVars, get_nil]
 | a :: as, i, k => by
  unfold initVars
  by_cases h : i = k
  ·subst h; rw [get_set_same]; simp
  ·rw [get_set_other _ _ _ _ h, get_initVars as (i + 1) k]
   by_cases h2 : k < i
   ·simp [h2, Nat.lt_succ_of_lt h2]
   ·have e : k - i = (k - (i + 1)) + 1 := by omega
    have h3 : ¬ k < i + 1 := by omega
    simp [h2, h3, e]
noncomputable def resA (P : Program) (σ : St) : List ResultVar → Option (List AV)
 | [] => some []
 | .tmp t :: rs => match get σ.vars t, resA P σ rs with
  | some v, some vs => some (v :: vs)
  | _, _ => none
 | .cell t ty :: rs => match (get σ.vars t).bind (loadOp P σ.H ty), resA P σ rs with
  | some v, some vs => some (v :: vs)
  | _, _ => none
def resV : List AV → AV
 | [v] => v
 | vs => .tup vs
def resOne (tmps : Array Value) : ResultVar → Sem Value
 | .tmp t => pure (tmps.getD t undef)
 | .cell x t => do loadVar t (← asAddr (tmps.getD x undef))
theorem resA_sound {σ : St} {ι : Nat → Option (Nat × Nat)} {a : Act} {w : World} (hs : SRel σ ι a w) : ∀ {rs : List ResultVar} {vs : List AV}, resA P σ rs = some vs →
  ∃ cs : List Value, (rs.mapM (resOne a.tmps)).run P w = .ok cs w ∧ VRels ⟨σ.H, ι, w⟩ vs cs
 | [], vs, h => by simp only [resA, Option.some.injEq] at h; subst h; exact ⟨[], rfl, by simp [VRels]⟩
 | .tmp t :: rs, vs, h => by
  simp only [resA] at h
  split at h
  ·rename_i v vs' h1 h2
   cases h
   obtain ⟨cs, hc, hr⟩ := resA_sound hs h2
   obtain ⟨c, hc1, hr1⟩ := hs.vars t v h1
   refine ⟨c :: cs, ?_, ⟨hr1, hr⟩⟩
   rw [List.mapM_cons, Sem.run_bind]
   have : (resOne a.tmps (.tmp t)).run P w = .ok c w := by simp [resOne, hc1]
   rw [this]
   simp only [Result.andThen_ok]
   rw [Sem.run_bind, hc]
   rfl
  ·cases h
 | .cell t ty :: rs, vs, h => by
  simp only [resA] at h
  split at h
  ·rename_i v vs' h1 h2
   cases h
   obtain ⟨cs, hc, hr⟩ := resA_sound hs h2
   obtain ⟨x, hx, hl⟩ := bind_some h1
   obtain ⟨c, hc1, hr1⟩ := hs.vars t x hx
   obtain ⟨d, hd, hrd⟩ := loadOp_sound hs.rel hl hr1
   refine ⟨d :: cs, ?_, ⟨hrd, hr⟩⟩
   rw [List.mapM_cons, Sem.run_bind]
   have hptr : ∃ ad, c = .pointer (some ad) := by
    unfold loadOp at hl
    obtain ⟨cells, hcells, _⟩ := bind_some hl
    obtain ⟨b, o, rfl, _⟩ := cellsAt_sound hs.rel hcells hr1
    exact ⟨_, rfl⟩
   obtain ⟨ad, rfl⟩ := hptr
   have : (resOne a.tmps (.cell t ty)).run P w = .ok d w := by
    unfold resOne
    rw [Sem.run_bind]
    simp only [Array.getD_eq_getD_getElem?, hc1, Option.getD_some, asAddr, Sem.run_pure, Result.andThen_ok]
    unfold Instr.loadAt at hd
    rw [Sem.run_bind] at hd
    exact hd
   rw [this]
   simp only [Result.andThen_ok]
   rw [Sem.run_bind, hc]
   rfl
  ·cases h
theorem results_run {σ : St} {ι : Nat → Option (Nat × Nat)} {a : Act} {w : World} (hs : SRel σ ι a w) {fn : Func} {vs : List AV} (h : resA P σ fn.results.toList = some vs) :
  ∃ c, (results fn a.tmps).run P w = .ok c w ∧ VRel ⟨σ.H, ι, w⟩ (resV vs) c := by
 obtain ⟨cs, hc, hr⟩ := resA_sound hs h
 have hl := hr.length
 have hm : (results fn a.tmps).run P w = .ok (if h : cs.toArray.size = 1 then cs.toArray[0] else .tuple cs.toArray) w := by
  have e0 : results fn a.tmps = (fn.results.mapM (resOne a.tmps)) >>= fun vs => pure (if h : vs.size = 1 then vs[0] else .tuple vs) := by
   unfold results
   congr 2
  rw [e0, Sem.run_bind]
  have e : (fn.results.mapM (resOne a.tmps)).run P w = .ok cs.toArray w := by
   rw [← Array.toArray_toList (xs := fn.results), List.mapM_toArray, Sem.run_map, hc]
   rfl
  rw [e]
  rfl
 refine ⟨_, hm, ?_⟩
 match vs, cs, hr, hl with
 | [], [], _, _ => simp [resV, VRel, VRels]
 | [v], [c], hr, _ => simp only [VRels] at hr; simpa [resV] using hr.1
 | v :: v' :: vs, c :: c' :: cs, hr, _ =>
  have : ¬ ((c :: c' :: cs).toArray.size = 1) := by simp
  rw [dif_neg this]
  simp only [resV, VRel]
  exact ⟨_, rfl, hr⟩
omit [Outer] in
theorem ACall.intro {f : FuncId} {fn : Func} {c : Code} {args : List AV} {H : List Blk} {e : AExit} {σ' : St} {vs : List AV} (hf : P.funcs[f]? = some fn) (hb : fn.body = some c) (hn : args.length ≤ fn.ntmps)
  (hrun : Run P none c ⟨fn.ntmps, initVars 0 args, H, []⟩ e σ') (he : e = .ret ∨ e = .normal) (hres : resA P σ' fn.results.toList = some vs) (hd : σ'.defs = []) : ACall P f args H (.ret (resV vs)) σ'.H := by
 intro O ι w cs hR hargs
 have hlen := hargs.length
 simp only [Array.length_toList] at hlen
 refine callsIn_of_wp hf hb trivial (wpIn_mono (hrun _ ι { tmps := cs ++ Array.replicate (fn.ntmps - cs.size) undef, defers := [] } w none rfl ⟨hR, ?_, ?_, trivial⟩) ?_)
 ·simp; omega
 ·intro t v hg
  rw [get_initVars] at hg
  simp only [Nat.not_lt_zero, if_false, Nat.sub_zero] at hg
  obtain ⟨d, hd1, hr⟩ := hargs.get hg
  refine ⟨d, ?_, hr⟩
  have ht : t < cs.size := by
   have := (List.getElem?_eq_some_iff.1 hd1).1
   simpa using this
  rw [Array.getElem?_append_left ht]
  simpa using hd1
 ·rintro e' a' w' ⟨ι', hx, hs, hev, hnon⟩
  obtain ⟨v, hv, hrel⟩ := results_run hs hres
  have hdef : a'.defers = [] := by
   have := hs.defs
   rw [hd] at this
   cases hda : a'.defers with
   | nil => rfl
   | cons d ds => rw [hda] at this; exact this.elim
  rcases he with rfl | rfl
  ·cases e' <;> first
    | exact ⟨hdef, v, hv, ι', hrel, hs.rel, hev, hnon⟩
    | exact hx.elim
  ·cases e' <;> first
    | exact ⟨hdef, v, hv, ι', hrel, hs.rel, hev, hnon⟩
    | exact hx.elim
omit [Outer] in
theorem ACall.intro_pan {f : FuncId} {fn : Func} {c : Code} {args : List AV} {H : List Blk} {v : AV} {σ' : St} (hf : P.funcs[f]? = some fn) (hb : fn.body = some c) (hn : args.length ≤ fn.ntmps)
  (hrun : Run P none c ⟨fn.ntmps, initVars 0 args, H, []⟩ (.pan v) σ') (hd : σ'.defs = []) : ACall P f args H (.pan v) σ'.H := by
 intro O ι w cs hR hargs
 have hlen := hargs.length
 simp only [Array.length_toList] at hlen
 refine callsIn_of_wp hf hb trivial (wpIn_mono (hrun _ ι { tmps := cs ++ Array.replicate (fn.ntmps - cs.size) undef, defers := [] } w none rfl ⟨hR, ?_, ?_, trivial⟩) ?_)
 ·simp; omega
 ·intro t v hg
  rw [get_initVars] at hg
  simp only [Nat.not_lt_zero, if_false, Nat.sub_zero] at hg
  obtain ⟨d, hd1, hr⟩ := hargs.get hg
  refine ⟨d, ?_, hr⟩
  have ht : t < cs.size := by
   have := (List.getElem?_eq_some_iff.1 hd1).1
   simpa using this
  rw [Array.getElem?_append_left ht]
  simpa using hd1
 ·rintro e' a' w' ⟨ι', hx, hs, hev, hnon⟩
  have hdef : a'.defers = [] := by
   have := hs.defs
   rw [hd] at this
   cases hda : a'.defers with
   | nil => rfl
   | cons d ds => rw [hda] at this; exact this.elim
  cases e' <;> first
   | exact ⟨hdef, ι', hx, hs.rel, hev, hnon⟩
   | exact hx.elim
end Go.Vm

namespace Go.Vm
variable {P : Program}
inductive OKind where
 | plain | lay | eff | store
 deriving DecidableEq
def okind (o : Oper) : OKind :=
 match o.op with
 | .store .. | .mapUpdate .. | .insert .. | .next .. => .store
 | .range .. => .eff
 | .alloc _ | .makeMap _ none => .lay
 | .box .. | .makeMap .. | .makeSlice .. => .eff
 | .call { callee := .builtin .len, .. } | .call { callee := .builtin .max, .. } | .call { callee := .builtin .min, .. } => .plain
 | .call _ => .eff
 | _ => .plain
def Blk.loose : Blk → Bool
 | .row _ => true
 | _ => false
theorem Blk.loose_of {B : Blk} (h : B.isRow = false) : B.loose = false := by cases B <;> first | rfl | cases h
def HLe (H H' : List Blk) : Prop := ∀ (id : Nat) (B : Blk), H[id]? = some B → B.loose = false → H'[id]? = some B
theorem HLe.refl (H : List Blk) : HLe H H := fun _ _ h _ => h
theorem HLe.trans {H H' H'' : List Blk} (h : HLe H H') (h' : HLe H' H'') : HLe H H'' := fun id B hb hr => h' id B (h id B hb hr) hr
theorem HLe.keepsD {H H' : List Blk} (h : HLe H H') : keepsD H H' := fun id hb => h id _ hb rfl
theorem HLe.append (H H2 : List Blk) : HLe H (H ++ H2) := fun id B h _ => by
 rw [List.getElem?_append_left (List.getElem?_eq_some_iff.1 h).1]; exact h
theorem cellsAt_le {H H' : List Blk} (hle : HLe H H') {x : AV} {cells : List AV} (h : cellsAt H x = some cells) : cellsAt H' x = some cells := by
 unfold cellsAt at h ⊢
 cases x with
 | ptr id off =>
  simp only at h ⊢
  cases hB : H[id]? with
  | none => simp [hB] at h
  | some B =>
   cases B with
   | box c t => rw [hle id _ hB rfl]; rw [hB] at h; exact h
   | _ => simp [hB] at h
 | eptr c => exact h
 | mptr id gen off =>
  simp only at h ⊢
  cases hB : H[id]? with
  | none => simp [hB] at h
  | some B =>
   cases B with
   | mrow g c => rw [hle id _ hB rfl]; rw [hB] at h; exact h
   | _ => simp [hB] at h
 | _ => cases h
theorem loadOp_le {H H' : List Blk} (hle : HLe H H') {t : TypeId} {x v : AV} (h : loadOp P H t x = some v) : loadOp P H' t x = some v := by
 unfold loadOp at h ⊢
 obtain ⟨c, hc, hl⟩ := bind_some h
 rw [cellsAt_le hle hc]
 exact hl
theorem lenA_le {H H' : List Blk} (hle : HLe H H') {t : TypeId} {x : AV} {n : Nat} (h : lenA P H t x = some n) : lenA P H' t x = some n := by
 have same : (∀ id, x ≠ .mp id) → lenA P H' t x = lenA P H t x := by
  intro hx
  unfold lenA
  cases hu : P.underlying t with
  | none => rfl
  | some d => cases d <;> first | rfl | (cases x <;> first | rfl | (rename_i u; cases u <;> rfl) | exact absurd rfl (hx _))
 cases x with
 | mp id =>
  unfold lenA at h ⊢
  cases hu : P.underlying t with
  | none => rw [hu] at h; cases h
  | some d =>
   rw [hu] at h
   cases d with
   | map k e =>
    simp only at h ⊢
    cases hB : H[id]? with
    | none => simp [hB] at h
    | some B =>
     cases B with
     | map sh es => rw [hle id _ hB rfl]; rw [hB] at h; exact h
     | _ => simp [hB] at h
   | array k e => exact h
   | _ => cases h
 | _ => rw [same fun id => by simp]; exact h
theorem lookupOp_le {H H' : List Blk} (hle : HLe H H') {t : TypeId} {x k v : AV} {ok : Bool} (h : lookupOp P H t x k ok = some v) : lookupOp P H' t x k ok = some v := by
 unfold lookupOp at h ⊢
 cases h1 : tmap P t with
 | none => rw [h1] at h; cases h
 | some p =>
 obtain ⟨sh, kt, e⟩ := p
 rw [h1] at h
 cases x <;> try (cases h; done)
 rename_i id
 cases h2 : conc k with
 | none => rw [h2] at h; cases h
 | some u =>
 rw [h2] at h
 simp only at h ⊢
 cases hB : H[id]? with
 | none => rw [hB] at h; cases h
 | some B =>
 cases B with
 | map sh' es => rw [hle id _ hB rfl]; rw [hB] at h; exact h
 | _ => rw [hB] at h; cases h
theorem srcCells_le {H H' : List Blk} (hle : HLe H H') {size : Nat} {x : AV} {p : Nat × List AV} (h : srcCells H size x = some p) : srcCells H' size x = some p := by
 unfold srcCells at h ⊢
 cases x with
 | hsl id off len cap =>
  simp only at h ⊢
  cases hB : H[id]? with
  | none => simp [hB] at h
  | some B =>
   cases B with
   | box c t => rw [hle id _ hB rfl]; rw [hB] at h; exact h
   | _ => simp [hB] at h
 | msl id gen len sz =>
  simp only at h ⊢
  cases hB : H[id]? with
  | none => simp [hB] at h
  | some B =>
   cases B with
   | mrow g c => rw [hle id _ hB rfl]; rw [hB] at h; exact h
   | _ => simp [hB] at h
 | lit v =>
  rw [← h]
  cases v with
  | slice a l c => cases a <;> cases l <;> rfl
  | _ => rfl
 | _ => exact h
theorem convB_le {H H' : List Blk} (hle : HLe H H') {src dst : TypeId} {x v : AV} (h : convB P H src dst x = some v) : convB P H' src dst x = some v := by
 unfold convB at h ⊢
 split at h
 ·rename_i d k hs hd
  have : convA P H' src dst x = convA P H src dst x := by
   unfold convA; rw [hd]; cases x with
   | lit u => cases u <;> rfl
   | _ => rfl
  rw [this]; exact h
 ·rename_i d hs hd
  unfold bytesA at h ⊢
  split at h
  case h_2 => cases h
  rename_i e hs'
  split at h
  case h_2 => cases h
  rename_i he
  split at h
  case isFalse => cases h
  rename_i hla
  split at h
  case h_2 => cases h
  rename_i n cells hc
  rw [srcCells_le hle hc]
  simp [hla, h]
 ·cases h
theorem plain_le {m : Bool} {H H' : List Blk} (hle : HLe H H') {ρ : Operand → Option AV} {o : Oper} (hk : okind o = .plain) {v : AV} {H1 : List Blk}
  (h : aop P m H ρ o = some (.val v H1)) : H1 = H ∧ aop P m H' ρ o = some (.val v H') := by
 obtain ⟨dst, op, type, pos, after, guard⟩ := o
 have tr : ∀ {α : Type} {x : Option α} {f : α → AV}, (x.map fun a => AR.val (f a) H) = some (.val v H1) → H1 = H ∧ (x.map fun a => AR.val (f a) H') = some (.val v H') := by
  intro α x f hx
  obtain ⟨a, ha, hx⟩ := map_some hx
  cases hx
  exact ⟨rfl, by rw [ha]; rfl⟩
 cases op with
 | alloc t => simp [okind] at hk
 | store => simp [okind] at hk
 | mapUpdate => simp [okind] at hk
 | insert => simp [okind] at hk
 | next => simp [okind] at hk
 | range => simp [okind] at hk
 | box => simp [okind] at hk
 | makeSlice => simp [okind] at hk
 | makeMap t r => cases r <;> simp [okind] at hk
 | load t x =>
  simp only [aop] at h ⊢
  obtain ⟨a, ha, h⟩ := bind_some h
  obtain ⟨u, hu, h⟩ := map_some h
  cases h
  rw [ha]
  exact ⟨rfl, by simp [loadOp_le hle hu]⟩
 | lookup t x k ok =>
  simp only [aop] at h ⊢
  split at h
  ·rename_i a b ha hb
   obtain ⟨u, hu, h⟩ := map_some h
   cases h
   exact ⟨rfl, by simp [lookupOp_le hle hu]⟩
  ·cases h
 | convert src dst x =>
  simp only [aop] at h ⊢
  obtain ⟨a, ha, h⟩ := bind_some h
  obtain ⟨u, hu, h⟩ := map_some h
  cases h
  refine ⟨rfl, ?_⟩
  simp [ha, convB_le hle hu]
 | call c =>
  obtain ⟨callee, cargs, argTypes⟩ := c
  cases callee with
  | value f => simp [okind] at hk
  | invoke r m => simp [okind] at hk
  | builtin b =>
   cases b <;> simp only [okind, reduceCtorEq] at hk
   all_goals
    simp only [aop] at h ⊢
    cases hargs : aevs ρ cargs.toList with
    | none => simp [hargs] at h
    | some args =>
     simp only [hargs] at h ⊢
     split at h
     ·first
       | (cases h; exact ⟨rfl, rfl⟩)
       | (obtain ⟨n, hn, h⟩ := map_some h; cases h; exact ⟨rfl, by simp [lenA_le hle hn]⟩)
     ·cases h
 | pick c a b =>
  simp only [aop] at h ⊢
  split at h
  ·rename_i t ht
   first
    | exact tr (f := id) h
    | (rw [ht]; exact tr (f := id) h)
  ·cases h
 | build t parts =>
  simp only [aop] at h ⊢
  obtain ⟨a, ha, h⟩ := bind_some h
  rw [ha]; exact tr (f := id) h
 | buildSlice t n parts =>
  simp only [aop] at h ⊢
  obtain ⟨a, ha, h⟩ := bind_some h
  rw [ha]; exact tr (f := id) h
 | move x => exact tr (f := id) h
 | assign x => exact tr (f := id) h
 | binOp op t x y yt =>
  simp only [aop] at h ⊢
  split at h
  ·rename_i a b ha hb; exact tr (f := id) h
  ·cases h
 | unOp op t x =>
  simp only [aop] at h ⊢
  obtain ⟨a, ha, h⟩ := bind_some h
  rw [ha]; exact tr (f := id) h
 | makeInterface t x =>
  simp only [aop] at h ⊢
  split at h
  ·cases h
  ·cases h
  ·exact tr (f := fun v => .iface t v) h
 | makeFunc f a b =>
  simp only [aop] at h ⊢
  split at h
  ·cases h; exact ⟨rfl, rfl⟩
  ·cases h
 | slice t x lo hi mx =>
  simp only [aop] at h ⊢
  split at h
  ·split at h
   ·rename_i hg; rw [if_pos hg]; exact tr (f := id) h
   ·cases h
  ·cases h
 | nilCheck x =>
  simp only [aop] at h ⊢
  obtain ⟨a, ha, h⟩ := bind_some h
  rw [ha]; exact tr (f := id) h
 | typeAssert x xT a ok =>
  cases ok with
  | false => simp [aop] at h
  | true =>
   simp only [aop] at h ⊢
   obtain ⟨a, ha, h⟩ := bind_some h
   rw [ha]; exact tr (f := id) h
 | fieldAddr t x i =>
  simp only [aop] at h ⊢
  obtain ⟨a, ha, h⟩ := bind_some h
  rw [ha]; exact tr (f := id) h
 | field t x i =>
  simp only [aop] at h ⊢
  obtain ⟨a, ha, h⟩ := bind_some h
  rw [ha]; exact tr (f := id) h
 | indexAddr t x i =>
  simp only [aop] at h ⊢
  split at h
  ·exact tr (f := id) h
  ·cases h
 | index t x i =>
  simp only [aop] at h ⊢
  split at h
  ·exact tr (f := id) h
  ·cases h
 | extract t i =>
  simp only [aop] at h ⊢
  split at h
  ·exact tr (f := id) h
  ·cases h
 | panic x =>
  simp only [aop] at h
  split at h <;> cases h
 | _ => simp [aop] at h
theorem aevs_congr {ρ ρ' : Operand → Option AV} : ∀ {xs : List Operand}, (∀ x ∈ xs, ρ x = ρ' x) → aevs ρ xs = aevs ρ' xs
 | [], _ => rfl
 | x :: xs, h => by simp only [aevs]; rw [h x (by simp), aevs_congr fun y hy => h y (by simp [hy])]
theorem apairs_congr {ρ ρ' : Operand → Option AV} : ∀ {xs : List (Nat × Operand)}, (∀ p ∈ xs, ρ p.2 = ρ' p.2) → apairs ρ xs = apairs ρ' xs
 | [], _ => rfl
 | (i, x) :: xs, h => by simp only [apairs]; rw [h (i, x) (by simp), apairs_congr fun y hy => h y (by simp [hy])]
theorem aop_congr {m : Bool} {H : List Blk} {ρ ρ' : Operand → Option AV} {o : Oper} (h : ∀ x ∈ o.op.operands, ρ x = ρ' x) : aop P m H ρ o = aop P m H ρ' o := by
 obtain ⟨dst, op, type, pos, after, guard⟩ := o
 cases op <;> simp only [Op.operands] at h <;> simp only [aop]
 case move x => rw [h x (by simp)]
 case assign x => rw [h x (by simp)]
 case pick c a b => rw [h c (by simp), h a (by simp), h b (by simp)]
 case box t x => rw [h x (by simp)]
 case build t ps => rw [apairs_congr fun p hp => h p.2 (by simpa using ⟨p.1, by simpa using hp⟩)]
 case buildSlice t n ps => rw [apairs_congr fun p hp => h p.2 (by simpa using ⟨p.1, by simpa using hp⟩)]
 case load t x => rw [h x (by simp)]
 case store t a v => rw [h a (by simp), h v (by simp)]
 case binOp op t x y yt => rw [h x (by simp), h y (by simp)]
 case unOp op t x => rw [h x (by simp)]
 case convert a b x => rw [h x (by simp)]
 case makeInterface t x => rw [h x (by simp)]
 case makeFunc f a b => rw [aevs_congr fun x hx => h x (by simp; exact .inl (by simpa using hx)), aevs_congr fun x hx => h x (by simp; exact .inr (by simpa using hx))]
 case makeMap t r => cases r <;> rfl
 case makeSlice t l c => rw [h l (by simp), h c (by simp)]
 case range t x => rw [h x (by simp)]
 case nilCheck x => rw [h x (by simp)]
 case typeAssert x xT a ok => cases ok <;> simp only [h x (by simp)]
 case next x s => cases s <;> simp only [h x (by simp)]
 case slice t x lo hi mx =>
  rw [h x (by simp)]
  have e : ∀ y : Option Operand, (∀ z, y = some z → ρ z = ρ' z) → y.bind ρ = y.bind ρ' := by
   intro y hy; cases y with
   | none => rfl
   | some z => simpa using hy z rfl
  rw [e lo fun z hz => h z (by simp [hz]), e hi fun z hz => h z (by simp [hz]), e mx fun z hz => h z (by simp [hz])]
 case fieldAddr t x i => rw [h x (by simp)]
 case field t x i => rw [h x (by simp)]
 case indexAddr t x i => rw [h x (by simp), h i (by simp)]
 case index t x i => rw [h x (by simp), h i (by simp)]
 case lookup t x k ok => rw [h x (by simp), h k (by simp)]
 case mapUpdate t m k x => rw [h m (by simp), h k (by simp), h x (by simp)]
 case insert t m k x => rw [h m (by simp), h k (by simp), h x (by simp)]
 case extract t i => rw [h t (by simp)]
 case panic x => rw [h x (by simp)]
 case call c =>
  obtain ⟨callee, cargs, argTypes⟩ := c
  have ha : aevs ρ cargs.toList = aevs ρ' cargs.toList := aevs_congr fun x hx => h x (by simp [Call.operands]; exact .inr (by simpa using hx))
  rw [ha]
  cases callee with
  | value f => dsimp only; rw [h f (by simp [Call.operands])]
  | invoke r m => dsimp only; rw [h r (by simp [Call.operands])]
  | builtin b => cases b <;> rfl
structure St.Eqv (σ τ : St) : Prop where
 n : σ.n = τ.n
 H : σ.H = τ.H
 defs : σ.defs = τ.defs
 vars : ∀ k, get σ.vars k = get τ.vars k
theorem St.Eqv.refl (σ : St) : σ.Eqv σ := ⟨rfl, rfl, rfl, fun _ => rfl⟩
theorem St.Eqv.symm {σ τ : St} (h : σ.Eqv τ) : τ.Eqv σ := ⟨h.n.symm, h.H.symm, h.defs.symm, fun k => (h.vars k).symm⟩
theorem St.Eqv.trans {σ τ υ : St} (h : σ.Eqv τ) (h' : τ.Eqv υ) : σ.Eqv υ := ⟨h.n.trans h'.n, h.H.trans h'.H, h.defs.trans h'.defs, fun k => (h.vars k).trans (h'.vars k)⟩
theorem St.Eqv.eval {σ τ : St} (h : σ.Eqv τ) : σ.eval = τ.eval := by
 funext x
 cases x <;> first | rfl | exact h.vars _
theorem SRel.eqv [Outer] {σ τ : St} (h : σ.Eqv τ) {ι : Nat → Option (Nat × Nat)} {a : Act} {w : World} (x : SRel σ ι a w) : SRel τ ι a w := by
 have hH := h.H
 refine ⟨by rw [← hH]; exact x.rel, x.size.trans h.n, fun t v hg => ?_, by rw [← hH, ← h.defs]; exact x.defs⟩
 rw [← hH]
 exact x.vars t v ((h.vars t).trans hg)
theorem wantedA_eqv {ops : Array Oper} {v1 v2 : Trie AV} (h : ∀ k, get v1 k = get v2 k) (o : Oper) : wantedA ops v1 o = wantedA ops v2 o := by
 unfold wantedA
 cases o.guard with
 | none => rfl
 | some p =>
  obtain ⟨j, want⟩ := p
  simp only
  cases (ops[j]?).bind (·.dst) with
  | none => rfl
  | some t => simp only [h t]
theorem putA_eqv {σ τ : St} (h : σ.Eqv τ) {dst : Option Tmp} {v : AV} {H' : List Blk} {σ1 : St} (hp : putA σ dst v H' = some σ1) : ∃ τ1, putA τ dst v H' = some τ1 ∧ σ1.Eqv τ1 := by
 unfold putA at hp ⊢
 cases dst with
 | none => cases hp; exact ⟨_, rfl, ⟨h.n, rfl, h.defs, h.vars⟩⟩
 | some d =>
  simp only at hp ⊢
  split at hp
  ·rename_i hd
   cases hp
   rw [if_pos (by rw [← h.n]; exact hd)]
   refine ⟨_, rfl, ⟨h.n, rfl, h.defs, fun k => ?_⟩⟩
   simp only
   by_cases hk : d = k
   ·subst hk; rw [get_set_same, get_set_same]
   ·rw [get_set_other _ _ _ _ hk, get_set_other _ _ _ _ hk]; exact h.vars k
  ·cases hp
def Does (P : Program) (r : AR) (H : List Blk) (v : AV) (H' : List Blk) : Prop :=
 r = .val v H' ∨ (∃ f args, r = .call f args ∧ callable P f = true ∧ ACall P f args H (.ret v) H') ∨ ∃ id args, r = .round id args ∧ ARound P id args H (.ret v) H'
def layB (P : Program) (o : Oper) : Option Blk :=
 match o.op with
 | .alloc t => (tz P t).map fun z => .box (z.cells.toList.map .lit) t
 | .makeMap t none => (tmap P t).map fun p => .map p.1 []
 | _ => none
def layV (o : Oper) (id : Nat) : AV :=
 match o.op with
 | .makeMap .. => .mp id
 | _ => .ptr id 0
def light (o : Oper) : Bool := okind o == .plain || okind o == .lay
def Good (Hs : List (List Blk)) (H : List Blk) : Prop := ∃ H0 ∈ Hs, HLe H0 H
inductive Res (P : Program) (ops : Array Oper) (al : Nat → Option Nat) (Hs : List (List Blk)) (i : Nat) (o : Oper) (σ : St) : AV → List Blk → Prop
  | plain {m : Bool} {v : AV} (hk : okind o = .plain) (hw : wantedA ops σ.vars o = some true) (ha : aop P m σ.H σ.eval o = some (.val v σ.H)) (h0 : ∀ H ∈ Hs, aop P m H σ.eval o = some (.val v H)) :
      Res P ops al Hs i o σ v σ.H
  | lay {B : Blk} {id : Nat} (hk : okind o = .lay) (hw : wantedA ops σ.vars o = some true) (hB : layB P o = some B) (hal : al i = some id) : Res P ops al Hs i o σ (layV o id) σ.H
  | skip (hw : wantedA ops σ.vars o = some false) : Res P ops al Hs i o σ (.lit undef) σ.H
  | eff {m : Bool} {r : AR} {v : AV} {H' : List Blk} (hk : okind o = .eff) (hw : wantedA ops σ.vars o = some true) (ha : aop P m σ.H σ.eval o = some r) (hr : Does P r σ.H v H') (hle : HLe σ.H H') :
      Res P ops al Hs i o σ v H'
  | store {m : Bool} {v : AV} {H' : List Blk} (hk : okind o = .store) (hw : wantedA ops σ.vars o = some true) (ha : aop P m σ.H σ.eval o = some (.val v H')) (hmem : Good Hs H') (hd : keepsD σ.H H') :
      Res P ops al Hs i o σ v H'
theorem looks_eval {ops : Array Oper} {o : Oper} {σ τ : St} (h : ∀ d, d ∈ o.looksAt ops → get σ.vars d = get τ.vars d) : (∀ x ∈ o.op.operands, σ.eval x = τ.eval x) ∧ wantedA ops σ.vars o = wantedA ops τ.vars o := by
 constructor
 ·intro x hx
  cases x with
  | tmp t => exact h t (List.mem_append_left _ (List.mem_filterMap.2 ⟨.tmp t, by simpa using hx, rfl⟩))
  | _ => rfl
 ·unfold wantedA
  cases hg : o.guard with
  | none => rfl
  | some p =>
   obtain ⟨j, want⟩ := p
   simp only
   cases hd : (ops[j]?).bind (·.dst) with
   | none => rfl
   | some t =>
    simp only
    rw [h t]
    unfold Oper.looksAt
    rw [hg]
    simp [hd]
theorem Res.other {ops : Array Oper} {al : Nat → Option Nat} {Hs : List (List Blk)} {i : Nat} {o : Oper} {σ τ : St} {v : AV} {H' : List Blk} (h : Res P ops al Hs i o σ v H') (hk : light o = true)
  (hl : ∀ d, d ∈ o.looksAt ops → get σ.vars d = get τ.vars d) (hle : Good Hs τ.H) : H' = σ.H ∧ Res P ops al Hs i o τ v τ.H := by
 obtain ⟨he, hw⟩ := looks_eval hl
 unfold light at hk
 cases h with
 | plain hk' hw' ha h0 =>
  obtain ⟨H0, hH0, hle⟩ := hle
  have h0' : ∀ H ∈ Hs, aop P _ H τ.eval o = some (.val v H) := fun H hH => by rw [← aop_congr he]; exact h0 H hH
  exact ⟨rfl, .plain hk' (hw ▸ hw') (plain_le hle hk' (h0' H0 hH0)).2 h0'⟩
 | lay hk' hw' hB hal => exact ⟨rfl, .lay hk' (hw ▸ hw') hB hal⟩
 | skip hw' => exact ⟨rfl, .skip (hw ▸ hw')⟩
 | eff hk' => rw [hk'] at hk; simp at hk
 | store hk' => rw [hk'] at hk; simp at hk
theorem Res.same {ops : Array Oper} {al : Nat → Option Nat} {Hs : List (List Blk)} {i : Nat} {o : Oper} {σ τ : St} {v : AV} {H' : List Blk} (h : Res P ops al Hs i o σ v H')
  (hl : ∀ d, d ∈ o.looksAt ops → get σ.vars d = get τ.vars d) (hH : σ.H = τ.H) : Res P ops al Hs i o τ v H' := by
 obtain ⟨he, hw⟩ := looks_eval hl
 cases h with
 | plain hk' hw' ha h0 =>
  rw [aop_congr he] at ha
  rw [hH] at ha ⊢
  exact .plain hk' (hw ▸ hw') ha fun H hm => by rw [← aop_congr he]; exact h0 H hm
 | lay hk' hw' hB hal => rw [hH]; exact .lay hk' (hw ▸ hw') hB hal
 | skip hw' => rw [hH]; exact .skip (hw ▸ hw')
 | eff hk' hw' ha hr hle =>
  rw [aop_congr he, hH] at ha
  rw [hH] at hr hle
  exact .eff hk' (hw ▸ hw') ha hr hle
 | store hk' hw' ha hmem hd =>
  rw [aop_congr he, hH] at ha
  rw [hH] at hd
  exact .store hk' (hw ▸ hw') ha hmem hd
theorem Res.good {ops : Array Oper} {al : Nat → Option Nat} {Hs : List (List Blk)} {i : Nat} {o : Oper} {σ : St} {v : AV} {H' : List Blk} (h : Res P ops al Hs i o σ v H') (hg : Good Hs σ.H) : Good Hs H' := by
 cases h with
 | eff _ _ _ _ hle => obtain ⟨H0, h1, h2⟩ := hg; exact ⟨H0, h1, h2.trans hle⟩
 | store _ _ _ hmem => exact hmem
 | _ => exact hg
def DStep (P : Program) (ops : Array Oper) (al : Nat → Option Nat) (Hs : List (List Blk)) (i : Nat) (σ σ1 : St) : Prop :=
 ∃ o v H', ops[i]? = some o ∧ Res P ops al Hs i o σ v H' ∧ putA σ o.dst v H' = some σ1
inductive DPath (P : Program) (ops : Array Oper) (al : Nat → Option Nat) (mask : Nat) : List (List Blk) → List Nat → St → St → Prop
  | nil {Hs : List (List Blk)} {σ : St} : DPath P ops al mask Hs [] σ σ
  | cons {Hs : List (List Blk)} {i : Nat} {l : List Nat} {σ σ1 σ2 : St} (hm : mask.testBit i = false) (h : DStep P ops al Hs i σ σ1) (t : DPath P ops al mask Hs l σ1 σ2) : DPath P ops al mask Hs (i :: l) σ σ2
  | barrier {Hs Hs' : List (List Blk)} {i : Nat} {l : List Nat} {σ σ1 σ2 : St} (hm : mask.testBit i = true) (h : AStep P ops i σ σ1) (hf : ∀ j ∈ l, ∀ id, al j = some id → σ1.H[id]? = σ.H[id]?)
      (hg : Good Hs' σ1.H) (t : DPath P ops al mask Hs' l σ1 σ2) : DPath P ops al mask Hs (i :: l) σ σ2
theorem putA_H {σ σ1 : St} {dst : Option Tmp} {v : AV} {H' : List Blk} (hp : putA σ dst v H' = some σ1) : σ1.H = H' ∧ σ1.n = σ.n ∧ σ1.defs = σ.defs ∧
  ∀ k, (∀ d, dst = some d → d ≠ k) → get σ1.vars k = get σ.vars k := by
 unfold putA at hp
 cases dst with
 | none => cases hp; exact ⟨rfl, rfl, rfl, fun _ _ => rfl⟩
 | some d =>
  simp only at hp
  split at hp
  ·cases hp
   exact ⟨rfl, rfl, rfl, fun k hk => get_set_other _ _ _ _ (hk d rfl)⟩
  ·cases hp
def comm (ops : Array Oper) (x y : Oper) : Bool :=
 x.apart ops y && ((light x || light y) && (!(okind x == .lay && okind y == .store) && !(okind x == .store && okind y == .lay)))
theorem putA_n {σ τ : St} (hn : σ.n = τ.n) {dst : Option Tmp} {v v' : AV} {H H' : List Blk} {σ1 : St} (hp : putA σ dst v H = some σ1) : ∃ τ1, putA τ dst v' H' = some τ1 := by
 unfold putA at hp ⊢
 cases dst with
 | none => exact ⟨_, rfl⟩
 | some d =>
  simp only at hp ⊢
  split at hp
  ·rename_i hd; rw [if_pos (by rw [← hn]; exact hd)]; exact ⟨_, rfl⟩
  ·cases hp
theorem putA_get {σ σ1 : St} {d : Nat} {v : AV} {H' : List Blk} (hp : putA σ (some d) v H' = some σ1) : get σ1.vars d = some v := by
 unfold putA at hp
 simp only at hp
 split at hp
 ·cases hp; exact get_set_same _ _ _
 ·cases hp
theorem swap_steps {ops : Array Oper} {al : Nat → Option Nat} {Hs : List (List Blk)} {p i : Nat} {σ σ1 σ2 : St} {op oi : Oper} (hop : ops[p]? = some op) (hoi : ops[i]? = some oi) (hc : comm ops op oi = true)
  (h1 : DStep P ops al Hs p σ σ1) (h2 : DStep P ops al Hs i σ1 σ2) (hle : Good Hs σ.H) :
  ∃ τ τ2, DStep P ops al Hs i σ τ ∧ DStep P ops al Hs p τ τ2 ∧ σ2.Eqv τ2 := by
 unfold comm at hc
 rw [Bool.and_eq_true, Bool.and_eq_true, Bool.or_eq_true] at hc
 obtain ⟨hap, hne, _⟩ := hc
 obtain ⟨a1, a2, a3⟩ := Oper.apart_spec hap
 obtain ⟨o1, vp, Hp, e1, r1, p1⟩ := h1
 rw [hop] at e1; cases e1
 obtain ⟨o2, vi, Hi, e2, r2, p2⟩ := h2
 rw [hoi] at e2; cases e2
 obtain ⟨hH1, hn1, hd1, hg1⟩ := putA_H p1
 obtain ⟨hH2, hn2, hd2, hg2⟩ := putA_H p2
 -- what i looks at is the same before p
 have look_i : ∀ d, d ∈ oi.looksAt ops → get σ1.vars d = get σ.vars d := fun d hd => hg1 d fun d' hd' e => a1 d' hd' (e ▸ hd)
 -- i at σ
 have hri : ∃ Hi', Res P ops al Hs i oi σ vi Hi' ∧ (light oi = true → Hi' = σ.H ∧ Hi = σ1.H) ∧ (¬ light oi = true → Hi' = Hi ∧ Hp = σ.H) := by
  by_cases hk : light oi = true
  ·obtain ⟨e, r⟩ := r2.other hk look_i hle
   exact ⟨σ.H, r, fun _ => ⟨rfl, e⟩, fun h => absurd hk h⟩
  ·have hkp : light op = true := hne.resolve_right hk
   have hHp : Hp = σ.H := (r1.other hkp (fun _ _ => rfl) hle).1
   have := r2.same look_i (hH1.trans hHp)
   exact ⟨Hi, this, fun h => absurd h hk, fun _ => ⟨rfl, hHp⟩⟩
 obtain ⟨Hi', ri, hplain, heff⟩ := hri
 have hgi : Good Hs Hi' := ri.good hle
 obtain ⟨τ, pτ⟩ := putA_n (v' := vi) (H' := Hi') hn1 p2
 obtain ⟨hHτ, hnτ, hdτ, hgτ⟩ := putA_H pτ
 have look_p : ∀ d, d ∈ op.looksAt ops → get σ.vars d = get τ.vars d := fun d hd => (hgτ d fun d' hd' e => a3 d' hd' (e ▸ hd)).symm
 have hrp : ∃ Hp', Res P ops al Hs p op τ vp Hp' ∧ Hp' = Hi := by
  by_cases hk : light op = true
  ·obtain ⟨e, r⟩ := r1.other hk look_p (by rw [hHτ]; exact hgi)
   refine ⟨τ.H, r, ?_⟩
   rw [hHτ]
   by_cases hki : light oi = true
   ·obtain ⟨g1, g2⟩ := hplain hki
    rw [g1, g2, hH1, e]
   ·exact (heff hki).1
  ·have hki : light oi = true := hne.resolve_left hk
   obtain ⟨g1, g2⟩ := hplain hki
   exact ⟨Hp, r1.same look_p (by rw [hHτ, g1]), by rw [g2, hH1]⟩
 obtain ⟨Hp', rp, hHp'⟩ := hrp
 obtain ⟨τ2, pτ2⟩ := putA_n (v' := vp) (H' := Hp') hnτ.symm p1
 obtain ⟨hHτ2, hnτ2, hdτ2, hgτ2⟩ := putA_H pτ2
 refine ⟨τ, τ2, ⟨oi, vi, Hi', hoi, ri, pτ⟩, ⟨op, vp, Hp', hop, rp, pτ2⟩, ⟨?_, ?_, ?_, fun k => ?_⟩⟩
 ·rw [hn2, hn1, hnτ2, hnτ]
 ·rw [hH2, hHτ2, hHp']
 ·rw [hd2, hd1, hdτ2, hdτ]
 ·by_cases hk1 : op.dst = some k
  ·have hk2 : ∀ d, oi.dst = some d → d ≠ k := fun d hd e => a2 k hk1 (e ▸ hd)
   rw [hg2 k hk2]
   rw [hk1] at p1 pτ2
   rw [putA_get p1, putA_get pτ2]
  ·have hk1' : ∀ d, op.dst = some d → d ≠ k := fun d hd e => hk1 (e ▸ hd)
   rw [hgτ2 k hk1']
   by_cases hk2 : oi.dst = some k
   ·rw [hk2] at p2 pτ
    rw [putA_get p2, putA_get pτ]
   ·have hk2' : ∀ d, oi.dst = some d → d ≠ k := fun d hd e => hk2 (e ▸ hd)
    rw [hg2 k hk2', hg1 k hk1', hgτ k hk2']
theorem DStep.eqv {ops : Array Oper} {al : Nat → Option Nat} {Hs : List (List Blk)} {i : Nat} {σ σ1 τ : St} (h : DStep P ops al Hs i σ σ1) (he : σ.Eqv τ) : ∃ τ1, DStep P ops al Hs i τ τ1 ∧ σ1.Eqv τ1 := by
 obtain ⟨o, v, H', ho, hr, hp⟩ := h
 obtain ⟨τ1, hp1, he1⟩ := putA_eqv he hp
 exact ⟨τ1, ⟨o, v, H', ho, hr.same (fun d _ => he.vars d) he.H, hp1⟩, he1⟩
theorem AStep.eqv {ops : Array Oper} {i : Nat} {σ σ1 τ : St} (h : AStep P ops i σ σ1) (he : σ.Eqv τ) : ∃ τ1, AStep P ops i τ τ1 ∧ σ1.Eqv τ1 := by
 have hH := he.H
 cases h with
 | val ho hw ha hd hp =>
  obtain ⟨τ1, hp1, he1⟩ := putA_eqv he hp
  exact ⟨τ1, .val ho (by rw [← wantedA_eqv he.vars]; exact hw) (by rw [← he.eval, ← hH]; exact ha) (by rw [← hH]; exact hd) hp1, he1⟩
 | skip ho hw hp =>
  rw [hH] at hp
  obtain ⟨τ1, hp1, he1⟩ := putA_eqv he hp
  exact ⟨τ1, .skip ho (by rw [← wantedA_eqv he.vars]; exact hw) hp1, he1⟩
 | call ho hw ha hcal hc hd hp =>
  obtain ⟨τ1, hp1, he1⟩ := putA_eqv he hp
  exact ⟨τ1, .call ho (by rw [← wantedA_eqv he.vars]; exact hw) (by rw [← he.eval, ← hH]; exact ha) hcal (by rw [← hH]; exact hc) (by rw [← hH]; exact hd) hp1, he1⟩
 | round ho hw ha hc hd hp =>
  obtain ⟨τ1, hp1, he1⟩ := putA_eqv he hp
  exact ⟨τ1, .round ho (by rw [← wantedA_eqv he.vars]; exact hw) (by rw [← he.eval, ← hH]; exact ha) (by rw [← hH]; exact hc) (by rw [← hH]; exact hd) hp1, he1⟩
theorem DPath.eqv {ops : Array Oper} {al : Nat → Option Nat} {mask : Nat} : ∀ {Hs : List (List Blk)} {l : List Nat} {σ σ2 τ : St}, DPath P ops al mask Hs l σ σ2 → σ.Eqv τ → ∃ τ2, DPath P ops al mask Hs l τ τ2 ∧ σ2.Eqv τ2
 | _, _, _, _, τ, .nil, he => ⟨τ, .nil, he⟩
 | _, _, _, _, _, .cons hm h t, he => by
  obtain ⟨τ1, h1, he1⟩ := h.eqv he
  obtain ⟨τ2, t2, he2⟩ := DPath.eqv t he1
  exact ⟨τ2, .cons hm h1 t2, he2⟩
 | _, _, _, _, _, .barrier hm h hf hg t, he => by
  obtain ⟨τ1, h1, he1⟩ := h.eqv he
  obtain ⟨τ2, t2, he2⟩ := DPath.eqv t he1
  exact ⟨τ2, .barrier hm h1 (by rw [← he.H, ← he1.H]; exact hf) (by rw [← he1.H]; exact hg) t2, he2⟩
theorem DPath.first {mask : Nat} {ops : Array Oper} {al : Nat → Option Nat} {Hs : List (List Blk)} {i : Nat} {oi : Oper} {post : List Nat} (hoi : ops[i]? = some oi) (hmi : mask.testBit i = false) : ∀ {pre : List Nat} {σ σ' : St},
  DPath P ops al mask Hs (pre ++ i :: post) σ σ' → (∀ p ∈ pre, mask.testBit p = false ∧ ∃ op, ops[p]? = some op ∧ comm ops op oi = true) → Good Hs σ.H →
  ∃ τ σ'', DStep P ops al Hs i σ τ ∧ DPath P ops al mask Hs (pre ++ post) τ σ'' ∧ σ'.Eqv σ''
 | [], σ, σ', h, _, _ => by
  cases h with
  | cons hm h t => exact ⟨_, σ', h, t, St.Eqv.refl _⟩
  | barrier hm => rw [hmi] at hm; cases hm
 | p :: pre, σ, σ', h, hc, hle => by
  obtain ⟨hmp, op, hop, hcomm⟩ := hc p (by simp)
  rw [List.cons_append] at h
  cases h with
  | barrier hm => rw [hmp] at hm; cases hm
  | cons hm h t =>
   rename_i σ1
   have hle1 : Good Hs σ1.H := by
    obtain ⟨o, v, H', _, hr, hp⟩ := h
    rw [(putA_H hp).1]; exact hr.good hle
   obtain ⟨τ1, σ'', hi, ht, he⟩ := DPath.first hoi hmi t (fun q hq => hc q (by simp [hq])) hle1
   obtain ⟨τ, τ2, hi', hp', he2⟩ := swap_steps hop hoi hcomm h hi hle
   obtain ⟨σ3, ht3, he3⟩ := ht.eqv he2
   exact ⟨τ, σ3, hi', .cons hmp hp' ht3, he.trans he3⟩
end Go.Vm

namespace Go.Vm
variable {P : Program}
def bits (acc : List Nat) (o : Oper) : Nat := o.after.toList.foldl (fun s e => if Region.binds .any e then s ||| 2 ^ e.on ||| acc.getD e.on 0 else s) 0
def befs : List Oper → List Nat → List Nat
 | [], acc => acc
 | o :: os, acc => befs os (acc ++ [bits acc o])
theorem befs_spec : ∀ (os : List Oper) (acc : List Nat), (∃ t, befs os acc = acc ++ t ∧ t.length = os.length) ∧
  ∀ k o, os[k]? = some o → (befs os acc)[acc.length + k]? = some (bits ((befs os acc).take (acc.length + k)) o)
 | [], acc => ⟨⟨[], by simp [befs]⟩, by simp⟩
 | o :: os, acc => by
  obtain ⟨⟨t, ht, hl⟩, ih⟩ := befs_spec os (acc ++ [bits acc o])
  refine ⟨⟨bits acc o :: t, by simp [befs, ht], by simp [hl]⟩, fun k x hk => ?_⟩
  simp only [befs]
  cases k with
  | zero =>
   simp at hk; subst hk
   rw [ht]
   simp
  | succ k =>
   simp at hk
   have := ih k x hk
   simp only [List.length_append, List.length_singleton] at this
   rw [show acc.length + (k + 1) = acc.length + 1 + k by omega]
   exact this
theorem bits_spec {acc : List Nat} {o : Oper} {p : Nat} (h : (bits acc o).testBit p = true) : ∃ e ∈ o.after, Region.binds .any e = true ∧ (e.on = p ∨ (acc.getD e.on 0).testBit p = true) := by
  unfold bits at h
  have key : ∀ (l : List Edge) (s : Nat), (l.foldl (fun s e => if Region.binds .any e then s ||| 2 ^ e.on ||| acc.getD e.on 0 else s) s).testBit p = true →
      s.testBit p = true ∨ ∃ e ∈ l, Region.binds .any e = true ∧ (e.on = p ∨ (acc.getD e.on 0).testBit p = true) := by
    intro l
    induction l with
    | nil => intro s h; exact .inl h
    | cons e l ih =>
      intro s h
      simp only [List.foldl_cons] at h
      rcases ih _ h with h | ⟨e', he', hb, hx⟩
      · split at h
        · rename_i hb
          simp only [Nat.testBit_or, Bool.or_eq_true] at h
          rcases h with (h | h) | h
          · exact .inl h
          · refine .inr ⟨e, by simp, hb, .inl ?_⟩
            rw [Nat.testBit_two_pow] at h
            simpa using h
          · exact .inr ⟨e, by simp, hb, .inr h⟩
        · exact .inl h
      · exact .inr ⟨e', by simp [he'], hb, hx⟩
  rcases key _ 0 h with h | ⟨e, he, hb, hx⟩
  · simp at h
  · exact ⟨e, by simpa using he, hb, hx⟩
def drawOk (mask : Nat) (ops : Array Oper) : Bool :=
 let B := befs ops.toList []
 (List.range ops.size).all fun i => match ops[i]? with
  | none => true
  | some oi => oi.after.toList.all (fun e => !Region.binds .any e || decide (e.on < i)) &&
   (List.range i).all fun p => ((B.getD i 0).testBit p || (!mask.testBit i && (!mask.testBit p && (match ops[p]? with | some op => comm ops op oi | none => true)))) &&
    (mask.testBit p || match ops[p]? with | some op => !(okind op == .store && okind oi == .lay) | none => true)
def Closed (ops : Array Oper) (listed : Array Bool) : Prop := ∀ j, j < ops.size → listed.getD j false = true → ∀ p, ((befs ops.toList []).getD j 0).testBit p = true → listed.getD p false = true
theorem ready_bef {ops : Array Oper} {listed : Array Bool} {i : Nat} {oi : Oper} (hoi : ops[i]? = some oi) (hback : ∀ e ∈ oi.after, Region.binds .any e = true → e.on < i) (hcl : Closed ops listed)
  (hr : ∀ e ∈ oi.after, Region.binds .any e = true → listed.getD e.on false = true) {p : Nat} (hp : ((befs ops.toList []).getD i 0).testBit p = true) : listed.getD p false = true := by
 have hi := (Array.getElem?_eq_some_iff.1 hoi).1
 have hspec := (befs_spec ops.toList []).2 i oi (by simpa using hoi)
 simp only [List.length_nil, Nat.zero_add] at hspec
 rw [List.getD_eq_getElem?_getD, hspec] at hp
 simp only [Option.getD_some] at hp
 obtain ⟨e, he, hb, hx⟩ := bits_spec hp
 have hl := hr e he hb
 have hlt := hback e he hb
 rcases hx with rfl | hx
 ·exact hl
 ·refine hcl e.on (by omega) hl p ?_
  rw [List.getD_eq_getElem?_getD] at hx ⊢
  rw [List.getElem?_take_of_lt hlt] at hx
  exact hx
def Pend (P : Program) (ops : Array Oper) (al : Nat → Option Nat) (L : List Nat) (ι : Nat → Option (Nat × Nat)) (H : List Blk) : Prop :=
 ∀ i ∈ L, ∀ o B id, ops[i]? = some o → layB P o = some B → al i = some id → ι id = none ∧ H[id]? = some B
theorem layB_row {o : Oper} {B : Blk} (h : layB P o = some B) : B.isRow = false := by
 unfold layB at h
 split at h
 ·obtain ⟨z, _, rfl⟩ := map_some h; rfl
 ·obtain ⟨z, _, rfl⟩ := map_some h; rfl
 ·cases h
theorem layB_kind {o : Oper} {B : Blk} (h : layB P o = some B) : okind o = .lay := by
 unfold layB at h
 unfold okind
 split at h
 ·rename_i ho; rw [ho]
 ·rename_i ho; rw [ho]
 ·cases h
def Waits (P : Program) (ops : Array Oper) (al : Nat → Option Nat) (L : List Nat) (H H' : List Blk) : Prop :=
 ∀ i ∈ L, ∀ o B id, ops[i]? = some o → layB P o = some B → al i = some id → H[id]? = some B → H'[id]? = some B
theorem HLe.waits {H H' : List Blk} (h : HLe H H') {ops : Array Oper} {al : Nat → Option Nat} {L : List Nat} : Waits P ops al L H H' := fun _ _ _ B id _ hB _ hH => h id B hH (Blk.loose_of (layB_row hB))
theorem DStep.sound [Outer] {ops : Array Oper} {al : Nat → Option Nat} {Hs : List (List Blk)} {i : Nat} {σ σ1 : St} (h : DStep P ops al Hs i σ σ1) {n0 : Nat} {L : List Nat}
    (hal : ∀ j id, al j = some id → n0 ≤ id) (hinj : ∀ j k id, al j = some id → al k = some id → j = k) (hbox : ∀ j id, al j = some id → notRow σ.H id) (hiL : i ∈ L)
    (hst : ∀ o, ops[i]? = some o → okind o = .store → ∀ j ∈ L, ∀ o' B, ops[j]? = some o' → layB P o' = some B → False)
    {ι : Nat → Option (Nat × Nat)} {a : Act} {w : World} {cro : Option Nat} (hs : SRel σ ι a w) (hpend : Pend P ops al L ι σ.H) {Q : Exit → Act → World → Prop} {K : Act → World → Prop}
    (hK : ∀ ι' a' w', SRel σ1 ι' a' w' → Ev ⟨σ.H, ι, w⟩ ⟨σ1.H, ι', w'⟩ → (∀ id, id < n0 → notRow σ.H id → ι id = none → ι' id = none) → Pend P ops al (L.filter (· != i)) ι' σ1.H → K a' w') :
    wpOpIn (Fr cro) 0 P ops Q i K a w := by
  obtain ⟨o, v, H', ho, hr, hp⟩ := h
  have hH := (putA_H hp).1
  -- whatever is no laying of a block: by the step's own soundness
  have plainly : AStep P ops i σ σ1 → Waits P ops al L σ.H σ1.H → wpOpIn (Fr cro) 0 P ops Q i K a w := by
    intro hstep hwt
    refine hstep.sound hs fun ι' a' w' hs' hev hnon => hK ι' a' w' hs' hev (fun id _ hn hi => hnon id hn hi) fun j hj o' B id ho' hB hal' => ?_
    have hjL : j ∈ L := (List.mem_filter.1 hj).1
    obtain ⟨hni, hHB⟩ := hpend j hjL o' B id ho' hB hal'
    exact ⟨hnon id (hbox j id hal') hni, hwt j hjL o' B id ho' hB hal' hHB⟩
  cases hr with
  | plain hk hw ha h0 => exact plainly (.val ho hw ha (fun _ h => h) hp) (by rw [hH]; exact (HLe.refl _).waits)
  | skip hw => exact plainly (.skip ho hw hp) (by rw [hH]; exact (HLe.refl _).waits)
  | store hk hw ha hmem hd =>
    exact plainly (.val ho hw ha hd hp) fun j hj o' B _ ho' hB _ _ => (hst o ho hk j hj o' B ho' hB).elim
  | eff hk hw ha hd hle' =>
    have hwt : Waits P ops al L σ.H σ1.H := by rw [hH]; exact hle'.waits
    rcases hd with rfl | ⟨f, args, rfl, hcal, hc⟩ | ⟨id, args, rfl, hc⟩
    · exact plainly (.val ho hw ha hle'.keepsD hp) hwt
    · exact plainly (.call ho hw ha hcal hc hle'.keepsD hp) hwt
    · exact plainly (.round ho hw ha hc hle'.keepsD hp) hwt
  | lay hk hw hB hali =>
    rename_i B id
    obtain ⟨hni, hBσ⟩ := hpend i hiL o B id ho hB hali
    have hBr := layB_row hB
    have hR : Rel ⟨σ.H, ι, w⟩ := hs.rel
    have place : ∀ (ob : Obj) (c : Value) (w' : World), w'.heap = w.heap.push ob → Rest w w' → (execOp a.eval o).run P w = .ok (.value c) w' → (∀ c', o.op ≠ .defer c') →
        BlkRel ⟨σ.H, upd ι id (some (w.heap.size, 0)), w'⟩ w.heap.size 0 B → VRel ⟨σ.H, upd ι id (some (w.heap.size, 0)), w'⟩ (layV o id) c → wpOpIn (Fr cro) 0 P ops Q i K a w := by
      intro ob c w' hw' hos hrun hnd hblk hv
      unfold wpOpIn
      simp only [ho]
      rw [wantedA_sound hs.vars hw]
      simp only [if_true]
      refine ⟨fun _ _ => Fr_fn _ _, ?_⟩
      rw [Oper.semAt_eq _ _ _ hnd, hrun]
      have hev := Ev.place hR (w' := w') (wm := 0) hBσ hBr hni hw' hos
      have hR' := Rel.place hR (w' := w') (wm := 0) hBσ hBr hni hw' hblk hos
      refine hK (upd ι id (some (w.heap.size, 0))) _ _ (hs.put hR' hev (fun _ h => h) hv hp) (by rw [hH]; exact hev) (fun id' hlt _ hn => ?_) fun j hj o' B' id' ho' hB' hal' => ?_
      · have := hal i id hali
        rw [upd_other _ _ _ _ (by omega)]; exact hn
      · obtain ⟨hjL, hji⟩ := List.mem_filter.1 hj
        have hne : id' ≠ id := by
          rintro rfl
          have := hinj j i id' hal' hali
          simp [this] at hji
        rw [upd_other _ _ _ _ hne, hH]
        exact hpend j hjL o' B' id' ho' hB' hal'
    unfold layB at hB
    split at hB
    · rename_i t hop
      obtain ⟨z, hz, rfl⟩ := map_some hB
      refine place (.cells z.cells t) (.pointer (some ⟨w.heap.size, 0, none⟩)) { w with heap := w.heap.push (.cells z.cells t) } rfl ⟨rfl, rfl⟩ ?_ (by rw [hop]; intro c h; cases h) ⟨z.cells, by simp, VRels.map_lit _⟩ ?_
      · unfold execOp
        rw [hop]
        simp only
        rw [Sem.run_bind]
        unfold Instr.alloc
        rw [Sem.run_bind, run_tz hz]
        simp only [Result.andThen_ok]
        rfl
      · unfold layV
        rw [hop]
        simp only [VRel]
        exact ⟨w.heap.size, 0, upd_same .., ⟨_, hBσ, rfl⟩, rfl⟩
    · rename_i t hop
      obtain ⟨p, hpp, rfl⟩ := map_some hB
      refine place (.map #[] 0) (.map (some w.heap.size)) { w with heap := w.heap.push (.map #[] 0) } rfl ⟨rfl, rfl⟩ ?_ (by rw [hop]; intro c h; cases h)
        ⟨#[], 0, by simp, ⟨⟨[], List.Perm.refl _, rfl, by simp [VRels]⟩, by simp, by simp, by simp, by simp⟩⟩ ?_
      · unfold execOp
        rw [hop]
        rfl
      · unfold layV
        rw [hop]
        simp only [VRel]
        exact ⟨w.heap.size, 0, upd_same .., ⟨_, hBσ, rfl⟩, rfl⟩
    · cases hB
def left (ops : Array Oper) (listed : Array Bool) : List Nat := (List.range ops.size).filter fun j => !(listed.getD j true)
theorem mem_left {ops : Array Oper} {listed : Array Bool} {j : Nat} : j ∈ left ops listed ↔ j < ops.size ∧ listed.getD j true = false := by
 simp [left]
theorem left_split {ops : Array Oper} {listed : Array Bool} {i : Nat} (hi : i ∈ left ops listed) :
  ∃ pre post, left ops listed = pre ++ i :: post ∧ (∀ p ∈ pre, p < i) ∧ left ops (listed.setIfInBounds i true) = pre ++ post ∧ (left ops listed).filter (· != i) = pre ++ post := by
 have hs : (left ops listed).Pairwise (· < ·) := List.Pairwise.filter _ List.pairwise_lt_range
 obtain ⟨pre, post, he⟩ := List.append_of_mem hi
 rw [he] at hs
 rw [List.pairwise_append, List.pairwise_cons] at hs
 obtain ⟨_, ⟨hpost, _⟩, hcross⟩ := hs
 have hpre : ∀ p ∈ pre, p < i := fun p hp => hcross p hp i (by simp)
 have hf : (left ops listed).filter (· != i) = pre ++ post := by
  rw [he, List.filter_append, List.filter_cons]
  have h1 : pre.filter (· != i) = pre := List.filter_eq_self.2 fun p hp => by have := hpre p hp; simp; omega
  have h2 : post.filter (· != i) = post := List.filter_eq_self.2 fun p hp => by have := hpost p hp; simp; omega
  simp [h1, h2]
 refine ⟨pre, post, he, hpre, ?_, hf⟩
 rw [← hf]
 unfold left
 rw [List.filter_filter]
 refine List.filter_congr fun j hj => ?_
 have hj : j < ops.size := by simpa using hj
 by_cases h : j = i
 ·subst h
  have : listed.getD j true = false := (mem_left.1 hi).2
  have hlt : j < listed.size := by
   rcases Nat.lt_or_ge j listed.size with h | h
   ·exact h
   ·simp [Array.getD_eq_getD_getElem?, h] at this
  simp [Array.getD_eq_getD_getElem?, hlt]
 ·rw [getD_set_ne true (Ne.symm h)]
  simp [h]
theorem drawOk_spec {mask : Nat} {ops : Array Oper} (h : drawOk mask ops = true) {i : Nat} {oi : Oper} (hi : ops[i]? = some oi) :
  (∀ e ∈ oi.after, Region.binds .any e = true → e.on < i) ∧ ∀ p op, p < i → ops[p]? = some op →
   (((befs ops.toList []).getD i 0).testBit p = true ∨ (mask.testBit i = false ∧ mask.testBit p = false ∧ comm ops op oi = true)) ∧
   (mask.testBit p = true ∨ (okind op == .store && okind oi == .lay) = false) := by
 unfold drawOk at h
 simp only [List.all_eq_true, List.mem_range] at h
 have := h i (Array.getElem?_eq_some_iff.1 hi).1
 rw [hi] at this
 simp only at this
 rw [Bool.and_eq_true] at this
 obtain ⟨h1, h2⟩ := this
 rw [List.all_eq_true] at h1 h2
 refine ⟨fun e he hb => ?_, fun p op hp ho => ?_⟩
 ·have := h1 e (by simpa using he)
  rw [hb] at this
  simpa using this
 ·have := h2 p (by simpa using hp)
  rw [ho, Bool.and_eq_true, Bool.or_eq_true, Bool.or_eq_true] at this
  refine ⟨this.1.imp_right fun h => ?_, this.2.imp_right fun h => by
   have h : (!(okind op == .store && okind oi == .lay)) = true := h
   rwa [Bool.not_eq_true'] at h⟩
  rw [Bool.and_eq_true, Bool.and_eq_true, Bool.not_eq_true', Bool.not_eq_true'] at h
  exact h
theorem draw_sound [Outer] {mask : Nat} {ops : Array Oper} {al : Nat → Option Nat} (hd : drawOk mask ops = true) {n0 : Nat} {S0 : Sit} (hS0 : n0 = S0.H.length)
    (hal : ∀ j id, al j = some id → n0 ≤ id) (hinj : ∀ j k id, al j = some id → al k = some id → j = k) {cro : Option Nat} {σf : St} :
    ∀ (fuel : Nat) (listed : Array Bool) (Hs : List (List Blk)) (σ σ' : St) (ι : Nat → Option (Nat × Nat)) (a : Act) (w : World), listed.size = ops.size → Closed ops listed →
      DPath P ops al mask Hs (left ops listed) σ σ' → σ'.Eqv σf → Good Hs σ.H → SRel σ ι a w → Pend P ops al (left ops listed) ι σ.H → (∀ j id, al j = some id → notRow σ.H id) →
      Ev S0 ⟨σ.H, ι, w⟩ → Non S0 ⟨σ.H, ι, w⟩ → (left ops listed).length ≤ fuel →
      wpAnyIn (Fr cro) 0 P .any ops (Post S0 .normal σf) fuel listed a w := by
  have empty : ∀ (listed : Array Bool) (Hs : List (List Blk)) (σ σ' : St) (ι : Nat → Option (Nat × Nat)) (a : Act) (w : World), left ops listed = [] → DPath P ops al mask Hs (left ops listed) σ σ' → σ'.Eqv σf → SRel σ ι a w →
      Ev S0 ⟨σ.H, ι, w⟩ → Non S0 ⟨σ.H, ι, w⟩ → Region.ready .any ops listed = [] ∧ Post S0 .normal σf .normal a w := by
    intro listed Hs σ σ' ι a w hl hp he hs hev hnon
    rw [hl] at hp
    cases hp
    refine ⟨?_, ι, trivial, hs.eqv he, by rw [← he.H]; exact hev, by rw [← he.H]; exact hnon⟩
    refine List.eq_nil_iff_forall_not_mem.2 fun j hj => ?_
    obtain ⟨h0, o, ho, _⟩ := mem_ready.1 hj
    have : j ∈ left ops listed := mem_left.2 ⟨(Array.getElem?_eq_some_iff.1 ho).1, h0⟩
    rw [hl] at this
    cases this
  intro fuel
  induction fuel with
  | zero =>
    intro listed Hs σ σ' ι a w hsz hcl hp he hle hs hpend hbox hev hnon hlen
    exact empty listed Hs σ σ' ι a w (by simpa using hlen) hp he hs hev hnon
  | succ fuel ih =>
    intro listed Hs σ σ' ι a w hsz hcl hp he hle hs hpend hbox hev hnon hlen
    have conv : ∀ j, j < ops.size → listed.getD j false = listed.getD j true := fun j hj => by
      simp [Array.getD_eq_getD_getElem?, hsz ▸ hj]
    constructor
    · intro hready
      refine (empty listed Hs σ σ' ι a w ?_ hp he hs hev hnon).2
      cases hl : left ops listed with
      | nil => rfl
      | cons i rest =>
        exfalso
        have himem : i ∈ left ops listed := by rw [hl]; simp
        obtain ⟨hi1, hi2⟩ := mem_left.1 himem
        obtain ⟨oi, hoi⟩ : ∃ oi, ops[i]? = some oi := ⟨ops[i], by simp [hi1]⟩
        obtain ⟨pre, post, hsp, hpre, _⟩ := left_split himem
        have hpre0 : pre = [] := by
          rw [hl] at hsp
          cases pre with
          | nil => rfl
          | cons p pre =>
            simp only [List.cons_append, List.cons.injEq] at hsp
            have := hpre p (by simp)
            omega
        have : i ∈ Region.ready .any ops listed := by
          refine mem_ready.2 ⟨hi2, oi, hoi, fun e hemem hb => ?_⟩
          have hlt := (drawOk_spec hd hoi).1 e hemem hb
          rw [conv _ (by omega)]
          cases hg : listed.getD e.on true with
          | true => rfl
          | false =>
            have hm : e.on ∈ left ops listed := mem_left.2 ⟨by omega, hg⟩
            rw [hsp, hpre0] at hm
            have hs' : (left ops listed).Pairwise (· < ·) := List.Pairwise.filter _ List.pairwise_lt_range
            rw [hsp, hpre0, List.nil_append, List.pairwise_cons] at hs'
            rcases List.mem_cons.1 hm with h | h
            · omega
            · have := hs'.1 _ h; omega
        rw [hready] at this
        cases this
    · intro i hi
      obtain ⟨hi0, oi, hoi, hafter⟩ := mem_ready.1 hi
      have hilt := (Array.getElem?_eq_some_iff.1 hoi).1
      have himem : i ∈ left ops listed := mem_left.2 ⟨hilt, hi0⟩
      obtain ⟨pre, post, hsp, hpre, hleft, hfil⟩ := left_split himem
      obtain ⟨hback, hcomm⟩ := drawOk_spec hd hoi
      have getop : ∀ p, p < ops.size → ∃ op, ops[p]? = some op := fun p hp => ⟨ops[p]'hp, by simp [hp]⟩
      have hc0 : ∀ p ∈ left ops listed, p < i → mask.testBit i = false ∧ mask.testBit p = false ∧ ∃ op, ops[p]? = some op ∧ comm ops op oi = true := by
        intro p hpm hplt
        obtain ⟨op, hop⟩ := getop p (by omega)
        have := (hcomm p op hplt hop).1.resolve_left fun hb => by
          have h1 := ready_bef hoi hback hcl hafter hb
          have h2 := (mem_left.1 hpm).2
          rw [conv p (by omega), h2] at h1
          cases h1
        exact ⟨this.1, this.2.1, op, hop, this.2.2⟩
      have hc : ∀ p ∈ pre, mask.testBit p = false ∧ ∃ op, ops[p]? = some op ∧ comm ops op oi = true := fun p hpm => (hc0 p (by rw [hsp]; simp [hpm]) (hpre p hpm)).2
      have hsz' : (listed.setIfInBounds i true).size = ops.size := by simpa using hsz
      have hcl' : Closed ops (listed.setIfInBounds i true) := by
        intro j hj hlj p hb
        by_cases hpi : p = i
        · subst hpi; simp [Array.getD_eq_getD_getElem?, hsz ▸ hilt]
        · rw [getD_set_ne false (Ne.symm hpi)]
          by_cases hji : j = i
          · subst hji; exact ready_bef hoi hback hcl hafter hb
          · rw [getD_set_ne false (Ne.symm hji)] at hlj
            exact hcl j hj hlj p hb
      have hlen' : (left ops (listed.setIfInBounds i true)).length ≤ fuel := by
        rw [hleft]
        rw [hsp] at hlen
        simp at hlen ⊢
        omega
      by_cases hks : mask.testBit i = true
      · -- a barrier stands first
        have hpre0 : pre = [] := by
          cases pre with
          | nil => rfl
          | cons p pre =>
            have := (hc0 p (by rw [hsp]; simp) (hpre p (by simp))).1
            rw [hks] at this; cases this
        subst hpre0
        rw [hsp, List.nil_append] at hp
        cases hp with
        | cons hm => rw [hks] at hm; cases hm
        | barrier hm hst hf hg t =>
          rename_i Hs' σ1
          refine hst.sound hs fun ι' a' w' hs' hev' hnon' => ?_
          refine ih _ Hs' σ1 σ' ι' a' w' hsz' hcl' (hleft ▸ t) he hg hs' ?_ (fun j id h => (hev'.ptr id (hbox j id h)).1) (hev.trans hev') (hnon.trans hev hnon') hlen'
          intro j hj o' B id ho' hB hal'
          have hjp : j ∈ post := by rw [hleft] at hj; simpa using hj
          have hjL : j ∈ left ops listed := by rw [hsp]; simp [hjp]
          obtain ⟨h1, h2⟩ := hpend j hjL o' B id ho' hB hal'
          exact ⟨hnon' id (hbox j id hal') h1, by rw [hf j hjp id hal']; exact h2⟩
      · have hks : mask.testBit i = false := by simpa using hks
        rw [hsp] at hp
        obtain ⟨τ, σ'', hst, hrest, heq⟩ := hp.first hoi hks hc hle
        have hgτ : Good Hs τ.H := by
          obtain ⟨o, v, H', _, hr, hpp⟩ := hst
          rw [(putA_H hpp).1]; exact hr.good hle
        refine hst.sound hal hinj hbox himem (fun o ho hk j hj o' B ho' hB => ?_) hs hpend fun ι' a' w' hs' hev' hnon' hpend' => ?_
        · rw [hoi] at ho; cases ho
          have hkj := layB_kind hB
          rcases Nat.lt_trichotomy j i with h | h | h
          · obtain ⟨_, _, op, hop, hcc⟩ := hc0 j hj h
            rw [hop] at ho'; cases ho'
            unfold comm at hcc
            rw [hkj, hk] at hcc
            simp at hcc
          · subst h; rw [hoi] at ho'; cases ho'; rw [hk] at hkj; cases hkj
          · have := ((drawOk_spec hd ho').2 i oi h hoi).2
            rw [hks, hk, hkj] at this
            simp at this
        · refine ih _ Hs τ σ'' ι' a' w' hsz' hcl' (hleft ▸ hrest) (heq.symm.trans he) hgτ hs' (by rw [hleft, ← hfil]; exact hpend') (fun j id h => (hev'.ptr id (hbox j id h)).1) (hev.trans hev') ?_ hlen'
          intro id hn hi0
          exact hnon' id (by rw [hS0]; exact hn.lt) (hev.ptr id hn).1 (hnon id hn hi0)
def hoisted (P : Program) (ops : Array Oper) : List Blk := ops.toList.map fun o => (layB P o).getD .defd
def alAt (P : Program) (n : Nat) (ops : Array Oper) : Nat → Option Nat := fun j => match ops[j]? with
 | some o => match layB P o with
  | some _ => some (n + j)
  | none => none
 | none => none
theorem alAt_spec {n : Nat} {ops : Array Oper} {j id : Nat} (h : alAt P n ops j = some id) : id = n + j ∧ j < ops.size := by
 unfold alAt at h
 split at h
 ·rename_i o ho
  split at h
  ·cases h; exact ⟨rfl, (Array.getElem?_eq_some_iff.1 ho).1⟩
  ·cases h
 ·cases h
theorem Run.region_draw {ro : Option Nat} {id : Nat} {ops : Array Oper} {σ σ' : St} {mask : Nat} {Hs : List (List Blk)} (hm : P.follows .mixedOrders = true) (hd : drawOk mask ops = true) (hHs : (σ.H ++ hoisted P ops) ∈ Hs)
  (h : DPath P ops (alAt P σ.H.length ops) mask Hs (List.range ops.size) { σ with H := σ.H ++ hoisted P ops } σ') : Run P ro (.region id ops true) σ .normal σ' := by
 intro O ι a w cro hro hs
 refine wpIn_region_any hm ?_
 have hleft : left ops (Array.replicate ops.size false) = List.range ops.size := by
  unfold left
  refine List.filter_eq_self.2 fun j hj => ?_
  have : j < ops.size := by simpa using hj
  simp [Array.getD_eq_getD_getElem?, this]
 have hR : Rel ⟨σ.H, ι, w⟩ := hs.rel
 have hR1 : Rel ⟨σ.H ++ hoisted P ops, ι, { w with drawn := w.drawn + 1 }⟩ := Rel.fresh hR fun _ _ => rfl
 have hev : Ev ⟨σ.H, ι, w⟩ ⟨σ.H ++ hoisted P ops, ι, { w with drawn := w.drawn + 1 }⟩ := Ev.fresh hR fun _ _ => rfl
 have hat : ∀ j, j < ops.size → (σ.H ++ hoisted P ops)[σ.H.length + j]? = (ops[j]?).map fun o => (layB P o).getD .defd := by
  intro j hj
  rw [List.getElem?_append_right (by omega)]
  simp [hoisted]
 refine draw_sound hd (n0 := σ.H.length) rfl (fun j id' hj => by have := alAt_spec hj; omega) (fun j k id' hj hk => by have := alAt_spec hj; have := alAt_spec hk; omega)
  ops.size _ Hs { σ with H := σ.H ++ hoisted P ops } σ' ι a _ (by simp) ?_ (hleft ▸ h) (St.Eqv.refl _) ⟨_, hHs, HLe.refl _⟩ ⟨hR1, hs.size, hs.vars.ev hev, hs.defs.ev hev fun id' hid => ?_⟩ ?_ ?_ hev (Non.same) (by rw [hleft]; simp)
 ·intro j hj hl
  have : j < ops.size := hj
  simp [Array.getD_eq_getD_getElem?, this] at hl
 ·exact HLe.append _ _ id' _ hid rfl
 ·intro j hj o B id' ho hB hal
  obtain ⟨rfl, hlt⟩ := alAt_spec hal
  refine ⟨?_, ?_⟩
  ·cases hi : ι (σ.H.length + j) with
   | none => rfl
   | some p => have h9 : σ.H.length + j < σ.H.length := hR.lt hi; omega
  ·have := hat j hlt
   rw [ho] at this
   simpa [hB] using this
 ·intro j id' hj
  obtain ⟨rfl, hlt⟩ := alAt_spec hj
  have := hat j hlt
  rw [show ops[j]? = some ops[j] by simp [hlt]] at this
  refine ⟨_, this, ?_⟩
  show ((layB P ops[j]).getD .defd).isRow = false
  cases hB : layB P ops[j] with
  | none => rfl
  | some B => exact layB_row hB
end Go.Vm

namespace Go.Vm
variable {P : Program}
noncomputable def loop0 (σ : St) (ps : Array Tmp) (assign body : Code) (d : Nat) : ALoop := { state := .ready, pending := none, n := σ.n, vars := σ.vars, params := ps, assign, body, defers := d }
def jumpTo : Option Code → Option AExit
 | none => some .normal
 | some .ret => some .ret
 | some (.exit i) => some (.exit i)
 | _ => none
theorem put_other {w : World} {r : Nat} {o : Obj} : ∀ b', b' ≠ r → (w.putObj r o).heap[b']? = w.heap[b']? := fun _ h => World.putObj_heap_other h
theorem LRel.same [Outer] {S S' : Sit} {l : ALoop} {L : Loop} (x : LRel S l L) (h : Ev S S') (st : LoopState) (j : Option Code) : LRel S' { l with state := st, pending := j } { L with state := st, pending := j } := by
 have y := x.ev h
 exact ⟨rfl, rfl, y.params, y.assign, y.body, y.size, y.vars, y.defers⟩
theorem write_loop [Outer] {S : Sit} (hR : Rel S) {id b wm : Nat} {l : ALoop} {L : Loop} (hi : S.ι id = some (b, wm)) (hB : S.H[id]? = some (.loop l)) (hL : S.w.heap[b]? = some (.loop L)) (hLR : LRel S l L) (st : LoopState) (j : Option Code) :
  Rel ⟨S.H.set id (.loop { l with state := st, pending := j }), S.ι, S.w.putObj b (.loop { L with state := st, pending := j })⟩ ∧
  Ev S ⟨S.H.set id (.loop { l with state := st, pending := j }), S.ι, S.w.putObj b (.loop { L with state := st, pending := j })⟩ := by
 have hev := Ev.write hR (w' := S.w.putObj b (.loop { L with state := st, pending := j })) (B' := .loop { l with state := st, pending := j }) hi hB rfl rfl put_other
 refine ⟨Rel.write hR hi hB rfl rfl put_other ⟨{ L with state := st, pending := j }, World.putObj_heap_same (Array.getElem?_eq_some_iff.1 hL).1, hLR.same hev st j⟩, hev⟩
theorem get_loop [Outer] {S : Sit} (hR : Rel S) {id b wm : Nat} {l : ALoop} (hi : S.ι id = some (b, wm)) (hB : S.H[id]? = some (.loop l)) : ∃ L, S.w.heap[b]? = some (.loop L) ∧ LRel S l L := by
 obtain ⟨B, hB', hr⟩ := hR.blk id b wm hi
 rw [hB] at hB'; cases hB'
 exact hr
theorem keepsD_set {H : List Blk} {id : Nat} {l : ALoop} {B : Blk} (hB : H[id]? = some (.loop l)) : keepsD H (H.set id B) := by
 intro j hj
 rw [List.getElem?_set_ne]
 ·exact hj
 ·rintro rfl; rw [hB] at hj; cases hj
theorem keepsD.trans {H H' H'' : List Blk} (h : keepsD H H') (h' : keepsD H' H'') : keepsD H H'' := fun id x => h' id (h id x)
theorem keepsD_append (H H2 : List Blk) : keepsD H (H ++ H2) := fun id x => by
 rw [List.getElem?_append_left (List.getElem?_eq_some_iff.1 x).1]; exact x
section
variable {g : Operand} {ps : Array Tmp} {assign body : Code} {σ : St} {f : FuncId} {first captured : List AV} {v fv : AV} {H2 : List Blk} {l' : ALoop} {e : AExit}
theorem range_end [Outer] {c : Value} {cro : Option Nat} {S0 : Sit} {idl : Nat} {ι' : Nat → Option (Nat × Nat)} {w3 : World} {a' : Act} {defs : List Nat} {b wm : Nat}
  (hR : Rel ⟨H2, ι', w3⟩) (hi : ι' idl = some (b, wm)) (hl : H2[idl]? = some (.loop l')) (hb : l'.state ≠ .busy) (hj : jumpTo l'.pending = some e)
  (hsz : a'.tmps.size = σ.n) (hvars : VarsRel ⟨H2, ι', w3⟩ σ.vars a'.tmps) (hdefs : DefRel ⟨H2, ι', w3⟩ defs a'.defers) (hev : Ev S0 ⟨H2, ι', w3⟩) (hnon : Non S0 ⟨H2, ι', w3⟩) :
  rangePost (Fr cro) 0 P b (Post S0 e { σ with H := H2.set idl (.loop { l' with state := .exhausted }), defs := defs }) a' (.returned c) w3 := by
 obtain ⟨L, hL, hLR⟩ := get_loop hR hi hl
 obtain ⟨hR4, hev4⟩ := write_loop hR hi hl hL hLR .exhausted l'.pending
 have hLp := hLR.pending
 have hLe : ({ L with state := .exhausted } : Loop) = { L with state := .exhausted, pending := l'.pending } := by rw [← hLp]
 refine ⟨L.pending, _, run_endLoop hL (by rw [hLR.state]; exact hb), ?_⟩
 have hs : SRel { σ with H := H2.set idl (.loop { l' with state := .exhausted }), defs := defs } ι' a' (w3.putObj b (.loop { L with state := .exhausted })) := by
  rw [hLe]
  exact ⟨hR4, hsz, hvars.ev hev4, hdefs.ev hev4 (keepsD_set hl)⟩
 have hev' : Ev S0 ⟨H2.set idl (.loop { l' with state := .exhausted }), ι', w3.putObj b (.loop { L with state := .exhausted })⟩ := by rw [hLe]; exact hev.trans hev4
 have hnon' : Non S0 ⟨H2.set idl (.loop { l' with state := .exhausted }), ι', w3.putObj b (.loop { L with state := .exhausted })⟩ := fun id h1 h2 => hnon id h1 h2
 unfold jumpTo at hj
 split at hj
 ·rename_i hp
  cases hj
  simp only [hLp, hp] at hs hev' hnon' ⊢
  exact ⟨ι', trivial, hs, hev', hnon'⟩
 ·rename_i hp
  cases hj
  simp only [hLp, hp] at hs hev' hnon' ⊢
  exact wpIn_ret ⟨ι', trivial, hs, hev', hnon'⟩
 ·rename_i hp
  cases hj
  simp only [hLp, hp] at hs hev' hnon' ⊢
  exact wpIn_exit ⟨ι', rfl, hs, hev', hnon'⟩
 ·cases hj
theorem range_call [Outer] {ι : Nat → Option (Nat × Nat)} {a : Act} {w : World} {cro : Option Nat} (hs : SRel σ ι a w) (hg : σ.eval g = some fv) (hf : fnOf fv = some (f, first, captured)) (hc : callable P f = true)
  {S1 : Sit} (hev : Ev ⟨σ.H, ι, w⟩ S1) (lb idl : Nat) (hi : ∃ wm, S1.ι idl = some (lb, wm)) (hn : notRow S1.H idl) :
  ∃ d cs, (resolve a.eval (rangeCall g lb) 0).run P S1.w = .ok d S1.w ∧ (∀ f', Target.leads P S1.w d.target d.args = some f' → (Fr cro).fn f') ∧
   (invoke d.target d.args).run P S1.w = .ok (.enter f cs) S1.w ∧ VRels S1 (first ++ [.yld idl] ++ captured) cs.toList := by
 have hfv := St.eval_sound hs g fv hg
 obtain ⟨F, C, hfe, h1, h2⟩ := fnOf_sound hf hfv
 refine ⟨{ target := .fn (.func f) C, args := F ++ #[.func (.yield lb) #[] #[]] }, F ++ #[.func (.yield lb) #[] #[]] ++ C, ?_, fun _ _ => Fr_fn _ _, ?_, ?_⟩
 ·simp only [resolve, hfe, Deferred.ofValue]
  simp [Act.eval]
 ·exact run_callFunc hc _ _
 ·obtain ⟨wm, hi⟩ := hi
  have hy : VRel S1 (.yld idl) (.func (.yield lb) #[] #[]) := by simp only [VRel]; exact ⟨lb, wm, hi, hn, rfl⟩
  have h1' := h1.ev hev
  have h2' := h2.ev hev
  have := (h1'.append (show VRels S1 [.yld idl] [.func (.yield lb) #[] #[]] from ⟨hy, trivial⟩)).append h2'
  simpa using this
theorem Run.rangeFunc_outer (hg : σ.eval g = some fv) (hf : fnOf fv = some (f, first, captured)) (hc : callable P f = true)
  (hcall : ACall P f (first ++ [.yld (σ.H.length + 1)] ++ captured) (σ.H ++ [.defd, .loop (loop0 σ ps assign body σ.H.length)]) (.ret v) H2)
  (hl : H2[σ.H.length + 1]? = some (.loop l')) (hb : l'.state ≠ .busy) (hd : keepsD (σ.H ++ [.defd]) H2) (hj : jumpTo l'.pending = some e) :
  Run P none (.rangeFunc g ps assign body) σ e { σ with H := H2.set (σ.H.length + 1) (.loop { l' with state := .exhausted }), defs := σ.H.length :: σ.defs } := by
 intro O ι a w cro hro hs
 have hcro : cro = none := hro
 subst hcro
 refine wpIn_rangeFunc fun fn _ => ?_
 have hR : Rel ⟨σ.H, ι, w⟩ := hs.rel
 -- the two blocks
 let w1 : World := w.alloc (.deferred (some []))
 let ι1 := upd ι σ.H.length (some (w.heap.size, 0))
 have e1 := Ev.alloc hR (w' := w1) (.defd) 0 rfl
 have hR1 : Rel ⟨σ.H ++ [.defd], ι1, w1⟩ := Rel.alloc hR (w' := w1) (.defd) 0 rfl (by show w1.heap[w.heap.size]? = _; exact World.alloc_heap_new _ _)
 have hlen : (σ.H ++ [Blk.defd]).length = σ.H.length + 1 := by simp
 have hw1 : w1.heap.size = w.heap.size + 1 := by simp [w1]
 let L : Loop := { state := .ready, pending := none, fn, tmps := a.tmps, params := ps, assign, body, defers := w.heap.size }
 let w2 : World := w1.alloc (.loop L)
 let ι2 := upd ι1 (σ.H ++ [Blk.defd]).length (some (w1.heap.size, 0))
 have e2 := Ev.alloc hR1 (w' := w2) (.loop (loop0 σ ps assign body σ.H.length)) 0 rfl
 have hd2 : ∃ wm, ι2 σ.H.length = some (w.heap.size, wm) := ⟨0, by
  show upd _ _ _ _ = _
  rw [upd_other _ _ _ _ (by rw [hlen]; omega)]; exact upd_same ..⟩
 have hR2 : Rel ⟨(σ.H ++ [.defd]) ++ [.loop (loop0 σ ps assign body σ.H.length)], ι2, w2⟩ := Rel.alloc hR1 (w' := w2) _ 0 rfl
  ⟨L, World.alloc_heap_new _ _, ⟨rfl, rfl, rfl, rfl, rfl, hs.size, (hs.vars.ev e1).ev e2, by
   obtain ⟨wm, h⟩ := hd2
   exact ⟨wm, h, ⟨.defd, by simp [loop0], rfl⟩⟩⟩⟩
 have happ : (σ.H ++ [Blk.defd]) ++ [.loop (loop0 σ ps assign body σ.H.length)] = σ.H ++ [.defd, .loop (loop0 σ ps assign body σ.H.length)] := by simp
 have hev2 : Ev ⟨σ.H, ι, w⟩ ⟨(σ.H ++ [.defd]) ++ [.loop (loop0 σ ps assign body σ.H.length)], ι2, w2⟩ := e1.trans e2
 have hnon2 : Non ⟨σ.H, ι, w⟩ ⟨(σ.H ++ [.defd]) ++ [.loop (loop0 σ ps assign body σ.H.length)], ι2, w2⟩ := Non.trans e1 Non.alloc Non.alloc
 rw [happ] at hR2 hev2 hnon2
 have hi2 : ι2 (σ.H.length + 1) = some (w.heap.size + 1, 0) := by
  show upd _ _ _ _ = _
  rw [← hlen, upd_same, hw1]
 have hn2 : notRow (σ.H ++ [.defd, .loop (loop0 σ ps assign body σ.H.length)]) (σ.H.length + 1) := ⟨.loop (loop0 σ ps assign body σ.H.length), by simp, rfl⟩
 obtain ⟨d, cs, hres, hlead, hinv, hargs⟩ := range_call (P := P) (cro := none) hs hg hf hc (S1 := ⟨_, ι2, w2⟩) hev2 (w.heap.size + 1) (σ.H.length + 1) ⟨0, hi2⟩ hn2
 refine ⟨w.heap.size + 1, [{ target := .collected w.heap.size, args := #[] }], w2, d, w2, f, cs, w2, ?_, hres, hlead, hinv, fun h => (by simp [Fr_depth] at h), ?_⟩
 ·exact run_enterLoop_outer fn a.tmps ps assign body
 ·have hcall' : CallsIn (Fr none) 0 P f cs w2 (EPost ⟨_, ι2, w2⟩ (.ret v) H2) := hcall _ ι2 w2 cs hR2 hargs
  refine hcall'.mono ?_
  rintro e' w3 ⟨ι', hend, hR3, hev3, hnon3⟩
  cases e' with
  | panicked chain => exact hend.elim
  | outgrown => exact hend.elim
  | returned c =>
   obtain ⟨wm', hi3⟩ := (hev3.ptr _ hn2).2 _ _ hi2
   refine range_end hR3 hi3 hl hb hj hs.size ((hs.vars.ev hev2).ev hev3) ?_ (hev2.trans hev3) (hnon2.trans hev2 hnon3)
   obtain ⟨wmd, hid⟩ := hd2
   have hnd : notRow (σ.H ++ [.defd, .loop (loop0 σ ps assign body σ.H.length)]) σ.H.length := ⟨.defd, by simp, rfl⟩
   obtain ⟨wmd', hid3⟩ := (hev3.ptr _ hnd).2 _ _ hid
   refine ⟨⟨w.heap.size, wmd', hid3, hd _ (by simp), rfl⟩, ?_⟩
   exact hs.defs.ev (hev2.trans hev3) fun id hid => hd id (keepsD_append _ _ id hid)
theorem Run.rangeFunc_inner {ido : Nat} {lo : ALoop} (ho : σ.H[ido]? = some (.loop lo)) (hg : σ.eval g = some fv) (hf : fnOf fv = some (f, first, captured)) (hc : callable P f = true)
  (hcall : ACall P f (first ++ [.yld σ.H.length] ++ captured) (σ.H ++ [.loop (loop0 σ ps assign body lo.defers)]) (.ret v) H2)
  (hl : H2[σ.H.length]? = some (.loop l')) (hb : l'.state ≠ .busy) (hd : keepsD σ.H H2) (hj : jumpTo l'.pending = some e) :
  Run P (some ido) (.rangeFunc g ps assign body) σ e { σ with H := H2.set σ.H.length (.loop { l' with state := .exhausted }) } := by
 intro O ι a w cro hro hs
 obtain ⟨bo, wmo, hio, hno, hcro⟩ := hro
 subst hcro
 refine wpIn_rangeFunc fun fn _ => ?_
 have hR : Rel ⟨σ.H, ι, w⟩ := hs.rel
 obtain ⟨Lo, hLo, hLRo⟩ := get_loop hR hio ho
 obtain ⟨wmd, hid, hnd⟩ := hLRo.defers
 let L : Loop := { state := .ready, pending := none, fn, tmps := a.tmps, params := ps, assign, body, defers := Lo.defers }
 let w2 : World := w.alloc (.loop L)
 let ι2 := upd ι σ.H.length (some (w.heap.size, 0))
 have hev2 := Ev.alloc hR (w' := w2) (.loop (loop0 σ ps assign body lo.defers)) 0 rfl
 have hnon2 : Non ⟨σ.H, ι, w⟩ ⟨σ.H ++ [.loop (loop0 σ ps assign body lo.defers)], ι2, w2⟩ := Non.alloc
 have hR2 : Rel ⟨σ.H ++ [.loop (loop0 σ ps assign body lo.defers)], ι2, w2⟩ := Rel.alloc hR (w' := w2) _ 0 rfl
  ⟨L, World.alloc_heap_new _ _, ⟨rfl, rfl, rfl, rfl, rfl, hs.size, hs.vars.ev hev2, by
   obtain ⟨hnd', hh⟩ := hev2.ptr _ hnd
   obtain ⟨wm', h⟩ := hh _ _ hid
   exact ⟨wm', h, hnd'⟩⟩⟩
 have hi2 : ι2 σ.H.length = some (w.heap.size, 0) := upd_same ..
 have hn2 : notRow (σ.H ++ [.loop (loop0 σ ps assign body lo.defers)]) σ.H.length := ⟨.loop (loop0 σ ps assign body lo.defers), by simp, rfl⟩
 obtain ⟨d, cs, hres, hlead, hinv, hargs⟩ := range_call (P := P) (cro := some bo) hs hg hf hc (S1 := ⟨_, ι2, w2⟩) hev2 w.heap.size σ.H.length ⟨0, hi2⟩ hn2
 refine ⟨w.heap.size, [], w2, d, w2, f, cs, w2, ?_, hres, hlead, hinv, fun h => (by simp [Fr_depth] at h), ?_⟩
 ·show (Instr.enterLoop fn a.tmps ps assign body (some bo)).run P w = _
  unfold Instr.enterLoop
  simp only [Sem.run_bind, run_getLoop hLo, Result.andThen, run_newObj_alloc, Sem.run_pure]
  rfl
 ·have hcall' : CallsIn (Fr (some bo)) 0 P f cs w2 (EPost ⟨_, ι2, w2⟩ (.ret v) H2) := hcall _ ι2 w2 cs hR2 hargs
  refine hcall'.mono ?_
  rintro e' w3 ⟨ι', hend, hR3, hev3, hnon3⟩
  cases e' with
  | panicked chain => exact hend.elim
  | outgrown => exact hend.elim
  | returned c =>
   obtain ⟨wm', hi3⟩ := (hev3.ptr _ hn2).2 _ _ hi2
   exact range_end (a' := { a with defers := [] ++ a.defers }) hR3 hi3 hl hb hj hs.size ((hs.vars.ev hev2).ev hev3) (hs.defs.ev (hev2.trans hev3) hd) (hev2.trans hev3) (hnon2.trans hev2 hnon3)
end
noncomputable def putParams : Trie AV → List Nat → List AV → Trie AV
 | vars, t :: ts, a :: as => putParams (set vars t a) ts as
 | vars, _, _ => vars
theorem putParams_rel [Outer] {S : Sit} : ∀ (ts : List Nat) (as : List AV) (cs : List Value) (vars : Trie AV) (tmps : Array Value), VRels S as cs → VarsRel S vars tmps → (∀ t ∈ ts, t < tmps.size) → ts.length = as.length →
  VarsRel S (putParams vars ts as) ((ts.zip cs).foldl (fun tmps (t, a) => tmps.setIfInBounds t a) tmps) ∧ ((ts.zip cs).foldl (fun tmps (t, a) => tmps.setIfInBounds t a) tmps).size = tmps.size
 | [], as, cs, vars, tmps, _, hv, _, _ => by simp [putParams, hv]
 | t :: ts, [], _, _, _, _, _, _, hl => by simp at hl
 | t :: ts, a :: as, [], _, _, h, _, _, _ => by simp [VRels] at h
 | t :: ts, a :: as, c :: cs, vars, tmps, h, hv, ht, hl => by
  simp only [VRels] at h
  have := putParams_rel ts as cs (set vars t a) (tmps.setIfInBounds t c) h.2 (hv.set (ht t (by simp)) h.1) (fun t' h' => by rw [Array.size_setIfInBounds]; exact ht t' (by simp [h'])) (by simpa using hl)
  refine ⟨this.1, ?_⟩
  have h2 := this.2
  rw [Array.size_setIfInBounds] at h2
  simpa using h2
def jumpOf : AExit → Option (Option Code)
 | .normal => some none
 | .ret => some (some .ret)
 | .exit i => some (some (.exit i))
 | .pan _ => none
theorem ARound.intro {id : Nat} {l l1 l2 : ALoop} {args : List AV} {H : List Blk} {σ1 σ2 : St} {e : AExit} {j : Option Code} (hl : H[id]? = some (.loop l)) (hlen : args.length = l.params.size) (hp : ∀ t ∈ l.params, t < l.n)
    (ha : Run P (some id) l.assign ⟨l.n, putParams l.vars l.params.toList args, H, []⟩ .normal σ1) (hl1 : σ1.H[id]? = some (.loop l1)) (hst : l1.state = .ready)
    (hb : Run P (some id) l.body { σ1 with H := σ1.H.set id (.loop { l1 with state := .busy }) } e σ2) (hl2 : σ2.H[id]? = some (.loop l2)) (hj : jumpOf e = some j) :
    ARound P id args H (.ret (.lit (.bool j.isNone))) (σ2.H.set id (.loop { l2 with state := if j.isNone then .ready else .done, pending := j })) := by
  intro O ι w b wm L cs hR hi hn hL hcs hargs
  obtain ⟨L', hL', hLR⟩ := get_loop hR hi hl
  have hL'' : w.heap[b]? = some (.loop L') := hL'
  rw [hL] at hL''; cases hL''
  refine roundIn_of_wpIn (Fr_fn _ _) ?_
  have hpar := putParams_rel (S := ⟨H, ι, w⟩) l.params.toList args cs.toList l.vars L.tmps hargs hLR.vars (fun t ht => by rw [hLR.size]; exact hp t (by simpa using ht)) (by simpa using hlen.symm)
  have hfold : (L.params.zip cs).foldl (fun tmps (x : Tmp × Value) => tmps.setIfInBounds x.1 x.2) L.tmps = (l.params.toList.zip cs.toList).foldl (fun tmps (x : Tmp × Value) => tmps.setIfInBounds x.1 x.2) L.tmps := by
    rw [hLR.params, ← Array.foldl_toList, Array.toList_zip]
  have hs0 : SRel ⟨l.n, putParams l.vars l.params.toList args, H, []⟩ ι { tmps := (L.params.zip cs).foldl (fun tmps (x : Tmp × Value) => tmps.setIfInBounds x.1 x.2) L.tmps, defers := [] } w := by
    rw [hfold]
    exact ⟨hR, hpar.2.trans hLR.size, hpar.1, trivial⟩
  have hro0 : RoRel ⟨H, ι, w⟩ (some id) (some b) := ⟨b, wm, hi, hn, rfl⟩
  have h1 := ha _ ι _ w (some b) hro0 hs0
  rw [← hLR.assign] at h1
  refine wpIn_mono h1 ?_
  rintro e1 a1 w1 ⟨ι1, hx, hs1, hev1, hnon1⟩
  cases e1 <;> try exact hx.elim
  obtain ⟨hn1, hi1⟩ := hev1.ptr id hn
  obtain ⟨wm1, hi1⟩ := hi1 b wm hi
  obtain ⟨L1, hL1, hLR1⟩ := get_loop hs1.rel hi1 hl1
  obtain ⟨hRb, hevb⟩ := write_loop hs1.rel hi1 hl1 hL1 hLR1 .busy l1.pending
  have hLb : ({ L1 with state := .busy } : Loop) = { L1 with state := .busy, pending := l1.pending } := by rw [← hLR1.pending]
  refine ⟨_, run_beginRound hL1 (by rw [hLR1.state]; exact hst), ?_⟩
  rw [hLb]
  have hsb : SRel { σ1 with H := σ1.H.set id (.loop { l1 with state := .busy }) } ι1 a1 (w1.putObj b (.loop { L1 with state := .busy, pending := l1.pending })) :=
    ⟨hRb, hs1.size, hs1.vars.ev hevb, hs1.defs.ev hevb (keepsD_set hl1)⟩
  have hnb := (hevb.ptr id hn1).1
  have h2 := hb _ ι1 a1 _ (some b) ⟨b, wm1, hi1, hnb, rfl⟩ hsb
  have hLbody : L.body = l.body := hLR.body
  rw [hLbody]
  refine wpIn_mono h2 ?_
  rintro e2 a2 w2 ⟨ι2, hx2, hs2, hev2, hnon2⟩
  obtain ⟨wm2, hi2⟩ := (hev2.ptr id hnb).2 b wm1 hi1
  obtain ⟨L2, hL2, hLR2⟩ := get_loop hs2.rel hi2 hl2
  have fin : ∀ j : Option Code, ∃ v w', (Instr.endRound b j).run P w2 = .ok v w' ∧
      EPost ⟨H, ι, w⟩ (.ret (.lit (.bool j.isNone))) (σ2.H.set id (.loop { l2 with state := if j.isNone then .ready else .done, pending := j })) (.returned v) w' := by
    intro j
    obtain ⟨hR3, hev3⟩ := write_loop hs2.rel hi2 hl2 hL2 hLR2 (if j.isNone then .ready else .done) j
    refine ⟨_, _, run_endRound j hL2, ι2, by simp [EndRel, VRel], hR3, ((hev1.trans hevb).trans hev2).trans hev3, ?_⟩
    intro id' h1 h2
    exact hnon2 id' (hevb.ptr id' (hev1.ptr id' h1).1).1 (hnon1 id' h1 h2)
  cases e with
  | normal => cases e2 <;> first | exact hx2.elim | (cases hj; exact fin _)
  | ret => cases e2 <;> first | exact hx2.elim | (cases hj; exact fin _)
  | exit i =>
    cases e2 <;> first | exact hx2.elim | skip
    have hx2 : i = _ := hx2
    subst hx2
    cases hj; exact fin _
  | pan v => cases hj
def spend : List Nat → List Blk → List Blk
 | [], H => H
 | id :: ids, H => spend ids (H.set id .spent)
theorem leaves_marks [Outer] {fn : Func} {tmps : Array Value} {R : Ending → World → Prop} : ∀ (ids : List Nat) (H : List Blk) (ι : Nat → Option (Nat × Nat)) (w : World) (ds : List Deferred), Rel ⟨H, ι, w⟩ → DefRel ⟨H, ι, w⟩ ids ds → ids.Nodup →
  (∀ w', Rel ⟨spend ids H, ι, w'⟩ → Ev ⟨H, ι, w⟩ ⟨spend ids H, ι, w'⟩ → LeavesIn (Fr none) 0 P fn tmps R [] .returning w') → LeavesInM (Fr none) 0 P fn tmps R ds .returning w
 | [], H, ι, w, [], hR, _, _, h => h w hR (Ev.refl _)
 | [], _, _, _, _ :: _, _, x, _, _ => x.elim
 | _ :: _, _, _, _, [], _, x, _, _ => x.elim
 | id :: ids, H, ι, w, d :: ds, hR, x, hnd, h => by
  obtain ⟨⟨b, wm, hi, hB, hx⟩, x2⟩ := x
  obtain ⟨B, hB', hr⟩ := hR.blk id b wm hi
  have hB'' : H[id]? = some B := hB'
  rw [hB] at hB''; cases hB''
  have hK : w.heap[b]? = some (.deferred (some [])) := hr
  have hev := Ev.write hR (w' := w.putObj b (.deferred none)) (B' := .spent) hi hB rfl rfl put_other
  have hR' : Rel ⟨H.set id .spent, ι, w.putObj b (.deferred none)⟩ := Rel.write hR hi hB rfl rfl put_other ⟨_, World.putObj_heap_same (Array.getElem?_eq_some_iff.1 hK).1⟩
  refine ⟨by simp, .inl ⟨b, _, by rw [hx], run_takeDeferred hK, ?_⟩⟩
  rw [List.nodup_cons] at hnd
  refine leaves_marks ids _ ι _ ds hR' ?_ hnd.2 fun w' h1 h2 => h w' h1 (hev.trans h2)
  -- the other marks are as they were
  have key : ∀ (ids : List Nat) (ds : List Deferred), id ∉ ids → DefRel ⟨H, ι, w⟩ ids ds → DefRel ⟨H.set id .spent, ι, w.putObj b (.deferred none)⟩ ids ds := by
   intro ids
   induction ids with
   | nil => intro ds _ hx; cases ds <;> exact hx
   | cons i ids ih =>
    intro ds hni hx
    cases ds with
    | nil => exact hx.elim
    | cons d ds =>
     obtain ⟨⟨b', wm', hi', hB', hx'⟩, hx2⟩ := hx
     have hne : id ≠ i := fun e => hni (by simp [e])
     exact ⟨⟨b', wm', hi', by show (H.set id .spent)[i]? = _; rw [List.getElem?_set_ne hne]; exact hB', hx'⟩, ih ds (fun h => hni (by simp [h])) hx2⟩
  exact key ids ds hnd.1 x2
theorem ACall.intro_marks {f : FuncId} {fn : Func} {c : Code} {args : List AV} {H : List Blk} {e : AExit} {σ' : St} {vs : List AV} (hf : P.funcs[f]? = some fn) (hb : fn.body = some c) (hn : args.length ≤ fn.ntmps)
  (hrun : Run P none c ⟨fn.ntmps, initVars 0 args, H, []⟩ e σ') (he : e = .ret ∨ e = .normal) (hnd : σ'.defs.Nodup) (hres : resA P { σ' with H := spend σ'.defs σ'.H } fn.results.toList = some vs) :
  ACall P f args H (.ret (resV vs)) (spend σ'.defs σ'.H) := by
 intro O ι w cs hR hargs
 have hlen := hargs.length
 simp only [Array.length_toList] at hlen
 refine callsIn_of_wp_marks hf hb trivial (wpIn_mono (hrun _ ι { tmps := cs ++ Array.replicate (fn.ntmps - cs.size) undef, defers := [] } w none rfl ⟨hR, ?_, ?_, trivial⟩) ?_)
 ·simp; omega
 ·intro t v hg
  rw [get_initVars] at hg
  simp only [Nat.not_lt_zero, if_false, Nat.sub_zero] at hg
  obtain ⟨d, hd1, hr⟩ := hargs.get hg
  refine ⟨d, ?_, hr⟩
  have ht : t < cs.size := by
   have := (List.getElem?_eq_some_iff.1 hd1).1
   simpa using this
  rw [Array.getElem?_append_left ht]
  simpa using hd1
 ·rintro e' a' w' ⟨ι', hx, hs, hev, hnon⟩
  have key : LeavesInM (Fr none) 0 P fn a'.tmps (EPost ⟨H, ι, w⟩ (.ret (resV vs)) (spend σ'.defs σ'.H)) a'.defers .returning w' := by
   refine leaves_marks σ'.defs σ'.H ι' w' a'.defers hs.rel hs.defs hnd fun w'' hR'' hev'' => ?_
   have hs'' : SRel { σ' with H := spend σ'.defs σ'.H, defs := [] } ι' { tmps := a'.tmps, defers := [] } w'' := ⟨hR'', hs.size, hs.vars.ev hev'', trivial⟩
   have hres' : resA P { σ' with H := spend σ'.defs σ'.H, defs := [] } fn.results.toList = some vs := by
    rw [← hres]
    have : ∀ rs, resA P { σ' with H := spend σ'.defs σ'.H, defs := [] } rs = resA P { σ' with H := spend σ'.defs σ'.H } rs := by
     intro rs
     induction rs with
     | nil => rfl
     | cons r rs ih => cases r <;> simp only [resA, ih]
    exact this _
   obtain ⟨v, hv, hrel⟩ := results_run hs'' hres'
   refine ⟨v, hv, ι', hrel, hR'', hev.trans hev'', ?_⟩
   intro id h1 h2
   exact hnon id h1 h2
  rcases he with rfl | rfl
  ·cases e' <;> first
    | exact key
    | exact hx.elim
  ·cases e' <;> first
    | exact key
    | exact hx.elim
theorem ACall.cut {f : FuncId} {args : List AV} {H H' : List Blk} {r : AV} (h : ACall P f args H (.ret r) H') (hr : r.under H.length) (hb : ∀ B ∈ H'.take H.length, B.under H.length) :
  ACall P f args H (.ret r) (H'.take H.length) := by
 intro O ι w cs hR hargs
 have hcall : CallsIn (Fr none) 0 P f cs w (EPost ⟨H, ι, w⟩ (.ret r) H') := h _ ι w cs hR hargs
 refine hcall.mono ?_
 rintro e w' ⟨ι', hend, hR', hev, hnon⟩
 cases e with
 | panicked chain => exact hend.elim
 | outgrown => exact hend.elim
 | returned c => exact ⟨cutι ι' H.length, VRel.cut (S := ⟨H', ι', w'⟩) r c hr hend, Rel.cut hR' hb, hev.cut, hnon.cut⟩
theorem stepR_scope {b : Frame} {a : Act} {k : List Item} {cs : List Frame} {w : World} {c : Code} : step P (lone (b.atR a (.code (.scope c) :: k)) cs w) = .next (lone (b.atR a (.code c :: .inScope c :: k)) cs w) :=
 step_lone_go (by simp [stepG, stepG.exec, Frame.atR])
theorem stepR_inScope {b : Frame} {a : Act} {k : List Item} {cs : List Frame} {w : World} {c : Code} : step P (lone (b.atR a (.inScope c :: k)) cs w) = .next (lone (b.atR a k) cs w) :=
 step_lone_go (by simp [stepG, stepG.exec, Frame.atR])
theorem Run.scope {ro : Option Nat} {σ σ' : St} {e : AExit} {c : Code} (h : Run P ro c σ e σ') : Run P ro (.scope c) σ e σ' := by
 intro O ι a w cro hro hs b k cs hbro hb hr
 have h0 : (lone (b.atR a (.code (.scope c) :: k)) cs w).fenced P (Fr cro) := fenced_calm hb hr rfl
 obtain ⟨e1, a1, w1, hp, harr⟩ := h _ ι a w cro hro hs b (.inScope c :: k) cs hbro hb hr
 refine ⟨e1, a1, w1, hp, ?_⟩
 obtain ⟨ι1, hx, _⟩ := hp
 cases e1 with
 | normal => exact StepsIn.trans (.one h0 stepR_scope) (StepsIn.trans harr (.one (fenced_calm hb hr rfl) stepR_inScope))
 | goto l => cases e <;> exact hx.elim
 | exit id => exact .of_steps (e := .exit id) (.one h0 stepR_scope) ⟨fun k' hk => harr.1 k' (by simp [exitTo, hk]), fun hr' hk => harr.2 hr' (by simp [exitTo, hk])⟩
 | ret => exact .of_steps (e := .ret) (.one h0 stepR_scope) harr
 | panic ch => exact .of_steps (e := .panic ch) (.one h0 stepR_scope) harr
 | outgrown => exact .of_steps (e := .outgrown) (.one h0 stepR_scope) harr
end Go.Vm

namespace Go.Vm
variable {P : Program}
structure Pass (O O' : Outer) (H H' : List Blk) (ι ι' : Nat → Option (Nat × Nat)) (w : World) (n : Nat) : Prop where
 heap : ∀ id, id < n → H'[id]? = H[id]?
 names : ∀ id, id < n → ι' id = ι id
 fix : ∀ b lim, @Fix O ⟨H, ι, w⟩ b lim → @Fix O' ⟨H', ι', w⟩ b lim
section
variable {O O' : Outer} {H H' : List Blk} {ι ι' : Nat → Option (Nat × Nat)} {w : World} {n : Nat}
theorem notRow.pass (p : Pass O O' H H' ι ι' w n) {id : Nat} (hlt : id < n) (h : notRow H id) : notRow H' id := by
 obtain ⟨B, hB, hr⟩ := h
 exact ⟨B, by rw [p.heap id hlt]; exact hB, hr⟩
theorem TailRel.pass (p : Pass O O' H H' ι ι' w n) {tail : Tail} {base : Option Addr} {len cap k : Nat}
  (x : TailRel ⟨H, ι, w⟩ tail base len cap k) (hb : tail.under n) : TailRel ⟨H', ι', w⟩ tail base len cap k := by
 cases tail with
 | unk => trivial
 | full => exact x
 | own id g sz =>
  have hlt : id < n := hb
  obtain ⟨hn, g0, h0, hle, hx⟩ := x
  refine ⟨hn, g0, by show H'[id]? = _; rw [p.heap id hlt]; exact h0, hle, fun hg => ?_⟩
  rcases hx hg with a | ⟨b, o, C, t, hb, hi, hC, hs⟩
  ·exact .inl a
  ·exact .inr ⟨b, o, C, t, hb, (p.names id hlt).trans hi, hC, hs⟩
theorem MRef.pass (p : Pass O O' H H' ι ι' w n) {id gen : Nat} {K : Nat → Nat → Prop} (x : MRef ⟨H, ι, w⟩ id gen K) (hb : id < n) : MRef ⟨H', ι', w⟩ id gen K := by
 obtain ⟨B, g, hB, hm, hle, k⟩ := x
 refine ⟨B, g, by show H'[id]? = _; rw [p.heap id hb]; exact hB, hm, hle, fun hg hc => ?_⟩
 obtain ⟨b, wm, C, t, hi, hC, hK⟩ := k hg hc
 exact ⟨b, wm, C, t, (p.names id hb).trans hi, hC, hK⟩
mutual
theorem VRel.pass (p : Pass O O' H H' ι ι' w n) : ∀ (a : AV) (c : Value), a.under n → @VRel O ⟨H, ι, w⟩ a c → @VRel O' ⟨H', ι', w⟩ a c
 | .lit v, c, _, x => by simpa [VRel] using x
 | .agg cells, c, hb, x => by
  simp only [VRel, AV.under] at x hb ⊢
  obtain ⟨C, hc, hr⟩ := x
  exact ⟨C, hc, VRels.pass p cells _ hb hr⟩
 | .tup vs, c, hb, x => by
  simp only [VRel, AV.under] at x hb ⊢
  obtain ⟨C, hc, hr⟩ := x
  exact ⟨C, hc, VRels.pass p vs _ hb hr⟩
 | .ptr id off, c, hb, x => by
  simp only [VRel, AV.under] at x hb ⊢
  obtain ⟨b, wm, hi, hn, hc⟩ := x
  exact ⟨b, wm, (p.names id hb).trans hi, hn.pass p hb, hc⟩
 | .eptr cells, c, hb, x => by
  simp only [VRel, AV.under] at x hb ⊢
  obtain ⟨b, o, hc, hf, hr⟩ := x
  exact ⟨b, o, hc, p.fix _ _ hf, VRow.pass p b cells o hb hr⟩
 | .sl len cells tail, c, hb, x => by
  simp only [VRel, AV.under] at x hb ⊢
  obtain ⟨base, cap, hc, hle, hcells, ht⟩ := x
  refine ⟨base, cap, hc, hle, ?_, ht.pass p hb.2⟩
  rcases hcells with hcells | ⟨b, o, hb', hf, hr⟩
  ·exact .inl hcells
  ·exact .inr ⟨b, o, hb', p.fix _ _ hf, VRow.pass p b cells o hb.1 hr⟩
 | .hsl id off len cap, c, hb, x => by
  simp only [VRel, AV.under] at x hb ⊢
  obtain ⟨b, wm, hi, hn, hc⟩ := x
  exact ⟨b, wm, (p.names id hb).trans hi, hn.pass p hb, hc⟩
 | .mp id, c, hb, x => by
  simp only [VRel, AV.under] at x hb ⊢
  obtain ⟨b, wm, hi, hn, hc⟩ := x
  exact ⟨b, wm, (p.names id hb).trans hi, hn.pass p hb, hc⟩
 | .fn f first captured, c, hb, x => by
  simp only [VRel, AV.under] at x hb ⊢
  obtain ⟨F, C, hc, h1, h2⟩ := x
  exact ⟨F, C, hc, VRels.pass p first _ hb.1 h1, VRels.pass p captured _ hb.2 h2⟩
 | .yld id, c, hb, x => by
  simp only [VRel, AV.under] at x hb ⊢
  obtain ⟨b, wm, hi, hn, hc⟩ := x
  exact ⟨b, wm, (p.names id hb).trans hi, hn.pass p hb, hc⟩
 | .iface t v, c, hb, x => by
  simp only [VRel, AV.under] at x hb ⊢
  obtain ⟨y, hc, hr⟩ := x
  exact ⟨y, hc, VRel.pass p v y hb hr⟩
 | .msl id gen len sz, c, hb, x => by
  simp only [VRel, AV.under] at x hb ⊢
  obtain ⟨base, cap, hc, hle, hm⟩ := x
  exact ⟨base, cap, hc, hle, hm.pass p hb⟩
 | .mptr id gen off, c, hb, x => by
  simp only [VRel, AV.under] at x hb ⊢
  obtain ⟨b, o, hc, hm⟩ := x
  exact ⟨b, o, hc, hm.pass p hb⟩
 | .mpx, c, hb, x => by
  simp only [VRel] at x ⊢
  exact x
theorem VRels.pass (p : Pass O O' H H' ι ι' w n) : ∀ (as : List AV) (cs : List Value), AV.unders n as → @VRels O ⟨H, ι, w⟩ as cs → @VRels O' ⟨H', ι', w⟩ as cs
 | [], [], _, x => by simp [VRels]
 | [], _ :: _, _, x => by simp [VRels] at x
 | _ :: _, [], _, x => by simp [VRels] at x
 | a :: as, c :: cs, hb, x => by
  simp only [VRels, AV.unders] at x hb ⊢
  exact ⟨VRel.pass p a c hb.1 x.1, VRels.pass p as cs hb.2 x.2⟩
theorem VRow.pass (p : Pass O O' H H' ι ι' w n) (b : Nat) : ∀ (as : List AV) (o : Nat), AV.unders n as → @VRow O ⟨H, ι, w⟩ b o as → @VRow O' ⟨H', ι', w⟩ b o as
 | [], o, _, _ => by simp [VRow]
 | a :: as, o, hb, x => by
  simp only [VRow, AV.unders] at x hb ⊢
  obtain ⟨⟨c, hc, hr⟩, x2⟩ := x
  exact ⟨⟨c, hc, VRel.pass p a c hb.1 hr⟩, VRow.pass p b as (o + 1) hb.2 x2⟩
end
theorem VarsRel.pass (p : Pass O O' H H' ι ι' w n) {vars : Trie AV} {tmps : Array Value} (x : @VarsRel O ⟨H, ι, w⟩ vars tmps)
  (hb : ∀ t v, get vars t = some v → v.under n) : @VarsRel O' ⟨H', ι', w⟩ vars tmps := by
 intro t v hg
 obtain ⟨c, hc, hr⟩ := x t v hg
 exact ⟨c, hc, VRel.pass p v c (hb t v hg) hr⟩
theorem BlkRel.pass (p : Pass O O' H H' ι ι' w n) {b wm : Nat} {B : Blk} (x : @BlkRel O ⟨H, ι, w⟩ b wm B) (hb : B.under n) : @BlkRel O' ⟨H', ι', w⟩ b wm B := by
 cases B with
 | box cells t => obtain ⟨C, h1, h2⟩ := x; exact ⟨C, h1, VRels.pass p _ _ hb h2⟩
 | row g => exact x
 | mrow g cells => obtain ⟨C, t, h1, h2⟩ := x; exact ⟨C, t, h1, VRels.pass p _ _ hb h2⟩
 | map sh es =>
  obtain ⟨E, c, h1, ⟨es2, hp, k1, k2⟩, keys, nodup, stamps, born⟩ := x
  refine ⟨E, c, h1, ?_, keys, nodup, stamps, born⟩
  refine ⟨es2, hp, k1, VRels.pass p _ _ ?_ k2⟩
  rw [AV.unders_mem]; intro a ha; exact AV.unders_mem.1 hb a ((hp.map _).mem_iff.1 ha)
 | loop l =>
  obtain ⟨L, h1, s1, s2, s3, s4, s5, s6, s7, wm', hi, hn⟩ := x
  refine ⟨L, h1, ⟨s1, s2, s3, s4, s5, s6, VarsRel.pass p s7 hb.1, ?_⟩⟩
  exact ⟨wm', (p.names _ hb.2).trans hi, hn.pass p hb.2⟩
 | defd => exact x
 | iterS s pos => exact x
 | spent => exact x
 | obj o => exact x
def AEnd.under (n : Nat) : AEnd → Prop
 | .ret v => v.under n
 | .pan v => v.under n
theorem EndRel.pass (p : Pass O O' H H' ι ι' w n) {r : AEnd} {e : Ending} (hb : r.under n) (x : @EndRel O ⟨H, ι, w⟩ r e) : @EndRel O' ⟨H', ι', w⟩ r e := by
 cases r with
 | ret v => cases e <;> first | exact x.elim | exact VRel.pass p v _ hb x
 | pan v =>
  cases e with
  | panicked chain => obtain ⟨c, h1, h2⟩ := x; exact ⟨c, h1, VRel.pass p v _ hb h2⟩
  | _ => exact x.elim
end
open Classical in
@[reducible] noncomputable def hideO (O : Outer) (H : List Blk) (ι : Nat → Option (Nat × Nat)) (n : Nat) : Outer :=
 ⟨fun b => if h : ∃ p : Nat × Nat, n ≤ p.1 ∧ ι p.1 = some (b, p.2) then some (match H[h.choose.1]? with | some (.row _) => some h.choose.2 | _ => none) else O.out b⟩
theorem hideO_named {O : Outer} {H : List Blk} {ι : Nat → Option (Nat × Nat)} {n : Nat} (hinj : ∀ i j b wm wm', ι i = some (b, wm) → ι j = some (b, wm') → i = j)
  {id b wm : Nat} (hle : n ≤ id) (hi : ι id = some (b, wm)) : (hideO O H ι n).out b = some (match H[id]? with | some (.row _) => some wm | _ => none) := by
 have h : ∃ p : Nat × Nat, n ≤ p.1 ∧ ι p.1 = some (b, p.2) := ⟨(id, wm), hle, hi⟩
 unfold hideO
 simp only
 rw [dif_pos h]
 have hc := h.choose_spec
 have e1 : h.choose.1 = id := hinj _ _ _ _ _ hc.2 hi
 have e2 : h.choose.2 = wm := by
  have := hc.2; rw [e1, hi] at this; simp only [Option.some.injEq, Prod.mk.injEq, true_and] at this; exact this.symm
 rw [e1, e2]
theorem hideO_other {O : Outer} {H : List Blk} {ι : Nat → Option (Nat × Nat)} {n b : Nat} (h : ∀ id wm, n ≤ id → ι id ≠ some (b, wm)) : (hideO O H ι n).out b = O.out b := by
 unfold hideO
 simp only
 rw [dif_neg]
 rintro ⟨p, h1, h2⟩
 exact h _ _ h1 h2
theorem ACall.frame {f : FuncId} {args : List AV} {H0 H0' : List Blk} {r : AEnd} (h : ACall P f args H0 r H0') (hl : H0'.length = H0.length) (ha : AV.unders H0.length args) (hr : r.under H0.length)
  (hb : ∀ B ∈ H0, B.under H0.length) (hb' : ∀ B ∈ H0', B.under H0.length) (H2 : List Blk) : ACall P f args (H0 ++ H2) r (H0' ++ H2) := by
 intro O ι w cs hR hargs
 have hR1 : @Rel O ⟨H0 ++ H2, ι, w⟩ := hR
 have look : ∀ id, id < H0.length → (H0 ++ H2)[id]? = H0[id]? := fun id hlt => List.getElem?_append_left hlt
 have look' : ∀ id, id < H0.length → (H0' ++ H2)[id]? = H0'[id]? := fun id hlt => List.getElem?_append_left (by omega)
 have over : ∀ id, ¬ id < H0.length → (H0' ++ H2)[id]? = (H0 ++ H2)[id]? := fun id hge => by
  rw [List.getElem?_append_right (by omega), List.getElem?_append_right (by omega), hl]
 have cut_lt : ∀ id p, cutι ι H0.length id = some p → id < H0.length ∧ ι id = some p := by
  intro id p e
  unfold cutι at e
  split at e
  ·exact ⟨by assumption, e⟩
  ·cases e
 have cut_of : ∀ id, id < H0.length → cutι ι H0.length id = ι id := fun id hlt => by simp [cutι, hlt]
 have spec1 : ∀ {id b wm : Nat}, H0.length ≤ id → ι id = some (b, wm) → (hideO O (H0 ++ H2) ι H0.length).out b = some (match (H0 ++ H2)[id]? with | some (.row _) => some wm | _ => none) :=
  fun hle hi => hideO_named hR1.inj hle hi
 have spec2 : ∀ {b : Nat}, (∀ id wm, H0.length ≤ id → ι id ≠ some (b, wm)) → (hideO O (H0 ++ H2) ι H0.length).out b = O.out b := fun hx => hideO_other hx
 have p0 : Pass O (hideO O (H0 ++ H2) ι H0.length) (H0 ++ H2) H0 ι (cutι ι H0.length) w H0.length := by
  refine ⟨fun id hlt => (look id hlt).symm, cut_of, fun b lim hF => ?_⟩
  obtain ⟨C, t, f, a, hl, r, ro⟩ := hF
  refine ⟨C, t, f, a, hl, fun id wm e => ?_, fun x e => ?_⟩
  ·obtain ⟨hlt, e'⟩ := cut_lt id _ e
   obtain ⟨⟨g, hg⟩, hle⟩ := r id wm e'
   have hg' : (H0 ++ H2)[id]? = some (.row g) := hg
   rw [look id hlt] at hg'
   exact ⟨⟨g, hg'⟩, hle⟩
  ·by_cases hx : ∃ id wm, H0.length ≤ id ∧ ι id = some (b, wm)
   ·obtain ⟨id, wm, hle, hi⟩ := hx
    rw [spec1 hle hi] at e
    obtain ⟨⟨g, hg⟩, hlw⟩ := r id wm hi
    have hg' : (H0 ++ H2)[id]? = some (.row g) := hg
    rw [hg'] at e
    cases e
    exact ⟨wm, rfl, hlw⟩
   ·rw [spec2 fun id wm hle hi => hx ⟨id, wm, hle, hi⟩] at e
    exact ro x e
 have hR0 : @Rel (hideO O (H0 ++ H2) ι H0.length) ⟨H0, cutι ι H0.length, w⟩ := by
  refine @Rel.mk (hideO O (H0 ++ H2) ι H0.length) _ (fun id b wm e => ?_) (fun i j b wm wm' ei ej => ?_) (fun b x e => ?_)
  ·obtain ⟨hlt, e'⟩ := cut_lt id _ e
   obtain ⟨B, hB, hr⟩ := hR1.blk id b wm e'
   have hB' : (H0 ++ H2)[id]? = some B := hB
   rw [look id hlt] at hB'
   exact ⟨B, hB', hr.pass p0 (hb B (List.mem_of_getElem? hB'))⟩
  ·exact hR1.inj i j b wm wm' (cut_lt i _ ei).2 (cut_lt j _ ej).2
  ·by_cases hx : ∃ id wm, H0.length ≤ id ∧ ι id = some (b, wm)
   ·obtain ⟨id, wm, hle, hi⟩ := hx
    refine ⟨hR1.block hi, fun i wm1 e1 => ?_⟩
    obtain ⟨hlt, e'⟩ := cut_lt i _ e1
    have := hR1.inj i id b wm1 wm e' hi
    omega
   ·have e' : O.out b = some x := by rw [← spec2 fun id wm hle hi => hx ⟨id, wm, hle, hi⟩]; exact e
    obtain ⟨k1, k2⟩ := hR1.out b x e'
    exact ⟨k1, fun i wm1 e1 => k2 i wm1 (cut_lt i _ e1).2⟩
 have hargs0 := VRels.pass p0 args cs.toList ha hargs
 have hcall := h (hideO O (H0 ++ H2) ι H0.length) (cutι ι H0.length) w cs hR0 hargs0
 refine hcall.mono ?_
 rintro e w' ⟨ι', hend, hR', hev, hnon⟩
 have hR1' : @Rel (hideO O (H0 ++ H2) ι H0.length) ⟨H0', ι', w'⟩ := hR'
 have hsame : ∀ {id b wm : Nat}, H0.length ≤ id → ι id = some (b, wm) → w'.heap[b]? = w.heap[b]? := fun hle hi => @Ev.out (hideO O (H0 ++ H2) ι H0.length) _ _ hev _ _ (spec1 hle hi)
 have nlt : ∀ id, id < H0.length → (fun id => if id < H0.length then ι' id else ι id) id = ι' id := fun id hlt => by simp [hlt]
 have nge : ∀ id, ¬ id < H0.length → (fun id => if id < H0.length then ι' id else ι id) id = ι id := fun id hlt => by simp [hlt]
 have nohide : ∀ {b : Nat} {x : Option Nat}, O.out b = some x → (hideO O (H0 ++ H2) ι H0.length).out b = some x := fun {b x} e => by
  rw [spec2 fun id wm _ hi => (hR1.out b x e).2 id wm hi]; exact e
 have p1 : Pass (hideO O (H0 ++ H2) ι H0.length) O H0' (H0' ++ H2) ι' (fun id => if id < H0.length then ι' id else ι id) w' H0.length := by
  refine ⟨look', nlt, fun b lim hF => ?_⟩
  obtain ⟨C, t, f, a, hl, r, ro⟩ := hF
  refine ⟨C, t, f, a, hl, fun id wm e => ?_, fun x e => ro x (nohide e)⟩
  by_cases hlt : id < H0.length
  ·have e' : ι' id = some (b, wm) := (nlt id hlt).symm.trans e
   obtain ⟨⟨g, hg⟩, hle⟩ := r id wm e'
   have hg' : H0'[id]? = some (.row g) := hg
   exact ⟨⟨g, (look' id hlt).trans hg'⟩, hle⟩
  ·have e' : ι id = some (b, wm) := (nge id hlt).symm.trans e
   obtain ⟨l, hl1, hl2⟩ := ro _ (spec1 (by omega) e')
   have key : (∃ g, (H0 ++ H2)[id]? = some (.row g)) ∧ l = wm := by
    split at hl1
    ·rename_i g hg; cases hl1; exact ⟨⟨g, hg⟩, rfl⟩
    ·cases hl1
   obtain ⟨⟨g, hg⟩, rfl⟩ := key
   exact ⟨⟨g, (over id hlt).trans hg⟩, hl2⟩
 have hrest : Rest w w' := @Ev.rest (hideO O (H0 ++ H2) ι H0.length) _ _ hev
 have hev' : @Ev O ⟨H0 ++ H2, ι, w⟩ ⟨H0' ++ H2, fun id => if id < H0.length then ι' id else ι id, w'⟩ := by
  refine @Ev.mk O _ _ (fun id hn => ?_) (fun b lim hF => ?_) (fun id g0 hg => ?_) (fun id g0 c0 hg => ?_) (fun b x e => @Ev.out (hideO O (H0 ++ H2) ι H0.length) _ _ hev b x (nohide e)) hrest
  ·by_cases hlt : id < H0.length
   ·have hn0 : notRow H0 id := by
     obtain ⟨B, hB, hr⟩ := hn
     have hB' : (H0 ++ H2)[id]? = some B := hB
     exact ⟨B, (look id hlt).symm.trans hB', hr⟩
    obtain ⟨k1, k2⟩ := @Ev.ptr (hideO O (H0 ++ H2) ι H0.length) _ _ hev id hn0
    refine ⟨notRow.pass p1 hlt k1, fun b wm e => ?_⟩
    obtain ⟨wm', k3⟩ := k2 b wm ((cut_of id hlt).trans e)
    exact ⟨wm', (nlt id hlt).trans k3⟩
   ·refine ⟨?_, fun b wm e => ⟨wm, (nge id hlt).trans e⟩⟩
    obtain ⟨B, hB, hr⟩ := hn
    exact ⟨B, (over id hlt).trans hB, hr⟩
  ·obtain ⟨k1, k2⟩ := @Ev.fix (hideO O (H0 ++ H2) ι H0.length) _ _ hev b lim (p0.fix b lim hF)
   exact ⟨p1.fix b lim k1, k2⟩
  ·have hg' : (H0 ++ H2)[id]? = some (.row g0) := hg
   by_cases hlt : id < H0.length
   ·rw [look id hlt] at hg'
    obtain ⟨g1, k1, k2, k3⟩ := @Ev.tok (hideO O (H0 ++ H2) ι H0.length) _ _ hev id g0 hg'
    refine ⟨g1, (look' id hlt).trans k1, k2, fun e => ?_⟩
    obtain ⟨k4, k5⟩ := k3 e
    refine ⟨(nlt id hlt).trans (k4.trans (cut_of id hlt)), fun b wm C t hi hC => k5 b wm C t ((cut_of id hlt).trans hi) hC⟩
   ·refine ⟨g0, (over id hlt).trans hg', Nat.le_refl _, fun _ => ⟨nge id hlt, fun b wm C t hi hC => ⟨C, t, ?_, rfl⟩⟩⟩
    exact (hsame (by omega) hi).trans hC
  ·have hg' : (H0 ++ H2)[id]? = some (.mrow g0 c0) := hg
   by_cases hlt : id < H0.length
   ·rw [look id hlt] at hg'
    obtain ⟨B, g1, k1, km, k2, k3⟩ := @Ev.mtok (hideO O (H0 ++ H2) ι H0.length) _ _ hev id g0 c0 hg'
    refine ⟨B, g1, (look' id hlt).trans k1, km, k2, fun e => ?_⟩
    obtain ⟨k6, k4, k5⟩ := k3 e
    exact ⟨k6, (nlt id hlt).trans (k4.trans (cut_of id hlt)), fun b wm C t hi hC => k5 b wm C t ((cut_of id hlt).trans hi) hC⟩
   ·refine ⟨_, g0, (over id hlt).trans hg', rfl, Nat.le_refl _, fun _ => ⟨⟨c0, rfl⟩, nge id hlt, fun b wm C t hi hC => ⟨C, t, ?_, rfl⟩⟩⟩
    exact (hsame (by omega) hi).trans hC
 refine ⟨fun id => if id < H0.length then ι' id else ι id, EndRel.pass p1 hr hend, ?_, hev', fun id hn hnone => ?_⟩
 ·refine @Rel.mk O _ (fun id b wm e => ?_) (fun i j b wm wm' ei ej => ?_) (fun b x e => ?_)
  ·by_cases hlt : id < H0.length
   ·obtain ⟨B, hB, hr⟩ := @Rel.blk (hideO O (H0 ++ H2) ι H0.length) _ hR1' id b wm ((nlt id hlt).symm.trans e)
    exact ⟨B, (look' id hlt).trans hB, hr.pass p1 (hb' B (List.mem_of_getElem? hB))⟩
   ·have e' : ι id = some (b, wm) := (nge id hlt).symm.trans e
    obtain ⟨B, hB, hr⟩ := hR1.blk id b wm e'
    exact ⟨B, (over id hlt).trans hB, hr.ev hev' (hsame (by omega) e')⟩
  ·by_cases h1 : i < H0.length
   ·have ei' := (nlt i h1).symm.trans ei
    by_cases h2 : j < H0.length
    ·exact @Rel.inj (hideO O (H0 ++ H2) ι H0.length) _ hR1' i j b wm wm' ei' ((nlt j h2).symm.trans ej)
    ·exact absurd ei' ((@Rel.out (hideO O (H0 ++ H2) ι H0.length) _ hR1' b _ (spec1 (by omega) ((nge j h2).symm.trans ej))).2 i wm)
   ·have ei' := (nge i h1).symm.trans ei
    by_cases h2 : j < H0.length
    ·exact absurd ((nlt j h2).symm.trans ej) ((@Rel.out (hideO O (H0 ++ H2) ι H0.length) _ hR1' b _ (spec1 (by omega) ei')).2 j wm')
    ·exact hR1.inj i j b wm wm' ei' ((nge j h2).symm.trans ej)
  ·obtain ⟨k1, k2⟩ := @Rel.out (hideO O (H0 ++ H2) ι H0.length) _ hR1' b x (nohide e)
   refine ⟨k1, fun id wm hi => ?_⟩
   by_cases hlt : id < H0.length
   ·exact k2 id wm ((nlt id hlt).symm.trans hi)
   ·exact (hR1.out b x e).2 id wm ((nge id hlt).symm.trans hi)
 ·by_cases hlt : id < H0.length
  ·have hn0 : notRow H0 id := by
    obtain ⟨B, hB, hr⟩ := hn
    have hB' : (H0 ++ H2)[id]? = some B := hB
    exact ⟨B, (look id hlt).symm.trans hB', hr⟩
   exact (nlt id hlt).trans (hnon id hn0 ((cut_of id hlt).trans hnone))
  ·exact (nge id hlt).trans hnone
theorem ACall.frame_nil {f : FuncId} {args : List AV} {r : AEnd} (h : ACall P f args [] r []) (ha : AV.unders 0 args) (hr : r.under 0) (H : List Blk) : ACall P f args H r H :=
 h.frame (H0 := []) rfl ha hr (fun _ h => by cases h) (fun _ h => by cases h) H
def Tail.forget : Tail → Tail
 | .own _ _ _ => .unk
 | t => t
mutual
def AV.forget : AV → AV
 | .lit v => .lit v
 | .agg cells => .agg (AV.forgets cells)
 | .tup vs => .tup (AV.forgets vs)
 | .ptr id off => .ptr id off
 | .eptr cells => .eptr (AV.forgets cells)
 | .sl len cells tail => .sl len (AV.forgets cells) tail.forget
 | .hsl id off len cap => .hsl id off len cap
 | .mp _ => .mpx
 | .fn f first captured => .fn f (AV.forgets first) (AV.forgets captured)
 | .yld id => .yld id
 | .iface t v => .iface t (AV.forget v)
 | .msl id gen len sz => .msl id gen len sz
 | .mptr id gen off => .mptr id gen off
 | .mpx => .mpx
def AV.forgets : List AV → List AV
 | [] => []
 | a :: as => AV.forget a :: AV.forgets as
end
theorem AV.forgets_length : ∀ l : List AV, (AV.forgets l).length = l.length
 | [] => rfl
 | a :: l => by simp [AV.forgets, AV.forgets_length l]
section
variable [Outer]
mutual
theorem VRel.forget {S : Sit} : ∀ (a : AV) (c : Value), VRel S a c → VRel S a.forget c
 | .lit v, c, x => by simpa only [AV.forget] using x
 | .agg cells, c, x => by
  simp only [VRel, AV.forget] at x ⊢
  obtain ⟨C, hc, hr⟩ := x
  exact ⟨C, hc, VRels.forget cells _ hr⟩
 | .tup vs, c, x => by
  simp only [VRel, AV.forget] at x ⊢
  obtain ⟨C, hc, hr⟩ := x
  exact ⟨C, hc, VRels.forget vs _ hr⟩
 | .ptr id off, c, x => by simpa only [AV.forget] using x
 | .eptr cells, c, x => by
  simp only [VRel, AV.forget] at x ⊢
  obtain ⟨b, o, hc, hf, hr⟩ := x
  exact ⟨b, o, hc, by rw [AV.forgets_length]; exact hf, VRow.forget b cells o hr⟩
 | .sl len cells tail, c, x => by
  simp only [VRel, AV.forget] at x ⊢
  obtain ⟨base, cap, hc, hle, hcells, ht⟩ := x
  refine ⟨base, cap, hc, hle, ?_, ?_⟩
  ·rcases hcells with hcells | ⟨b, o, hb', hf, hr⟩
   ·subst hcells; exact .inl rfl
   ·exact .inr ⟨b, o, hb', by rw [AV.forgets_length]; exact hf, VRow.forget b cells o hr⟩
  ·cases tail with
   | unk => trivial
   | full => exact ht
   | own id g sz => trivial
 | .hsl id off len cap, c, x => by simpa only [AV.forget] using x
 | .mp id, c, x => by
  simp only [VRel, AV.forget] at x ⊢
  obtain ⟨b, wm, _, _, hc⟩ := x
  exact ⟨_, hc⟩
 | .fn f first captured, c, x => by
  simp only [VRel, AV.forget] at x ⊢
  obtain ⟨F, C, hc, h1, h2⟩ := x
  exact ⟨F, C, hc, VRels.forget first _ h1, VRels.forget captured _ h2⟩
 | .yld id, c, x => by simpa only [AV.forget] using x
 | .iface t v, c, x => by
  simp only [VRel, AV.forget] at x ⊢
  obtain ⟨y, hc, hr⟩ := x
  exact ⟨y, hc, VRel.forget v y hr⟩
 | .msl id gen len sz, c, x => by simpa only [AV.forget] using x
 | .mptr id gen off, c, x => by simpa only [AV.forget] using x
 | .mpx, c, x => by simpa only [AV.forget] using x
theorem VRels.forget {S : Sit} : ∀ (as : List AV) (cs : List Value), VRels S as cs → VRels S (AV.forgets as) cs
 | [], [], x => by simp [VRels, AV.forgets]
 | [], _ :: _, x => by simp [VRels] at x
 | _ :: _, [], x => by simp [VRels] at x
 | a :: as, c :: cs, x => by
  simp only [VRels, AV.forgets] at x ⊢
  exact ⟨VRel.forget a c x.1, VRels.forget as cs x.2⟩
theorem VRow.forget {S : Sit} (b : Nat) : ∀ (as : List AV) (o : Nat), VRow S b o as → VRow S b o (AV.forgets as)
 | [], o, _ => by simp [VRow, AV.forgets]
 | a :: as, o, x => by
  simp only [VRow, AV.forgets] at x ⊢
  obtain ⟨⟨c, hc, hr⟩, x2⟩ := x
  exact ⟨⟨c, hc, VRel.forget a c hr⟩, VRow.forget b as (o + 1) x2⟩
end
end
theorem ACall.forget_args {f : FuncId} {args : List AV} {H H' : List Blk} {r : AEnd} (h : ACall P f (AV.forgets args) H r H') : ACall P f args H r H' :=
 fun O ι w cs hR hargs => h O ι w cs hR (VRels.forget _ _ hargs)
theorem ACall.forget_ret {f : FuncId} {args : List AV} {H H' : List Blk} {v : AV} (h : ACall P f args H (.ret v) H') : ACall P f args H (.ret v.forget) H' := by
 intro O ι w cs hR hargs
 refine (h O ι w cs hR hargs).mono ?_
 rintro e w' ⟨ι', hend, hR', hev, hnon⟩
 cases e with
 | returned c => exact ⟨ι', VRel.forget _ _ hend, hR', hev, hnon⟩
 | panicked chain => exact hend.elim
 | outgrown => exact hend.elim
theorem ACall.alone {f : FuncId} {args : List AV} {H' : List Blk} {v : AV} (h : ACall P f (AV.forgets args) [] (.ret v) H') (ha : AV.unders 0 (AV.forgets args)) (hr : v.forget.under 0) (H : List Blk) :
  ACall P f args H (.ret v.forget) H := by
 have h1 : ACall P f (AV.forgets args) [] (.ret v.forget) (H'.take 0) := h.forget_ret.cut (H := []) hr (fun B hB => by simp at hB)
 exact (ACall.frame_nil (r := .ret v.forget) (by simpa using h1) ha hr H).forget_args
end Go.Vm

namespace Go.Vm
inductive Dl where
 | same
 | push (B : Blk)
 | set (id : Nat) (B : Blk)
def Dl.app (H : List Blk) : Dl → List Blk
 | .same => H
 | .push B => H ++ [B]
 | .set id B => H.set id B
inductive DR where
 | val (v : AV) (d : Dl)
 | call (f : FuncId) (args : List AV)
 | round (id : Nat) (args : List AV)
 | pan (v : AV)
def DR.app (H : List Blk) : DR → AR
 | .val v d => .val v (d.app H)
 | .call f args => .call f args
 | .round id args => .round id args
 | .pan v => .pan v
def DR.okD (H : List Blk) : DR → Prop
 | .val _ (.set id B) => ∃ B0, H[id]? = some B0 ∧ B0 ≠ .defd ∧ (B.loose = true → B0.loose = true)
 | _ => True
def noLo : Nat := 1000000000
section
variable (P : Program) (m : Bool) (g : Nat → Option Blk) (n : Nat) (ρ : Operand → Option AV)
def loadT (t : TypeId) (x : AV) : Option AV :=
 match x with
 | .ptr id off => match g id with
  | some (.box cells _) => loadA P t (cells.drop off)
  | _ => none
 | .eptr cells => loadA P t cells
 | .mptr id gen off => match g id with
  | some (.mrow g0 cells) => bif Nat.beq g0 gen then loadA P t (cells.drop off) else none
  | _ => none
 | _ => none
def storeT (t : TypeId) (x v : AV) : Option Dl :=
 match x with
 | .ptr id off => match g id, tsz P t with
  | some (.box cells bt), some n => if v.cellsOf.length = n ∧ off + n ≤ cells.length ∧ v.cellsOf.all AV.one = true then some (.set id (.box (splice cells off v.cellsOf) bt)) else none
  | _, _ => none
 | .mptr id gen off => match g id, tsz P t with
  | some (.mrow g0 cells), some n => if g0 = gen ∧ v.cellsOf.length = n ∧ off + n ≤ cells.length ∧ v.cellsOf.all AV.one = true then some (.set id (.mrow g0 (splice cells off v.cellsOf))) else none
  | _, _ => none
 | _ => none
def srcT (size : Nat) (x : AV) : Option (Nat × List AV) :=
 match x with
 | .hsl id off len _ => match g id with
  | some (.box cells _) => if off + len * size ≤ cells.length then some (len, (cells.drop off).take (len * size)) else none
  | _ => none
 | .msl id gen len _ => match g id with
  | some (.mrow g0 cells) => if g0 = gen ∧ len * size ≤ cells.length then some (len, cells.take (len * size)) else none
  | _ => none
 | x => srcCells [] size x
def appT (sT xT : TypeId) (s x : AV) : Option (AV × Dl) :=
 match tslice P sT with
 | none => none
 | some e =>
  match tsz P e, tz P e, tbytes P e with
  | some size, some z, some bytes =>
   if tsrc P xT && (decide (bytes ≤ 2097152) && decide (z.cells.size = size)) then
    match srcT g size x with
    | none => none
    | some (k, new) =>
     match s with
     | .lit (.slice none 0 0) =>
      if k = 0 then some (s, .same)
      else if k ≤ 2097152 then (if m then some (.msl n 0 k size, .push (.mrow 0 new)) else some (.sl k new (.own n 0 size), .push (.row 0))) else none
     | .msl id gen len sz =>
      if k = 0 then some (s, .same)
      else match g id with
       | some (.mrow g0 cells) => if gen = g0 ∧ sz = size ∧ cells.length = len * size ∧ len + k ≤ 2097152 ∧ new.all AV.one = true then some (.msl id (g0 + 1) (len + k) size, .set id (.mrow (g0 + 1) (cells ++ new))) else none
       | _ => none
     | .sl len cells tail =>
      if k = 0 then some (s, .same)
      else if cells.length = len * size ∧ len + k ≤ 2097152 then
       match tail with
       | .unk => none
       | .full => if m then some (.msl n 0 (len + k) size, .push (.mrow 0 (cells ++ new))) else some (.sl (len + k) (cells ++ new) (.own n 0 size), .push (.row 0))
       | .own id gen sz =>
        match g id with
        | some (.row g0) => if gen = g0 ∧ sz = size ∧ new.all AV.one = true then some (.sl (len + k) (cells ++ new) (.own id (gen + 1) size), .set id (.row (gen + 1))) else none
        | _ => none
      else none
     | _ => none
   else none
  | _, _, _ => none
def plainT (o : Oper) : Option DR :=
 match aop P m [] ρ o with
 | some (.val v _) => some (.val v .same)
 | _ => none
def callT (args : List AV) (c : Call) : Option DR :=
 match c.callee with
 | .value f => match ρ f with
  | none => none
  | some (.yld id) => match g id with
   | some (.loop l) => if args.length = l.params.size then some (.round id args) else none
   | _ => none
  | some fv => match fnOf fv with
   | some (f, first, captured) => some (.call f (first ++ args ++ captured))
   | none => none
 | .invoke r name => match ρ r with
  | some (.iface t v) => (methodA P t name).map fun f => .call f (v :: args)
  | _ => none
 | .builtin .len => match c.argTypes[0]?, args with
  | some t, [.mp id] => match P.underlying t, g id with
   | some (.map _ _), some (.map _ es) => some (.val (.lit (.int .i64 (es.length : Int))) .same)
   | _, _ => none
  | some t, [x] => (lenA P [] t x).map fun (n : Nat) => .val (.lit (.int .i64 (n : Int))) .same
  | _, _ => none
 | .builtin .append => match c.argTypes[0]?, c.argTypes[1]?, args with
  | some sT, some xT, [s, x] => (appT P m g n sT xT s x).map fun p => .val p.1 p.2
  | _, _, _ => none
 | .builtin .max => match args with
  | [.lit (.int k a), .lit (.int _ b)] => some (.val (.lit (.int k (if b > a then b else a))) .same)
  | _ => none
 | .builtin .min => match args with
  | [.lit (.int k a), .lit (.int _ b)] => some (.val (.lit (.int k (if b < a then b else a))) .same)
  | _ => none
 | _ => none
def aopT (o : Oper) : Option DR :=
  match o.op with
  | .alloc t => (tz P t).map fun z => .val (.ptr n 0) (.push (.box (z.cells.toList.map .lit) t))
  | .box t x => (ρ x).map fun v => .val (.ptr n 0) (.push (.box v.cellsOf t))
  | .load t x => match ρ x with
    | some a => (loadT P g t a).map fun v => .val v .same
    | none => none
  | .store t x y => match ρ x, ρ y with
    | some a, some u => (storeT P g t a u).map fun d => .val (.lit undef) d
    | _, _ => none
  | .makeMap t none => (tmap P t).map fun p => .val (.mp n) (.push (.map p.1 []))
  | .makeSlice t l c => match ρ l, ρ c with
    | some a, some b => (makeSliceA P t a b).map fun p => .val (.hsl n 0 p.1 p.2.1) (.push (.box p.2.2.2 p.2.2.1))
    | _, _ => none
  | .range t x => match P.underlying t, ρ x with
    | some .string, some (.lit (.string s)) => some (.val (.ptr n 0) (.push (.iterS s 0)))
    | _, _ => none
  | .next x true => match ρ x with
    | some (.ptr id 0) => match g id with
      | some (.iterS s pos) => if pos < s.size then some (.val (.tup [.lit (.bool true), .lit (goInt pos), .lit (.int .i32 (Utf8.decode s pos).1)]) (.set id (.iterS s (pos + (Utf8.decode s pos).2))))
          else some (.val (.tup [.lit (.bool false)]) .same)
      | _ => none
    | _ => none
  | .lookup t x k ok => match ρ x, ρ k with
    | some (.mp id), some b => match tmap P t, conc b with
      | some (sh, _, e), some v => match g id, tz P e with
        | some (.map sh' es), some z =>
          if sh.same sh' = true ∧ shOk sh v = true then
            match mlook es v with
            | some a => some (.val (if ok = true then .tup [a, .lit (.bool true)] else a) .same)
            | none => some (.val (if ok = true then .tup [.lit z, .lit (.bool false)] else .lit z) .same)
          else none
        | _, _ => none
      | _, _ => none
    | _, _ => none
  | .mapUpdate t x k y | .insert t x k y => match ρ x, ρ k, ρ y with
    | some (.mp id), some b, some c => match tmap P t, conc b with
      | some (sh, _, _), some u => match g id with
        | some (.map sh' es) => if sh.same sh' = true ∧ shOk sh u = true then some (.val (.lit undef) (.set id (.map sh' (mset es u c)))) else none
        | _ => none
      | _, _ => none
    | _, _, _ => none
  | .panic x => match ρ x with
    | some (.iface t v) => some (.pan (.iface t v))
    | _ => none
  | .call c => match aevs ρ c.args.toList with
    | none => none
    | some args => callT P m g n ρ args c
  | _ => plainT P m ρ o
end
section
variable {P : Program} {m : Bool} {g : Nat → Option Blk} {H : List Blk} {ρ : Operand → Option AV} (hg : ∀ id B, g id = some B → H[id]? = some B)
theorem HLe_nil (H : List Blk) : HLe [] H := fun id B h => by simp at h
include hg
theorem loadT_sound {t : TypeId} {x v : AV} (h : loadT P g t x = some v) : loadOp P H t x = some v := by
 unfold loadT at h
 unfold loadOp cellsAt
 split at h
 ·split at h
  ·rename_i hB; simp [hg _ _ hB, h]
  ·cases h
 ·exact h
 ·split at h
  ·rename_i hB
   cases hb : Nat.beq _ _ with
   | false => rw [hb] at h; cases h
   | true =>
    rw [hb] at h
    have e := Nat.eq_of_beq_eq_true hb
    simp only [hg _ _ hB, e, if_true]
    exact h
  ·cases h
 ·cases h
theorem storeT_sound {t : TypeId} {x v : AV} {d : Dl} (h : storeT P g t x v = some d) : storeOp P H t x v = some (d.app H) ∧ ∃ id B, d = .set id B ∧ ∃ B0, H[id]? = some B0 ∧ B0 ≠ .defd ∧ (B.loose = true → B0.loose = true) := by
 unfold storeT at h
 unfold storeOp
 split at h
 ·split at h
  ·rename_i cells bt n hB hn
   split at h
   ·rename_i hc; cases h
    simp only [hg _ _ hB, hn]
    rw [if_pos hc]
    exact ⟨rfl, _, _, rfl, _, hg _ _ hB, by simp, by simp [Blk.loose]⟩
   ·cases h
  ·cases h
 ·split at h
  ·rename_i g0 cells n hB hn
   split at h
   ·rename_i hc; cases h
    simp only [hg _ _ hB, hn]
    rw [if_pos hc]
    exact ⟨rfl, _, _, rfl, _, hg _ _ hB, by simp, by simp [Blk.loose]⟩
   ·cases h
  ·cases h
 ·cases h
theorem srcT_sound {size : Nat} {x : AV} {p : Nat × List AV} (h : srcT g size x = some p) : srcCells H size x = some p := by
 unfold srcT at h
 split at h
 ·split at h
  ·rename_i hB; simp only [srcCells, hg _ _ hB]; exact h
  ·cases h
 ·split at h
  ·rename_i hB; simp only [srcCells, hg _ _ hB]; exact h
  ·cases h
 ·exact srcCells_le (HLe_nil H) h
theorem appT_sound {n : Nat} (hn : H.length = n) {sT xT : TypeId} {s x : AV} {p : AV × Dl} (h : appT P m g n sT xT s x = some p) :
  appA P m H sT xT s x = some (p.1, p.2.app H) ∧ DR.okD H (.val p.1 p.2) := by
 unfold appT at h
 unfold appA
 cases h1 : tslice P sT with
 | none => rw [h1] at h; cases h
 | some e =>
 rw [h1] at h
 simp only at h ⊢
 cases h2 : tsz P e with
 | none => rw [h2] at h; cases h
 | some size =>
 cases h3 : tz P e with
 | none => rw [h2, h3] at h; cases h
 | some z =>
 cases h4 : tbytes P e with
 | none => rw [h2, h3, h4] at h; cases h
 | some bytes =>
 rw [h2, h3, h4] at h
 simp only at h ⊢
 split at h
 case isFalse => cases h
 rename_i hc
 rw [if_pos hc]
 cases h5 : srcT g size x with
 | none => rw [h5] at h; cases h
 | some q =>
 obtain ⟨k, new⟩ := q
 rw [h5] at h
 rw [srcT_sound hg h5]
 simp only at h ⊢
 split at h
 ·split at h
  ·rename_i hk; cases h; rw [if_pos hk]; exact ⟨rfl, trivial⟩
  ·rename_i hk
   rw [if_neg hk]
   split at h
   ·rename_i hk2
    rw [if_pos hk2]
    split at h
    ·rename_i hm; cases h; rw [if_pos hm]; simp [hn, Dl.app, DR.okD]
    ·rename_i hm; cases h; rw [if_neg hm]; simp [hn, Dl.app, DR.okD]
   ·cases h
 ·dsimp only
  split at h
  ·rename_i hk; cases h; rw [if_pos hk]; exact ⟨rfl, trivial⟩
  ·rename_i hk
   rw [if_neg hk]
   split at h
   ·rename_i hB
    rw [hg _ _ hB]
    simp only
    split at h
    ·rename_i hk2; cases h; rw [if_pos hk2]; exact ⟨rfl, _, hg _ _ hB, by simp, by simp [Blk.loose]⟩
    ·cases h
   ·cases h
 ·dsimp only
  split at h
  ·rename_i hk; cases h; rw [if_pos hk]; exact ⟨rfl, trivial⟩
  ·rename_i hk
   rw [if_neg hk]
   split at h
   ·rename_i hk2
    rw [if_pos hk2]
    split at h
    ·cases h
    ·split at h
     ·rename_i hm; cases h; simp only; rw [if_pos hm]; simp [hn, Dl.app, DR.okD]
     ·rename_i hm; cases h; simp only; rw [if_neg hm]; simp [hn, Dl.app, DR.okD]
    ·split at h
     ·rename_i hB
      simp only
      rw [hg _ _ hB]
      simp only
      split at h
      ·rename_i hk2; cases h; rw [if_pos hk2]; exact ⟨rfl, _, hg _ _ hB, by simp, by simp [Blk.loose]⟩
      ·cases h
     ·cases h
   ·cases h
 ·cases h
omit hg in
theorem plainT_sound {o : Oper} {r : DR} (hk : okind o = .plain) (h : plainT P m ρ o = some r) : aop P m H ρ o = some (r.app H) ∧ r.okD H := by
 unfold plainT at h
 split at h
 ·rename_i v H1 ha
  cases h
  exact ⟨(plain_le (HLe_nil H) hk ha).2, trivial⟩
 ·cases h
theorem callT_sound {n : Nat} (hn : H.length = n) {args : List AV} {c : Call} {r : DR} {dst : Option Tmp} {ty : TypeId} {pos : String} {after : Array Edge} {guard : Option (Nat × Bool)}
  (ha : aevs ρ c.args.toList = some args) (h : callT P m g n ρ args c = some r) : aop P m H ρ ⟨dst, .call c, ty, pos, after, guard⟩ = some (r.app H) ∧ r.okD H := by
 unfold callT at h
 simp only [aop, ha]
 split at h
 ·rename_i f hf
  rw [hf]
  simp only
  split at h
  ·cases h
  ·rename_i id hid
   rw [hid]
   simp only
   split at h
   ·rename_i l hl
    rw [hg _ _ hl]
    simp only
    split at h
    ·rename_i hlen; cases h; rw [if_pos hlen]; exact ⟨rfl, trivial⟩
    ·cases h
   ·cases h
  ·rename_i fv hnot hfv
   rw [hfv]
   simp only
   split at h
   ·rename_i f' first captured hfn
    cases h
    cases fv with
    | yld id => exact absurd rfl (hnot id)
    | _ => simp only [hfn]; exact ⟨rfl, trivial⟩
   ·cases h
 ·rename_i rv name hf
  rw [hf]
  simp only
  split at h
  ·rename_i t v hv
   rw [hv]
   obtain ⟨f, hm, rfl⟩ := map_some h
   simp only [hm]
   exact ⟨rfl, trivial⟩
  ·cases h
 ·rename_i hf
  rw [hf]
  simp only
  split at h
  ·rename_i t id ht
   rw [ht]
   split at h
   ·rename_i k e sh es hu hB
    cases h
    simp only [lenA, hu, hg _ _ hB]
    exact ⟨rfl, trivial⟩
   ·cases h
  ·rename_i t x hnot ht
   rw [ht]
   obtain ⟨k, hk, rfl⟩ := map_some h
   simp only [lenA_le (HLe_nil H) hk]
   exact ⟨rfl, trivial⟩
  ·cases h
 ·rename_i hf
  rw [hf]
  simp only
  split at h
  ·rename_i sT xT s x h1 h2
   rw [h1, h2]
   obtain ⟨p, hp, rfl⟩ := map_some h
   obtain ⟨k1, k2⟩ := appT_sound hg hn hp
   simp only [k1]
   exact ⟨rfl, k2⟩
  ·cases h
 ·rename_i hf
  rw [hf]
  split at h
  ·cases h; exact ⟨rfl, trivial⟩
  ·cases h
 ·rename_i hf
  rw [hf]
  split at h
  ·cases h; exact ⟨rfl, trivial⟩
  ·cases h
 ·cases h
theorem aopT_sound {n : Nat} (hn : H.length = n) {o : Oper} {r : DR} (h : aopT P m g n ρ o = some r) : aop P m H ρ o = some (r.app H) ∧ r.okD H := by
 obtain ⟨dst, op, ty, pos, after, guard⟩ := o
 unfold aopT at h
 cases op with
 | alloc t =>
  obtain ⟨z, hz, rfl⟩ := map_some h
  simp [aop, hz, DR.app, Dl.app, DR.okD, hn]
 | box t x =>
  obtain ⟨z, hz, rfl⟩ := map_some h
  simp [aop, hz, DR.app, Dl.app, DR.okD, hn]
 | load t x =>
  simp only at h
  split at h
  ·rename_i a ha
   obtain ⟨v, hv, rfl⟩ := map_some h
   simp only [aop, ha, Option.bind_some, loadT_sound hg hv]
   exact ⟨rfl, trivial⟩
  ·cases h
 | store t x y =>
  simp only at h
  split at h
  ·rename_i a u ha hu
   obtain ⟨d, hd, rfl⟩ := map_some h
   obtain ⟨k1, id, B, rfl, k2⟩ := storeT_sound hg hd
   simp only [aop, ha, hu, k1]
   exact ⟨rfl, k2⟩
  ·cases h
 | makeMap t r =>
  cases r with
  | none =>
   obtain ⟨z, hz, rfl⟩ := map_some h
   simp [aop, hz, DR.app, Dl.app, DR.okD, hn]
  | some x =>
   simp only [plainT, aop] at h
   cases h
 | makeSlice t l c =>
  simp only at h
  split at h
  ·rename_i a b ha hb
   obtain ⟨p, hp, rfl⟩ := map_some h
   simp [aop, ha, hb, hp, DR.app, Dl.app, DR.okD, hn]
  ·cases h
 | range t x =>
  simp only at h
  split at h
  ·rename_i s h1 h2
   cases h
   simp [aop, h1, h2, DR.app, Dl.app, DR.okD, hn]
  ·cases h
 | next x s =>
  cases s with
  | false => simp only [plainT, aop] at h; cases h
  | true =>
   simp only at h
   split at h
   ·rename_i id hx
    split at h
    ·rename_i s pos hB
     split at h
     ·rename_i hlt
      cases h
      simp only [aop, hx, hg _ _ hB, if_pos hlt]
      exact ⟨rfl, _, hg _ _ hB, by simp, by simp [Blk.loose]⟩
     ·rename_i hlt
      cases h
      simp only [aop, hx, hg _ _ hB, if_neg hlt]
      exact ⟨rfl, trivial⟩
    ·cases h
   ·cases h
 | lookup t x k ok =>
  simp only at h
  split at h
  ·rename_i id b hx hk
   split at h
   ·rename_i sh kt e v hm hv
    split at h
    ·rename_i sh' es z hB hz
     split at h
     ·rename_i hc
      simp only [aop, hx, hk, lookupOp, hm, hv, hg _ _ hB, hz, if_pos hc]
      split at h
      ·rename_i a hl; cases h; rw [hl]; exact ⟨rfl, trivial⟩
      ·rename_i hl; cases h; rw [hl]; exact ⟨rfl, trivial⟩
     ·cases h
    ·cases h
   ·cases h
  ·cases h
 | mapUpdate t x k y =>
  simp only at h
  split at h
  ·rename_i id b c hx hk hy
   split at h
   ·rename_i sh kt e u hm hv
    split at h
    ·rename_i sh' es hB
     split at h
     ·rename_i hc
      cases h
      simp only [aop, hx, hk, hy, updateOp, hm, hv, hg _ _ hB, if_pos hc]
      exact ⟨rfl, _, hg _ _ hB, by simp, by simp [Blk.loose]⟩
     ·cases h
    ·cases h
   ·cases h
  ·cases h
 | insert t x k y =>
  simp only at h
  split at h
  ·rename_i id b c hx hk hy
   split at h
   ·rename_i sh kt e u hm hv
    split at h
    ·rename_i sh' es hB
     split at h
     ·rename_i hc
      cases h
      simp only [aop, hx, hk, hy, updateOp, hm, hv, hg _ _ hB, if_pos hc]
      exact ⟨rfl, _, hg _ _ hB, by simp, by simp [Blk.loose]⟩
     ·cases h
    ·cases h
   ·cases h
  ·cases h
 | panic x =>
  simp only at h
  split at h
  ·rename_i t v hx
   cases h
   simp only [aop, hx]
   exact ⟨rfl, trivial⟩
  ·cases h
 | call c =>
  simp only at h
  split at h
  ·cases h
  ·rename_i args ha
   exact callT_sound hg hn ha h
 | _ => exact plainT_sound rfl h
end
end Go.Vm

namespace Go.Vm
abbrev Arm := Program → Bool → (Nat → Option Blk) → Nat → (Operand → Option AV) → Oper → Option DR
noncomputable section
def onAV {α : Type} (f : AV → Option α) (x : Option AV) : Option α := Option.rec none (fun v => f v) x
def sameR (x : Option AV) : Option DR := Option.rec none (fun v => some (.val v .same)) x
def sameD (x : Option Dl) : Option DR := Option.rec none (fun d => some (.val (.lit undef) d)) x
def litBool (v : Value) : Option Bool := match v with | .bool b => some b | _ => none
def avBool (a : AV) : Option Bool := match a with | .lit v => litBool v | _ => none
def avTup (a : AV) : Option (List AV) := match a with | .tup vs => some vs | _ => none
def pickB (b : Bool) (x y : Option AV) : Option AV := Bool.rec y x b
def aMove : Operand → Arm := fun x _ _ _ _ ρ _ => sameR (ρ x)
def aPick : Operand → Operand → Operand → Arm := fun c a b _ _ _ _ ρ _ => sameR (onAV (fun v => Option.rec none (fun t => pickB t (ρ a) (ρ b)) (avBool v)) (ρ c))
def aLoad : TypeId → Operand → Arm := fun t x P _ g _ ρ _ => sameR (onAV (fun a => loadT P g t a) (ρ x))
def aStore : TypeId → Operand → Operand → Arm := fun t x y P _ g _ ρ _ => sameD (onAV (fun a => onAV (fun u => storeT P g t a u) (ρ y)) (ρ x))
def aBin : BinOp → TypeId → Operand → Operand → TypeId → Arm := fun op t x y _ P _ _ _ ρ _ => sameR (onAV (fun a => onAV (fun b => binB P op t a b) (ρ y)) (ρ x))
def aUn : UnOp → TypeId → Operand → Arm := fun op _ x _ _ _ _ ρ _ => sameR (onAV (fun a => unA op a) (ρ x))
def aField : TypeId → Operand → Nat → Arm := fun t x i P _ _ _ ρ _ => sameR (onAV (fun a => fieldA P t a i) (ρ x))
def aFieldAddr : TypeId → Operand → Nat → Arm := fun t x i P _ _ _ ρ _ => sameR (onAV (fun a => fieldOp P t a i) (ρ x))
def aIndexAddr : TypeId → Operand → Operand → Arm := fun t x y P _ _ _ ρ _ => sameR (onAV (fun a => onAV (fun b => indexOp P t a b) (ρ y)) (ρ x))
def aIndex : TypeId → Operand → Operand → Arm := fun t x y P _ _ _ ρ _ => sameR (onAV (fun a => onAV (fun b => indexA P t a b) (ρ y)) (ρ x))
def aExtract : Operand → Nat → Arm := fun x i _ _ _ _ ρ _ => sameR (onAV (fun a => Option.rec none (fun vs => vs[i]?) (avTup a)) (ρ x))
def aCall : Call → Arm := fun c P m g n ρ _ => Option.rec none (fun args => callT P m g n ρ args c) (aevs ρ c.args.toList)
def arms (op : Op) : Arm :=
 Op.rec (motive := fun _ => Arm) aMove aMove aPick (fun _ => aopT) (fun _ _ => aopT) (fun _ _ => aopT) (fun _ _ _ => aopT) (fun _ _ _ _ => aopT) aLoad aStore (fun _ => aopT) (fun _ => aopT) (fun _ => aopT) aBin aUn
  (fun _ _ _ => aopT) (fun _ _ => aopT) (fun _ _ => aopT) (fun _ _ _ => aopT) (fun _ _ => aopT) (fun _ _ => aopT) (fun _ _ _ => aopT) (fun _ _ _ _ _ => aopT) aFieldAddr aField aIndexAddr aIndex (fun _ _ _ _ => aopT) (fun _ _ _ _ => aopT)
  (fun _ _ _ => aopT) (fun _ _ _ _ => aopT) (fun _ _ => aopT) (fun _ _ => aopT) (fun _ => aopT) (fun _ _ _ _ => aopT) aExtract aCall (fun _ => aopT) (fun _ => aopT) (fun _ => aopT) (fun _ _ => aopT) (fun _ _ _ => aopT) (fun _ _ => aopT) op
def aopF : Arm := fun P m g n ρ o => arms o.op P m g n ρ o
theorem aopF_eq (P : Program) (m : Bool) (g : Nat → Option Blk) (n : Nat) (ρ : Operand → Option AV) (o : Oper) : aopF P m g n ρ o = aopT P m g n ρ o := by
  obtain ⟨dst, op, ty, pos, after, guard⟩ := o
  cases op with
  | move x => simp only [aopF, arms, aMove, aopT, plainT, aop]; cases ρ x <;> rfl
  | assign x => simp only [aopF, arms, aMove, aopT, plainT, aop]; cases ρ x <;> rfl
  | pick c a b =>
    simp only [aopF, arms, aPick, aopT, plainT, aop]
    cases ρ c with
    | none => rfl
    | some v =>
      cases v with
      | lit v => cases v with
        | bool t => cases t <;> simp only [if_true, Bool.false_eq_true, if_false]; (cases ρ b <;> rfl); (cases ρ a <;> rfl)
        | _ => rfl
      | _ => rfl
  | load t x => simp only [aopF, arms, aLoad, aopT]; cases ρ x with | none => rfl | some a => (simp only [onAV]; cases loadT P g t a <;> rfl)
  | store t x y => simp only [aopF, arms, aStore, aopT]; cases ρ x <;> cases ρ y <;> first | rfl | (simp only [onAV]; cases storeT P g t _ _ <;> rfl)
  | binOp op t x y _ => simp only [aopF, arms, aBin, aopT, plainT, aop]; cases ρ x <;> cases ρ y <;> first | rfl | (simp only [onAV]; cases binB P op t _ _ <;> rfl)
  | unOp op t x => simp only [aopF, arms, aUn, aopT, plainT, aop]; cases ρ x with | none => rfl | some a => (simp only [onAV, Option.bind_some]; cases unA op a <;> rfl)
  | field t x i => simp only [aopF, arms, aField, aopT, plainT, aop]; cases ρ x with | none => rfl | some a => (simp only [onAV, Option.bind_some]; cases fieldA P t a i <;> rfl)
  | fieldAddr t x i => simp only [aopF, arms, aFieldAddr, aopT, plainT, aop]; cases ρ x with | none => rfl | some a => (simp only [onAV, Option.bind_some]; cases fieldOp P t a i <;> rfl)
  | indexAddr t x y => simp only [aopF, arms, aIndexAddr, aopT, plainT, aop]; cases ρ x <;> cases ρ y <;> first | rfl | (simp only [onAV]; cases indexOp P t _ _ <;> rfl)
  | index t x y => simp only [aopF, arms, aIndex, aopT, plainT, aop]; cases ρ x <;> cases ρ y <;> first | rfl | (simp only [onAV]; cases indexA P t _ _ <;> rfl)
  | extract x i =>
    simp only [aopF, arms, aExtract, aopT, plainT, aop]
    cases ρ x with
    | none => rfl
    | some v => cases v <;> try rfl
                rename_i vs
                simp only [onAV, avTup]
                cases vs[i]? <;> rfl
  | call c => simp only [aopF, arms, aCall, aopT]; cases aevs ρ c.args.toList <;> rfl
  | _ => rfl
def avWant (want : Bool) (a : AV) : Option Bool := match a with
 | .lit (.bool b) => some (b == want)
 | .lit (.tuple _) => some false
 | _ => none
def wantG (p : Nat × Bool) (ops : Array Oper) (vars : Trie AV) : Option Bool :=
 match (ops[p.1]?).bind (·.dst) with
 | none => none
 | some t => Option.rec none (fun a => avWant p.2 a) (get vars t)
def wantF (ops : Array Oper) (vars : Trie AV) (o : Oper) : Option Bool :=
 Option.rec (motive := fun _ => Array Oper → Trie AV → Option Bool) (fun _ _ => some true) wantG o.guard ops vars
theorem wantF_eq (ops : Array Oper) (vars : Trie AV) (o : Oper) : wantF ops vars o = wantedA ops vars o := by
 obtain ⟨dst, op, ty, pos, after, guard⟩ := o
 unfold wantF wantedA
 cases guard with
 | none => rfl
 | some p =>
  obtain ⟨j, want⟩ := p
  simp only [wantG]
  cases (ops[j]?).bind (·.dst) with
  | none => rfl
  | some t => 
   simp only
   cases get vars t with
   | none => rfl
   | some a =>
    cases a <;> try rfl
    rename_i v; cases v <;> rfl
theorem aopF_fun : aopF = aopT := by funext P m g n ρ o; exact aopF_eq P m g n ρ o
theorem wantF_fun : wantF = wantedA := by funext a b c; exact wantF_eq a b c
end
end Go.Vm

namespace Go.Vm
structure ES where
 vars : Trie AV
 t : Trie Blk
 n : Nat
 defs : List Nat
inductive ER where
 | fail (why : String)
 | ok (x : AExit) (e : ES) (lo : Nat)
inductive CR where
 | fail (why : String)
 | ret (v : AV) (t : Trie Blk) (n lo : Nat)
 | pan (v : AV) (t : Trie Blk) (n lo : Nat)
abbrev CallT := FuncId → List AV → Trie Blk → Nat → CR
abbrev RoundT := Nat → List AV → Trie Blk → Nat → CR
mutual
def AV.underB (n : Nat) : AV → Bool
 | .lit _ => true
 | .agg cells => AV.undersB n cells
 | .tup vs => AV.undersB n vs
 | .ptr id _ => Nat.blt id n
 | .eptr cells => AV.undersB n cells
 | .sl _ cells tail => (match tail with | .own id _ _ => Nat.blt id n | _ => true) && AV.undersB n cells
 | .hsl id _ _ _ => Nat.blt id n
 | .mp id => Nat.blt id n
 | .fn _ first captured => AV.undersB n first && AV.undersB n captured
 | .yld id => Nat.blt id n
 | .iface _ v => AV.underB n v
 | .msl id _ _ _ => Nat.blt id n
 | .mptr id _ _ => Nat.blt id n
 | .mpx => true
def AV.undersB (n : Nat) : List AV → Bool
 | [] => true
 | a :: as => AV.underB n a && AV.undersB n as
end
noncomputable section
def evalT (vars : Trie AV) (x : Operand) : Option AV :=
 Operand.rec (motive := fun _ => Trie AV → Option AV) (fun t vars => get vars t) (fun v _ => some (.lit v)) (fun _ _ => none) (fun f _ => some (.lit (.func (.func f) #[] #[]))) x vars
def putT {α : Type} (k : Nat) (fail : α) (dst : Option Tmp) (v : AV) (vars : Trie AV) (c : Trie AV → α) : α :=
 match dst with
 | none => c vars
 | some d => bif Nat.blt d k then c (set vars d v) else fail
def lowT {α : Type} (lo id : Nat) (c : Nat → α) : α := bif Nat.ble lo id then c lo else c id
def maskOf (ops : Array Oper) : Nat :=
 let B := befs ops.toList []
 (List.range ops.size).foldl (fun s i => if (match ops[i]? with | some o => !light o | none => false) && ((List.range i).all fun p => (B.getD i 0).testBit p) &&
  ((List.range ops.size).all fun k => decide (k ≤ i) || (B.getD k 0).testBit i) then s + 2 ^ i else s) 0
def hoistT (P : Program) (l : List Oper) : Nat → Trie Blk → Trie Blk :=
 List.rec (fun _ t => t) (fun o _ ih j t => match layB P o with | some B => ih (Nat.succ j) (set t j B) | none => ih (Nat.succ j) t) l
def noLay (P : Program) (l : List Oper) : Bool := l.all fun o => (layB P o).isNone
section
variable (P : Program) (m : Bool) (call : CallT) (round : RoundT) (k : Nat) (d : List Nat)
def evOp (ops : Array Oper) (o : Oper) (vars : Trie AV) (t : Trie Blk) (n lo : Nat) (c : Trie AV → Trie Blk → Nat → Nat → ER) : ER :=
  match wantF ops vars o with
  | none => .fail o.pos
  | some false => putT k (.fail o.pos) o.dst (.lit undef) vars fun vars' => c vars' t n lo
  | some true => match aopF P m (get t) n (evalT vars) o with
    | none => .fail o.pos
    | some (.val v .same) => putT k (.fail o.pos) o.dst v vars fun vars' => c vars' t n lo
    | some (.val v (.push B)) => putT k (.fail o.pos) o.dst v vars fun vars' => c vars' (set t n B) (Nat.succ n) lo
    | some (.val v (.set id B)) => putT k (.fail o.pos) o.dst v vars fun vars' => lowT lo id fun lo' => c vars' (set t id B) n lo'
    | some (.call f args) => bif callable P f then match call f args t n with
        | .fail w => .fail w
        | .ret v t' n' l => putT k (.fail o.pos) o.dst v vars fun vars' => lowT lo l fun lo' => c vars' t' n' lo'
        | .pan v t' n' l => lowT lo l fun lo' => .ok (.pan v) ⟨vars, t', n', d⟩ lo'
      else .fail o.pos
    | some (.round id args) => match round id args t n with
        | .ret v t' n' l => putT k (.fail o.pos) o.dst v vars fun vars' => lowT lo l fun lo' => c vars' t' n' lo'
        | .fail w => .fail w
        | .pan _ _ _ _ => .fail o.pos
    | some (.pan v) => .ok (.pan v) ⟨vars, t, n, d⟩ lo
def evOps (ops : Array Oper) (l : List Oper) : Trie AV → Trie Blk → Nat → Nat → ER :=
 List.rec (fun vars t n lo => .ok .normal ⟨vars, t, n, d⟩ lo) (fun o _ ih vars t n lo => evOp P m call round k d ops o vars t n lo ih) l
def memN (l : List Nat) (id : Nat) : Bool := List.rec false (fun a _ ih => bif Nat.beq a id then true else ih) l
def hideT (W : Option (List Nat)) (t : Trie Blk) (id : Nat) : Option Blk :=
 match W with
 | none => get t id
 | some W => bif memN W id then none else match get t id with
  | some (.row _) => none
  | x => x
def inW (W : Option (List Nat)) (id : Nat) : Bool :=
 match W with
 | none => true
 | some W => memN W id
def evSeg (ops : Array Oper) (mask n0 : Nat) (W : Option (List Nat)) (l : List Oper) : Nat → Trie Blk → Nat → Trie AV → Trie Blk → Nat → Nat → ER :=
 List.rec (fun _ _ _ vars t n lo => .ok .normal ⟨vars, t, n, d⟩ lo)
  (fun o rest ih i tb nb vars t n lo =>
   bif Nat.testBit mask i then
    evOp P m call round k d ops o vars t n noLo fun vars' t' n' l1 =>
     bif noLay P rest || Nat.ble n l1 then lowT lo l1 fun lo' => ih (Nat.succ i) t' n' vars' t' n' lo' else .fail o.pos
   else match okind o with
   | .plain => match wantF ops vars o with
    | none => .fail o.pos
    | some false => putT k (.fail o.pos) o.dst (.lit undef) vars fun vars' => ih (Nat.succ i) tb nb vars' t n lo
    | some true => match aopF P m (hideT W tb) nb (evalT vars) o with
     | some (.val v .same) => putT k (.fail o.pos) o.dst v vars fun vars' => ih (Nat.succ i) tb nb vars' t n lo
     | _ => .fail o.pos
   | .lay => match wantF ops vars o with
    | none => .fail o.pos
    | some false => putT k (.fail o.pos) o.dst (.lit undef) vars fun vars' => ih (Nat.succ i) tb nb vars' t n lo
    | some true => match layB P o with
     | some _ => putT k (.fail o.pos) o.dst (layV o (n0 + i)) vars fun vars' => ih (Nat.succ i) tb nb vars' t n lo
     | none => .fail o.pos
   | .eff => match wantF ops vars o, aopF P m (get t) n (evalT vars) o with
    | some true, some (.val v (.set id (.row g))) => putT k (.fail o.pos) o.dst v vars fun vars' => lowT lo id fun lo' => ih (Nat.succ i) tb nb vars' (set t id (.row g)) n lo'
    | _, _ => evOp P m call round k d ops o vars t n noLo fun vars' t' n' l1 =>
     bif Nat.ble n l1 then ih (Nat.succ i) tb nb vars' t' n' lo else .fail o.pos
   | .store => match wantF ops vars o with
    | some true => match aopF P m (get t) n (evalT vars) o with
     | some (.val v (.set id B)) => bif inW W id then putT k (.fail o.pos) o.dst v vars fun vars' => lowT lo id fun lo' => ih (Nat.succ i) tb nb vars' (set t id B) n lo' else .fail o.pos
     | _ => .fail o.pos
    | _ => .fail o.pos) l
def storeIds (mask : Nat) (vars : Trie AV) (l : List Oper) : Nat → List Nat :=
 List.rec (fun _ => []) (fun o _ ih i => bif Nat.testBit mask i then ih (Nat.succ i) else match o.op with
  | .store _ x _ | .mapUpdate _ x _ _ | .insert _ x _ _ | .next x _ => match evalT vars x with
   | some (.ptr id _) => id :: ih (Nat.succ i)
   | some (.mptr id _ _) => id :: ih (Nat.succ i)
   | some (.mp id) => id :: ih (Nat.succ i)
   | _ => ih (Nat.succ i)
  | _ => ih (Nat.succ i)) l
def hasStore (mask : Nat) (l : List Oper) : Nat → Bool :=
 List.rec (fun _ => false) (fun o _ ih i => bif Nat.testBit mask i then ih (Nat.succ i) else match okind o with
  | .store => true
  | _ => ih (Nat.succ i)) l
def evDrawW (ops : Array Oper) (W : Option (List Nat)) (vars : Trie AV) (t : Trie Blk) (n lo : Nat) : ER :=
 match evSeg P m call round k d ops (maskOf ops) n W ops.toList 0 (hoistT P ops.toList n t) (n + ops.size) vars (hoistT P ops.toList n t) (n + ops.size) lo with
 | .ok .normal e lo' => .ok .normal e lo'
 | .ok _ _ _ => .fail "draw"
 | .fail w => .fail w
def evDraw (ops : Array Oper) (vars : Trie AV) (t : Trie Blk) (n lo : Nat) : ER :=
 bif drawOk (maskOf ops) ops then
  bif hasStore (maskOf ops) ops.toList 0 then
   match evDrawW P m call round k d ops none vars t n lo with
   | .ok _ e _ => evDrawW P m call round k d ops (some (storeIds (maskOf ops) e.vars ops.toList 0)) vars t n lo
   | .fail w => .fail w
  else evDrawW P m call round k d ops (some []) vars t n lo
 else .fail "draw"
def evLoop (body : Trie AV → Trie Blk → Nat → List Nat → Nat → ER) (fuel : Nat) : Trie AV → Trie Blk → Nat → List Nat → Nat → ER :=
 Nat.rec (fun _ _ _ _ _ => .fail "loop") (fun _ ih vars t n d lo => match body vars t n d lo with
  | .ok .normal e lo' => ih e.vars e.t e.n e.defs lo'
  | r => r) fuel
def isBusy : LoopState → Bool
 | .busy => true
 | _ => false
def evRange (ro : Option Nat) (f : Operand) (ps : Array Tmp) (assign body : Code) (vars : Trie AV) (t : Trie Blk) (n : Nat) (d : List Nat) (lo : Nat) : ER :=
 match evalT vars f with
 | none => .fail "code"
 | some fv => match fnOf fv with
  | none => .fail "code"
  | some (f, first, captured) =>
   bif callable P f then
    match ro with
    | none => match call f (first ++ [.yld (n + 1)] ++ captured) (set t (n + 1) (.loop (loop0 ⟨k, vars, [], []⟩ ps assign body n))) (n + 2) with
     | .ret _ t2 n2 l => match get t2 (n + 1) with
      | some (.loop l') => bif isBusy l'.state then .fail "code" else match jumpTo l'.pending with
       | some x => lowT lo l fun lo' => .ok x ⟨vars, set t2 (n + 1) (.loop { l' with state := .exhausted }), n2, n :: d⟩ lo'
       | none => .fail "code"
      | _ => .fail "code"
     | .fail w => .fail w
     | .pan _ _ _ _ => .fail "range"
    | some ido => match get t ido with
     | some (.loop l0) => match call f (first ++ [.yld n] ++ captured) (set t n (.loop (loop0 ⟨k, vars, [], []⟩ ps assign body l0.defers))) (n + 1) with
      | .ret _ t2 n2 l => match get t2 n with
       | some (.loop l') => bif isBusy l'.state then .fail "code" else match jumpTo l'.pending with
        | some x => lowT lo l fun lo' => .ok x ⟨vars, set t2 n (.loop { l' with state := .exhausted }), n2, d⟩ lo'
        | none => .fail "code"
       | _ => .fail "code"
      | .fail w => .fail w
      | .pan _ _ _ _ => .fail "range"
     | _ => .fail "code"
   else .fail "code"
def evCode (ro : Option Nat) (c : Code) : Trie AV → Trie Blk → Nat → List Nat → Nat → ER :=
 Code.rec (motive := fun _ => Trie AV → Trie Blk → Nat → List Nat → Nat → ER)
  (fun vars t n d lo => .ok .normal ⟨vars, t, n, d⟩ lo)
  (fun _ ops draw vars t n d lo => match draw with
   | true => evDraw P m call round k d ops vars t n lo
   | false => evOps P m call round k d ops ops.toList vars t n lo)
  (fun _ _ iha ihb vars t n d lo => match iha vars t n d lo with
   | .ok .normal e lo' => ihb e.vars e.t e.n e.defs lo'
   | r => r)
  (fun c _ _ iha ihb vars t n d lo => match evalT vars c with
   | some (.lit (.bool true)) => iha vars t n d lo
   | some (.lit (.bool false)) => ihb vars t n d lo
   | _ => .fail "code")
  (fun i _ ih vars t n d lo => match ih vars t n d lo with
   | .ok (.exit j) e lo' => bif Nat.beq i j then .ok .normal e lo' else .ok (.exit j) e lo'
   | r => r)
  (fun _ ih vars t n d lo => evLoop ih 100000 vars t n d lo)
  (fun g ps assign body _ _ vars t n d lo => evRange P call k ro g ps assign body vars t n d lo)
  (fun i vars t n d lo => .ok (.exit i) ⟨vars, t, n, d⟩ lo)
  (fun _ ih vars t n d lo => ih vars t n d lo)
  (fun _ vars t n d lo => .ok .normal ⟨vars, t, n, d⟩ lo)
  (fun _ _ _ _ _ _ => .fail "code")
  (fun vars t n d lo => .ok .ret ⟨vars, t, n, d⟩ lo)
  (fun _ _ _ _ _ _ => .fail "code")
  c
def resT (g : Nat → Option Blk) (vars : Trie AV) : List ResultVar → Option (List AV)
 | [] => some []
 | .tmp t :: rs => match get vars t with
  | none => none
  | some v => match resT g vars rs with
   | none => none
   | some vs => some (v :: vs)
 | .cell t ty :: rs => match get vars t with
  | none => none
  | some a => match loadT P g ty a with
   | none => none
   | some v => match resT g vars rs with
    | none => none
    | some vs => some (v :: vs)
def spendT (l : List Nat) : Trie Blk → Trie Blk :=
 List.rec (fun t => t) (fun id _ ih t => ih (set t id .spent)) l
def nodupB : List Nat → Bool
 | [] => true
 | a :: l => l.all (fun b => !Nat.beq a b) && nodupB l
def evFin (results : List ResultVar) (t : Trie Blk) (n : Nat) (e : ES) (lo : Nat) : CR :=
 bif e.defs.all (fun d => Nat.ble n d && Nat.blt d e.n) && nodupB e.defs then
  match resT P (get (spendT e.defs e.t)) e.vars results with
  | none => .fail "code"
  | some vs => bif Nat.ble n lo && AV.underB n (resV vs) then .ret (resV vs) t n lo else .ret (resV vs) (spendT e.defs e.t) e.n lo
 else .fail "code"
def evBody (muts : FuncId → Bool) (f : FuncId) (args : List AV) (t : Trie Blk) (n : Nat) : CR :=
  match P.funcs[f]? with
  | none => .fail "code"
  | some fn => match fn.body with
    | none => .fail "code"
    | some c => bif Nat.ble args.length fn.ntmps then
        match evCode P (muts f) call round fn.ntmps none c (initVars 0 args) t n [] noLo with
        | .fail w => .fail w
        | .ok (.pan v) e lo => match e.defs with
          | [] => .pan v e.t e.n lo
          | _ => .fail "code"
        | .ok (.exit _) _ _ => .fail "code"
        | .ok .normal e lo => evFin P fn.results.toList t n e lo
        | .ok .ret e lo => evFin P fn.results.toList t n e lo
      else .fail "code"
def isReady : LoopState → Bool
 | .ready => true
 | _ => false
def evRoundBody (id : Nat) (args : List AV) (t : Trie Blk) (n : Nat) : CR :=
  match get t id with
  | some (.loop l) => bif Nat.beq args.length l.params.size && l.params.toList.all (fun t => Nat.blt t l.n) then
      match evCode P false call round l.n (some id) l.assign (putParams l.vars l.params.toList args) t n [] noLo with
      | .ok .normal e1 lo1 => match get e1.t id with
        | some (.loop l1) => bif isReady l1.state then
            lowT lo1 id fun lo1 => match evCode P false call round l.n (some id) l.body e1.vars (set e1.t id (.loop { l1 with state := .busy })) e1.n e1.defs lo1 with
            | .ok x e2 lo2 => match get e2.t id, jumpOf x with
              | some (.loop l2), some j => lowT lo2 id fun lo2 => .ret (.lit (.bool j.isNone)) (set e2.t id (.loop { l2 with state := if j.isNone then .ready else .done, pending := j })) e2.n lo2
              | _, _ => .fail "code"
            | .fail w => .fail w
          else .fail "code"
        | _ => .fail "round"
      | .fail w => .fail w
      | _ => .fail "round assign"
    else .fail "round params"
  | _ => .fail "no loop"
end
structure Know where
 muts : FuncId → Bool
 alone : FuncId → Bool
 told : FuncId → Option (CallT → CallT)
def forceN {α : Type} (n : Nat) (k : Nat → α) : α :=
 bif Nat.beq n 0 then k 0 else bif Nat.beq n 1 then k 1 else bif Nat.beq n 2 then k 2 else bif Nat.beq n 3 then k 3 else bif Nat.beq n 4 then k 4 else bif Nat.beq n 5 then k 5 else bif Nat.beq n 6 then k 6 else bif Nat.beq n 7 then k 7 else k n
def forceI {α : Type} (n : Int) (k : Int → α) : α := Int.rec (motive := fun _ => (Int → α) → α) (fun n k => forceN n fun m => k (Int.ofNat m)) (fun n k => forceN n fun m => k (Int.negSucc m)) n k
def forceK {α : Type} (d : IntKind) (k : IntKind → α) : α := match d with
 | .i64 => k .i64
 | .i32 => k .i32
 | .u8 => k .u8
 | d => k d
def forceV {α : Type} (v : Value) (k : Value → α) : α := match v with
 | .int d n => forceK d fun d => forceI n fun n => k (.int d n)
 | .bool b => match b with
  | true => k (.bool true)
  | false => k (.bool false)
 | v => k v
def forceT {α : Type} (t : Tail) (k : Tail → α) : α := match t with
 | .unk => k .unk
 | .full => k .full
 | t => k t
mutual
def AV.force {α : Type} : AV → (AV → α) → α
 | .lit v, k => forceV v fun v => k (.lit v)
 | .agg cells, k => AV.forces cells fun cells => k (.agg cells)
 | .tup vs, k => AV.forces vs fun vs => k (.tup vs)
 | .eptr cells, k => AV.forces cells fun cells => k (.eptr cells)
 | .sl len cells tail, k => forceN len fun len => AV.forces cells fun cells => forceT tail fun tail => k (.sl len cells tail)
 | .iface t v, k => AV.force v fun v => k (.iface t v)
 | .ptr id off, k => k (.ptr id off)
 | .hsl id off len cap, k => k (.hsl id off len cap)
 | .mp id, k => k (.mp id)
 | .fn f first captured, k => k (.fn f first captured)
 | .yld id, k => k (.yld id)
 | .msl id gen len sz, k => k (.msl id gen len sz)
 | .mptr id gen off, k => k (.mptr id gen off)
 | .mpx, k => k .mpx
def AV.forces {α : Type} : List AV → (List AV → α) → α
 | [], k => k []
 | a :: as, k => AV.force a fun a => AV.forces as fun as => k (a :: as)
end
def evAlone (body : CallT) : CallT := fun f args t n =>
 bif AV.undersB 0 (AV.forgets args) then
  AV.forces (AV.forgets args) fun args' => match body f args' .nil 0 with
  | .ret v _ _ _ => bif AV.underB 0 v.forget then .ret v.forget t n noLo else .fail "code"
  | _ => .fail "code"
 else body f args t n
def evN (P : Program) (K : Know) (fuel : Nat) : CallT × RoundT :=
  Nat.rec ⟨fun _ _ _ _ => .fail "fuel", fun _ _ _ _ => .fail "fuel"⟩ (fun _ ih =>
    ⟨fun f args t n => match K.told f with
      | some T => T ih.1 f args t n
      | none => bif K.alone f then evAlone (evBody P ih.1 ih.2 K.muts) f args t n else evBody P ih.1 ih.2 K.muts f args t n,
     fun id args t n => evRoundBody P ih.1 ih.2 id args t n⟩) fuel
end
end Go.Vm

namespace Go.Vm
variable {P : Program}
section
variable [Outer]
mutual
theorem VRel.under {S : Sit} : ∀ (a : AV) (c : Value), VRel S a c → a.under S.H.length
 | .lit v, c, x => by simp [AV.under]
 | .agg cells, c, x => by
  simp only [VRel, AV.under] at x ⊢
  obtain ⟨C, hc, hr⟩ := x
  exact VRels.under cells _ hr
 | .tup vs, c, x => by
  simp only [VRel, AV.under] at x ⊢
  obtain ⟨C, hc, hr⟩ := x
  exact VRels.under vs _ hr
 | .ptr id off, c, x => by
  simp only [VRel, AV.under] at x ⊢
  obtain ⟨b, wm, hi, hn, hc⟩ := x
  exact hn.lt
 | .eptr cells, c, x => by
  simp only [VRel, AV.under] at x ⊢
  obtain ⟨b, o, hc, hf, hr⟩ := x
  exact VRow.under b cells o hr
 | .sl len cells tail, c, x => by
  simp only [VRel, AV.under] at x ⊢
  obtain ⟨base, cap, hc, hle, hcells, ht⟩ := x
  refine ⟨?_, ?_⟩
  ·rcases hcells with hcells | ⟨b, o, hb', hf, hr⟩
   ·subst hcells; simp [AV.unders]
   ·exact VRow.under b cells o hr
  ·cases tail with
   | unk => trivial
   | full => trivial
   | own id g sz =>
    obtain ⟨_, g0, h0, _⟩ := ht
    exact (List.getElem?_eq_some_iff.1 h0).1
 | .hsl id off len cap, c, x => by
  simp only [VRel, AV.under] at x ⊢
  obtain ⟨b, wm, hi, hn, hc⟩ := x
  exact hn.lt
 | .mp id, c, x => by
  simp only [VRel, AV.under] at x ⊢
  obtain ⟨b, wm, hi, hn, hc⟩ := x
  exact hn.lt
 | .fn f first captured, c, x => by
  simp only [VRel, AV.under] at x ⊢
  obtain ⟨F, C, hc, h1, h2⟩ := x
  exact ⟨VRels.under first _ h1, VRels.under captured _ h2⟩
 | .yld id, c, x => by
  simp only [VRel, AV.under] at x ⊢
  obtain ⟨b, wm, hi, hn, hc⟩ := x
  exact hn.lt
 | .iface t v, c, x => by
  simp only [VRel, AV.under] at x ⊢
  obtain ⟨y, hc, hr⟩ := x
  exact VRel.under v y hr
 | .msl id gen len sz, c, x => by
  simp only [VRel, AV.under] at x ⊢
  obtain ⟨base, cap, hc, hle, B, g, hB, _⟩ := x
  exact (List.getElem?_eq_some_iff.1 hB).1
 | .mptr id gen off, c, x => by
  simp only [VRel, AV.under] at x ⊢
  obtain ⟨b, o, hc, B, g, hB, _⟩ := x
  exact (List.getElem?_eq_some_iff.1 hB).1
 | .mpx, _, _ => trivial
theorem VRels.under {S : Sit} : ∀ (as : List AV) (cs : List Value), VRels S as cs → AV.unders S.H.length as
 | [], _, _ => by simp [AV.unders]
 | _ :: _, [], x => by simp [VRels] at x
 | a :: as, c :: cs, x => by
  simp only [VRels, AV.unders] at x ⊢
  exact ⟨VRel.under a c x.1, VRels.under as cs x.2⟩
theorem VRow.under {S : Sit} (b : Nat) : ∀ (as : List AV) (o : Nat), VRow S b o as → AV.unders S.H.length as
 | [], o, _ => by simp [AV.unders]
 | a :: as, o, x => by
  simp only [VRow, AV.unders] at x ⊢
  obtain ⟨⟨c, hc, hr⟩, x2⟩ := x
  exact ⟨VRel.under a c hr, VRow.under b as (o + 1) x2⟩
end
theorem BlkRel.under {S : Sit} {b wm : Nat} {B : Blk} (x : BlkRel S b wm B) : B.under S.H.length := by
 cases B with
 | box cells t => obtain ⟨C, h1, h2⟩ := x; exact VRels.under _ _ h2
 | row g => trivial
 | mrow g cells => obtain ⟨C, t, h1, h2⟩ := x; exact VRels.under _ _ h2
 | map sh es =>
  obtain ⟨E, c, h1, h2⟩ := x
  obtain ⟨es2, hp, k1, k2⟩ := h2.ents
  have := VRels.under _ _ k2
  show AV.unders _ (es.map (·.2))
  rw [AV.unders_mem] at this ⊢
  intro a ha
  exact this a ((hp.map _).mem_iff.2 ha)
 | loop l =>
  obtain ⟨L, h1, h2⟩ := x
  refine ⟨fun t v hg => ?_, ?_⟩
  ·obtain ⟨c, _, hr⟩ := h2.vars t v hg
   exact VRel.under _ _ hr
  ·obtain ⟨wm', hi, hn⟩ := h2.defers
   exact hn.lt
 | defd => trivial
 | iterS s pos => trivial
 | spent => trivial
 | obj o => trivial
end
theorem ACall.cut_same {f : FuncId} {args : List AV} {H H' : List Blk} {r : AV} (h : ACall P f args H (.ret r) H') (hr : r.under H.length) (hs : ∀ id, id < H.length → H'[id]? = H[id]?) (hle : H.length ≤ H'.length) :
  ACall P f args H (.ret r) H := by
 intro O ι w cs hR hargs
 have hcall : CallsIn (Fr none) 0 P f cs w (EPost ⟨H, ι, w⟩ (.ret r) H') := h _ ι w cs hR hargs
 refine hcall.mono ?_
 rintro e w' ⟨ι', hend, hR', hev, hnon⟩
 have hH : H'.take H.length = H := by
  apply List.ext_getElem?
  intro id
  by_cases hlt : id < H.length
  ·rw [List.getElem?_take_of_lt hlt, hs id hlt]
  ·rw [List.getElem?_eq_none (by simp; omega), List.getElem?_eq_none (by omega)]
 have hb : ∀ id b wm, ι' id = some (b, wm) → id < H.length → ∀ B, H[id]? = some B → B.under H.length := by
  intro id b wm hi hlt B hB
  by_cases hx : ∃ p, ι id = some p
  ·obtain ⟨⟨b0, wm0⟩, hx⟩ := hx
   obtain ⟨B', hB', hrel⟩ := hR.blk id b0 wm0 hx
   have hB'' : H[id]? = some B' := hB'
   rw [hB] at hB''; cases hB''
   exact hrel.under
  ·have hnone : ι id = none := by cases hι : ι id with
    | none => rfl
    | some p => exact absurd ⟨p, hι⟩ hx
   cases B with
   | row g => trivial
   | mrow g c =>
    obtain ⟨B', g1, hB', hm, hle, k⟩ := hev.mtok id g c hB
    have hB2 : H'[id]? = some B' := hB'
    rw [hs id hlt, hB] at hB2; cases hB2
    simp only [Blk.mgen, Option.some.injEq] at hm; subst hm
    have := (k rfl).2.1
    have e2 : ι' id = ι id := this
    rw [hnone, hi] at e2; cases e2
   | _ =>
    have := hnon id ⟨_, hB, rfl⟩ hnone
    have e2 : ι' id = none := this
    rw [hi] at e2; cases e2
 cases e with
 | panicked chain => exact hend.elim
 | outgrown => exact hend.elim
 | returned c =>
  refine ⟨cutι ι' H.length, ?_, ?_, ?_, ?_⟩
  ·have := VRel.cut (S := ⟨H', ι', w'⟩) r c hr hend
   rw [hH] at this; exact this
  ·have hR2 : Rel ⟨H'.take H.length, cutι ι' H.length, w'⟩ := by
    refine ⟨fun id b wm e => ?_, fun i j b wm wm' ei ej => ?_, fun b x e => ?_⟩
    ·have e' : cutι ι' H.length id = some (b, wm) := e
     unfold cutι at e'
     split at e'
     ·rename_i hlt
      obtain ⟨B, hB, hrel⟩ := hR'.blk id b wm e'
      have hB' : H'[id]? = some B := hB
      exact ⟨B, by show (H'.take H.length)[id]? = _; rw [List.getElem?_take_of_lt hlt]; exact hB', BlkRel.cut (S := ⟨H', ι', w'⟩) hrel (hb id b wm e' hlt B (by rw [← hs id hlt]; exact hB'))⟩
     ·cases e'
    ·have ei' : cutι ι' H.length i = some (b, wm) := ei
     have ej' : cutι ι' H.length j = some (b, wm') := ej
     unfold cutι at ei' ej'
     split at ei' <;> split at ej' <;> first | exact hR'.inj i j b wm wm' ei' ej' | (cases ei') | (cases ej')
    ·obtain ⟨h1, h2⟩ := hR'.out b x e
     refine ⟨h1, fun i wm h => ?_⟩
     have h' : cutι ι' H.length i = some (b, wm) := h
     unfold cutι at h'
     split at h'
     ·exact h2 _ _ h'
     ·cases h'
   rw [hH] at hR2; exact hR2
  ·have := hev.cut
   simp only [hH] at this; exact this
  ·have := hnon.cut
   simp only [hH] at this; exact this
structure HT (t : Trie Blk) (n : Nat) (H : List Blk) : Prop where
 len : H.length = n
 blk : ∀ id B, get t id = some B → H[id]? = some B
theorem HT.nil : HT .nil 0 [] := ⟨rfl, fun id B h => by rw [get_nil] at h; cases h⟩
theorem HT.lt {t : Trie Blk} {n : Nat} {H : List Blk} (h : HT t n H) {id : Nat} {B : Blk} (hg : get t id = some B) : id < n := by
 rw [← h.len]; exact (List.getElem?_eq_some_iff.1 (h.blk id B hg)).1
theorem HT.skip {t : Trie Blk} {n : Nat} {H : List Blk} (h : HT t n H) (B : Blk) : HT t (n + 1) (H ++ [B]) :=
 ⟨by simp [h.len], fun id B' hg => by rw [List.getElem?_append_left (by have := h.lt hg; have := h.len; omega)]; exact h.blk id B' hg⟩
theorem HT.push {t : Trie Blk} {n : Nat} {H : List Blk} (h : HT t n H) (B : Blk) : HT (set t n B) (n + 1) (H ++ [B]) := by
 refine ⟨by simp [h.len], fun id B' hg => ?_⟩
 by_cases hid : n = id
 ·subst hid; rw [get_set_same] at hg; cases hg; simp [h.len]
 ·rw [get_set_other _ _ _ _ hid] at hg
  exact (h.skip B).blk id B' hg
theorem HT.set {t : Trie Blk} {n : Nat} {H : List Blk} (h : HT t n H) {id : Nat} (hlt : id < n) (B : Blk) : HT (Vm.set t id B) n (H.set id B) := by
 refine ⟨by simp [h.len], fun j B' hg => ?_⟩
 have hl := h.len
 by_cases hid : id = j
 ·subst hid; rw [get_set_same] at hg; cases hg; simp [hl, hlt]
 ·rw [get_set_other _ _ _ _ hid] at hg
  rw [List.getElem?_set_ne hid]; exact h.blk j B' hg
structure Keep (H H' : List Blk) (lo : Nat) : Prop where
 le : H.length ≤ H'.length
 low : ∀ id, id < lo → id < H.length → H'[id]? = H[id]?
 marks : keepsD H H'
theorem Keep.refl (H : List Blk) (lo : Nat) : Keep H H lo := ⟨Nat.le_refl _, fun _ _ _ => rfl, fun _ h => h⟩
theorem Keep.trans {H H1 H2 : List Blk} {lo lo' lo'' : Nat} (h : Keep H H1 lo) (h' : Keep H1 H2 lo') (h1 : lo'' ≤ lo) (h2 : lo'' ≤ lo') : Keep H H2 lo'' :=
 ⟨Nat.le_trans h.le h'.le, fun id a b => (h'.low id (by omega) (by have := h.le; omega)).trans (h.low id (by omega) b), h.marks.trans h'.marks⟩
theorem Keep.mono {H H' : List Blk} {lo lo' : Nat} (h : Keep H H' lo) (h1 : lo' ≤ lo) : Keep H H' lo' := h.trans (Keep.refl H' lo') h1 (Nat.le_refl _)
theorem Keep.append (H H2 : List Blk) (lo : Nat) : Keep H (H ++ H2) lo :=
 ⟨by simp, fun id _ h => List.getElem?_append_left h, keepsD_append H H2⟩
theorem Keep.set {H : List Blk} {id : Nat} {B0 B : Blk} (h : H[id]? = some B0) (hd : B0 ≠ .defd) : Keep H (H.set id B) id :=
 ⟨by simp, fun j h1 _ => List.getElem?_set_ne (by omega), fun j hj => by
  rw [List.getElem?_set_ne]
  ·exact hj
  ·rintro rfl; rw [h] at hj; cases hj; exact hd rfl⟩
theorem lowT_spec {α : Type} {Q : α → Prop} {lo id : Nat} {c : Nat → α} (h : ∀ l, l ≤ lo → l ≤ id → Q (c l)) : Q (lowT lo id c) := by
 unfold lowT
 cases hb : Nat.ble lo id with
 | true => exact h lo (Nat.le_refl _) (Nat.le_of_ble_eq_true hb)
 | false =>
  refine h id ?_ (Nat.le_refl _)
  have : ¬ lo ≤ id := fun hle => by rw [Nat.ble_eq_true_of_le hle] at hb; cases hb
  omega
theorem putT_spec {α : Type} {Q : α → Prop} {k : Nat} {fail : α} {dst : Option Tmp} {v : AV} {vars : Trie AV} {c : Trie AV → α} (hf : Q fail)
  (h : ∀ vars', (∀ H H' d, putA ⟨k, vars, H, d⟩ dst v H' = some ⟨k, vars', H', d⟩) → Q (c vars')) : Q (putT k fail dst v vars c) := by
 unfold putT
 cases dst with
 | none => exact h vars fun _ _ _ => rfl
 | some x =>
  simp only
  cases hb : Nat.blt x k with
  | false => exact hf
  | true =>
   refine h _ fun H H' d => ?_
   have : x < k := Nat.le_of_ble_eq_true hb
   simp [putA, this]
theorem evalT_eq (k : Nat) (vars : Trie AV) (H : List Blk) (d : List Nat) : evalT vars = St.eval ⟨k, vars, H, d⟩ := by
 funext x; cases x <;> rfl
def CRok (P : Program) (f : FuncId) (args : List AV) (t : Trie Blk) (n : Nat) : CR → Prop
 | .fail _ => True
 | .ret v t' n' lo => ∀ H, HT t n H → ∃ H', HT t' n' H' ∧ ACall P f args H (.ret v) H' ∧ Keep H H' lo
 | .pan v t' n' lo => ∀ H, HT t n H → ∃ H', HT t' n' H' ∧ ACall P f args H (.pan v) H' ∧ Keep H H' lo
def SoundC (P : Program) (call : CallT) : Prop := ∀ f args t n, CRok P f args t n (call f args t n)
def RRok (P : Program) (id : Nat) (args : List AV) (t : Trie Blk) (n : Nat) : CR → Prop
 | .ret v t' n' lo => ∀ H, HT t n H → ∃ H', HT t' n' H' ∧ ARound P id args H (.ret v) H' ∧ Keep H H' lo
 | _ => True
def SoundR (P : Program) (round : RoundT) : Prop := ∀ id args t n, RRok P id args t n (round id args t n)
def ER.holds (k : Nat) (H0 : List Blk) (Q : AExit → St → Prop) : ER → Prop
 | .fail _ => True
 | .ok x e lo => ∃ H, HT e.t e.n H ∧ Keep H0 H lo ∧ Q x ⟨k, e.vars, H, e.defs⟩
def ER.normal (k : Nat) (H0 : List Blk) (Q : St → Prop) : ER → Prop
 | .ok .normal e lo => ∃ H, HT e.t e.n H ∧ Keep H0 H lo ∧ Q ⟨k, e.vars, H, e.defs⟩
 | _ => True
inductive One (P : Program) (m : Bool) (ops : Array Oper) (o : Oper) (σ σ1 : St) : Prop
 | skip (hw : wantedA ops σ.vars o = some false) (hp : putA σ o.dst (.lit undef) σ.H = some σ1)
 | does {r : AR} {v : AV} {H' : List Blk} (hw : wantedA ops σ.vars o = some true) (ha : aop P m σ.H σ.eval o = some r) (hr : Does P r σ.H v H') (hd : keepsD σ.H H') (hp : putA σ o.dst v H' = some σ1)
theorem One.step {m : Bool} {ops : Array Oper} {i : Nat} {o : Oper} {σ σ1 : St} (ho : ops[i]? = some o) (h : One P m ops o σ σ1) : AStep P ops i σ σ1 := by
 cases h with
 | skip hw hp => exact .skip ho hw hp
 | does hw ha hr hd hp =>
  rcases hr with rfl | ⟨f, args, rfl, hc, hcall⟩ | ⟨id, args, rfl, hround⟩
  ·exact .val ho hw ha hd hp
  ·exact .call ho hw ha hc hcall hd hp
  ·exact .round ho hw ha hround hd hp
section
variable {m : Bool} {call : CallT} {round : RoundT} {k : Nat} {d : List Nat} (hc : SoundC P call) (hr : SoundR P round)
include hc hr
theorem evOp_spec {ops : Array Oper} {o : Oper} {vars : Trie AV} {t : Trie Blk} {n lo : Nat} {c : Trie AV → Trie Blk → Nat → Nat → ER} {H : List Blk} {i : Nat} (ho : ops[i]? = some o) (hH : HT t n H) {Q : ER → Prop} (hfail : ∀ w, Q (.fail w))
  (hstep : ∀ vars' t' n' lo' H', HT t' n' H' → Keep H H' lo' → lo' ≤ lo → One P m ops o ⟨k, vars, H, d⟩ ⟨k, vars', H', d⟩ → Q (c vars' t' n' lo'))
  (hpan : ∀ v t' n' lo' H', HT t' n' H' → Keep H H' lo' → lo' ≤ lo → (∀ l, APanics P ops (i :: l) ⟨k, vars, H, d⟩ v ⟨k, vars, H', d⟩) → Q (.ok (.pan v) ⟨vars, t', n', d⟩ lo')) :
  Q (evOp P m call round k d ops o vars t n lo c) := by
 unfold evOp
 rw [aopF_fun, wantF_fun]
 cases hw : wantedA ops vars o with
 | none => exact hfail _
 | some b =>
 cases b with
 | false =>
  simp only
  exact putT_spec (hfail _) fun vars' hp => hstep vars' t n lo H hH (Keep.refl _ _) (Nat.le_refl _) (.skip hw (hp H H d))
 | true =>
 simp only
 cases ha : aopT P m (get t) n (evalT vars) o with
 | none => exact hfail _
 | some r =>
 obtain ⟨ha', hokD⟩ := aopT_sound (H := H) hH.blk hH.len ha
 rw [evalT_eq k vars H d] at ha'
 cases r with
 | val v dl =>
  cases dl with
  | same => exact putT_spec (hfail _) fun vars' hp => hstep vars' t n lo H hH (Keep.refl _ _) (Nat.le_refl _) (.does hw ha' (.inl rfl) (fun _ h => h) (hp H H d))
  | push B => exact putT_spec (hfail _) fun vars' hp => hstep vars' _ _ lo (H ++ [B]) (hH.push B) (Keep.append _ _ _) (Nat.le_refl _) (.does hw ha' (.inl rfl) (keepsD_append _ _) (hp H _ d))
  | set id B =>
   obtain ⟨B0, hB0, hd0, _⟩ := hokD
   have hlt : id < n := by rw [← hH.len]; exact (List.getElem?_eq_some_iff.1 hB0).1
   have hk : Keep H (H.set id B) id := Keep.set hB0 hd0
   exact putT_spec (hfail _) fun vars' hp => lowT_spec fun l h1 h2 => hstep vars' _ _ l (H.set id B) (hH.set hlt B) (hk.mono h2) h1 (.does hw ha' (.inl rfl) hk.marks (hp H _ d))
 | call f args =>
  simp only
  cases hcal : callable P f with
  | false => exact hfail _
  | true =>
  simp only [cond_true]
  have hcf := hc f args t n
  cases hres : call f args t n with
  | fail w => exact hfail _
  | ret v t' n' l =>
   rw [hres] at hcf
   obtain ⟨H', hH', hcall, hk⟩ := hcf H hH
   exact putT_spec (hfail _) fun vars' hp => lowT_spec fun l h1 h2 => hstep vars' _ _ l H' hH' (hk.mono h2) h1 (.does hw ha' (.inr (.inl ⟨f, args, rfl, hcal, hcall⟩)) hk.marks (hp H _ d))
  | pan v t' n' l =>
   rw [hres] at hcf
   obtain ⟨H', hH', hcall, hk⟩ := hcf H hH
   exact lowT_spec fun l h1 h2 => hpan v t' n' l H' hH' (hk.mono h2) h1 fun _ => .call ho hw ha' hcal hcall hk.marks
 | round id args =>
  simp only
  have hcf := hr id args t n
  cases hres : round id args t n with
  | fail w => exact hfail _
  | ret v t' n' l =>
   rw [hres] at hcf
   obtain ⟨H', hH', hcall, hk⟩ := hcf H hH
   exact putT_spec (hfail _) fun vars' hp => lowT_spec fun l h1 h2 => hstep vars' _ _ l H' hH' (hk.mono h2) h1 (.does hw ha' (.inr (.inr ⟨id, args, rfl, hcall⟩)) hk.marks (hp H _ d))
  | pan v t' n' l => exact hfail _
 | pan v => exact hpan v t n lo H hH (Keep.refl _ _) (Nat.le_refl _) fun _ => .op ho hw ha'
theorem evOps_sound {ops : Array Oper} {H0 : List Blk} : ∀ (l : List Oper) (i : Nat), (∀ j, l[j]? = ops[i + j]?) → ∀ vars t n lo H, HT t n H → Keep H0 H lo →
  (evOps P m call round k d ops l vars t n lo).holds k H0 fun x σ' => (x = .normal ∧ APath P ops (List.range' i l.length) ⟨k, vars, H, d⟩ σ') ∨ ∃ v, x = .pan v ∧ APanics P ops (List.range' i l.length) ⟨k, vars, H, d⟩ v σ'
 | [], i, _, vars, t, n, lo, H, hH, hk => ⟨H, hH, hk, .inl ⟨rfl, .nil⟩⟩
 | o :: l, i, hl, vars, t, n, lo, H, hH, hk => by
  have ho : ops[i]? = some o := by have := hl 0; simpa using this.symm
  have hl' : ∀ j, l[j]? = ops[i + 1 + j]? := fun j => by have := hl (j + 1); simpa [Nat.add_assoc, Nat.add_comm 1 j] using this
  show (evOp P m call round k d ops o vars t n lo (evOps P m call round k d ops l)).holds k H0 _
  refine evOp_spec hc hr ho hH (Q := fun r => ER.holds k H0 _ r) (fun _ => trivial) (fun vars' t' n' lo' H' hH' hk' hlo h1 => ?_) (fun v t' n' lo' H' hH' hk' hlo h1 => ?_)
  ·have ih := evOps_sound l (i + 1) hl' vars' t' n' lo' H' hH' (hk.trans hk' hlo (Nat.le_refl _))
   generalize evOps P m call round k d ops l vars' t' n' lo' = r at ih ⊢
   cases r with
   | fail w => trivial
   | ok x e lo2 =>
    obtain ⟨H2, a, b, q⟩ := ih
    refine ⟨H2, a, b, ?_⟩
    rcases q with ⟨q1, q2⟩ | ⟨v, q1, q2⟩
    ·exact .inl ⟨q1, .cons (h1.step ho) q2⟩
    ·exact .inr ⟨v, q1, .cons (h1.step ho) q2⟩
  ·exact ⟨H', hH', hk.trans hk' hlo (Nat.le_refl _), .inr ⟨v, rfl, h1 _⟩⟩
omit hc hr in
theorem HLe_of_keep {H H' : List Blk} {lo : Nat} (h : Keep H H' lo) (hn : H.length ≤ lo) : HLe H H' := fun id B hB _ => by
 have hlt := (List.getElem?_eq_some_iff.1 hB).1
 rw [h.low id (by omega) hlt]; exact hB
def Ag (W : List Nat) (tb : Trie Blk) (H : List Blk) : Prop := ∀ id B, hideT (some W) tb id = some B → H[id]? = some B
omit hc hr in
theorem hideT_get {W : List Nat} {tb : Trie Blk} {id : Nat} {B : Blk} (h : hideT (some W) tb id = some B) : get tb id = some B ∧ B.loose = false ∧ memN W id = false := by
 unfold hideT at h
 simp only at h
 cases hm : memN W id with
 | true => rw [hm] at h; cases h
 | false =>
  rw [hm] at h
  simp only [cond_false] at h
  split at h
  ·cases h
  ·rename_i hx
   refine ⟨h, ?_, rfl⟩
   cases B with
   | row g => exact absurd h (hx g)
   | _ => rfl
omit hc hr in
theorem Ag.le {W : List Nat} {tb : Trie Blk} {H H' : List Blk} (h : Ag W tb H) (hle : HLe H H') : Ag W tb H' := fun id B hB => hle id B (h id B hB) (hideT_get hB).2.1
omit hc hr in
theorem Ag.of {W : List Nat} {t : Trie Blk} {n : Nat} {H : List Blk} (h : HT t n H) : Ag W t H := fun id B hB => h.blk id B (hideT_get hB).1
omit hc hr in
theorem aopT_same {g : Nat → Option Blk} {n : Nat} (n' : Nat) {ρ : Operand → Option AV} {o : Oper} {v : AV} (hk : okind o = .plain) (h : aopT P m g n ρ o = some (.val v .same)) : aopT P m g n' ρ o = some (.val v .same) := by
 obtain ⟨dst, op, ty, pos, after, guard⟩ := o
 cases op with
 | alloc => simp [okind] at hk
 | box => simp [okind] at hk
 | makeSlice => simp [okind] at hk
 | range => simp [okind] at hk
 | next => simp [okind] at hk
 | makeMap t r => cases r <;> simp [okind] at hk
 | call c =>
  obtain ⟨callee, cargs, argTypes⟩ := c
  cases callee with
  | value f => simp [okind] at hk
  | invoke r m => simp [okind] at hk
  | builtin b => cases b <;> simp only [okind, reduceCtorEq] at hk <;> exact h
 | _ => exact h
theorem evSeg_sound {ops : Array Oper} {mask n0 : Nat} {W : List Nat} {H0 : List Blk} : ∀ (l : List Oper) (i : Nat), (∀ j, l[j]? = ops[i + j]?) → ∀ tb nb vars t n lo H, Ag W tb H → HT t n H → n0 + ops.size ≤ n → Keep H0 H lo →
    ER.normal k H0 (fun σ' => ∃ Hs' : List (List Blk), (∀ H1 ∈ Hs', Ag W tb H1) ∧ ∀ Hs, (∀ H1 ∈ Hs', H1 ∈ Hs) → (∀ H1 ∈ Hs, Ag W tb H1) → DPath P ops (alAt P n0 ops) mask Hs (List.range' i l.length) ⟨k, vars, H, d⟩ σ')
      (evSeg P m call round k d ops mask n0 (some W) l i tb nb vars t n lo)
  | [], i, _, tb, nb, vars, t, n, lo, H, _, hH, _, hk => ⟨H, hH, hk, [], (fun _ h => by cases h), fun _ _ _ => .nil⟩
  | o :: l, i, hl, tb, nb, vars, t, n, lo, H, hag, hH, hn0, hk => by
    have ho : ops[i]? = some o := by have := hl 0; simpa using this.symm
    have hl' : ∀ j, l[j]? = ops[i + 1 + j]? := fun j => by have := hl (j + 1); simpa [Nat.add_assoc, Nat.add_comm 1 j] using this
    -- one step that is no barrier
    have go : ∀ vars' t' n' lo' H' (hm : mask.testBit i = false), HT t' n' H' → Ag W tb H' → Keep H H' lo' → lo' ≤ lo →
        (∀ Hs, H' ∈ Hs ∨ HLe H H' → (∀ H1 ∈ Hs, Ag W tb H1) → DStep P ops (alAt P n0 ops) Hs i ⟨k, vars, H, d⟩ ⟨k, vars', H', d⟩) →
        ER.normal k H0 (fun σ' => ∃ Hs' : List (List Blk), (∀ H1 ∈ Hs', Ag W tb H1) ∧ ∀ Hs, (∀ H1 ∈ Hs', H1 ∈ Hs) → (∀ H1 ∈ Hs, Ag W tb H1) → DPath P ops (alAt P n0 ops) mask Hs (List.range' i (o :: l).length) ⟨k, vars, H, d⟩ σ')
          (evSeg P m call round k d ops mask n0 (some W) l (i + 1) tb nb vars' t' n' lo') := by
      intro vars' t' n' lo' H' hm hH' hag' hk' hlo hs
      have ih := evSeg_sound (mask := mask) (n0 := n0) (W := W) l (i + 1) hl' tb nb vars' t' n' lo' H' hag' hH' (by have := hk'.le; have := hH.len; have := hH'.len; omega) (hk.trans hk' hlo (Nat.le_refl _))
      generalize evSeg P m call round k d ops mask n0 (some W) l (i + 1) tb nb vars' t' n' lo' = r at ih ⊢
      cases r with
      | fail w => trivial
      | ok x e lo2 =>
        cases x with
        | normal =>
          obtain ⟨H2, a, b, Hs', q1, q2⟩ := ih
          refine ⟨H2, a, b, H' :: Hs', ?_, fun Hs h1 h2 => .cons hm (hs Hs (.inl (h1 _ (by simp))) h2) (q2 Hs (fun H1 h => h1 H1 (by simp [h])) h2)⟩
          intro H1 h
          rcases List.mem_cons.1 h with rfl | h
          · exact hag'
          · exact q1 H1 h
        | _ => trivial
    show ER.normal k H0 _ (bif Nat.testBit mask i then _ else _ : ER)
    cases hm : Nat.testBit mask i with
    | true =>
      simp only [cond_true]
      refine evOp_spec hc hr ho hH (Q := fun r => ER.normal k H0 _ r) (fun _ => trivial) (fun vars' t' n' l1 H' hH' hk' _ h1 => ?_) (fun v t' n' lo' H' hH' hk' hlo h1 => trivial)
      cases hcond : (noLay P l || Nat.ble n l1) with
      | false => trivial
      | true =>
      simp only [cond_true]
      refine lowT_spec (Q := fun r => ER.normal k H0 _ r) fun lo' h2 h3 => ?_
      have ih := evSeg_sound (mask := mask) (n0 := n0) (W := W) l (i + 1) hl' t' n' vars' t' n' lo' H' (Ag.of hH') hH' (by have := hk'.le; have := hH.len; have := hH'.len; omega) (hk.trans hk' h2 h3)
      show ER.normal k H0 _ (evSeg P m call round k d ops mask n0 (some W) l (i + 1) t' n' vars' t' n' lo')
      generalize evSeg P m call round k d ops mask n0 (some W) l (i + 1) t' n' vars' t' n' lo' = r at ih ⊢
      cases r with
      | fail w => trivial
      | ok x e lo2 =>
        cases x with
        | normal =>
          obtain ⟨H2, a, b, Hs', q1, q2⟩ := ih
          refine ⟨H2, a, b, [], (fun _ h => by cases h), fun Hs _ _ => .barrier (Hs' := H' :: Hs') hm (h1.step ho) (fun j hj id hal => ?_) ⟨H', by simp, HLe.refl _⟩
            (q2 (H' :: Hs') (fun H1 h => by simp [h]) fun H1 h => ?_)⟩
          · have hal' := alAt_spec hal
            rw [Bool.or_eq_true] at hcond
            rcases hcond with hcond | hcond
            · exfalso
              unfold noLay at hcond
              rw [List.all_eq_true] at hcond
              rw [List.mem_range'_1] at hj
              have hj2 : l[j - (i + 1)]? = ops[j]? := by rw [hl']; congr 1; omega
              unfold alAt at hal
              split at hal
              · rename_i oj hoj
                rw [hoj] at hj2
                have := hcond oj (List.mem_of_getElem? hj2)
                split at hal
                · rename_i B hB; rw [hB] at this; simp at this
                · cases hal
              · cases hal
            · have hle1 := Nat.le_of_ble_eq_true hcond
              show H'[id]? = H[id]?
              exact hk'.low id (by omega) (by rw [hH.len]; omega)
          · rcases List.mem_cons.1 h with rfl | h
            · exact Ag.of hH'
            · exact q1 H1 h
        | _ => trivial
    | false =>
      simp only [cond_false]
      have skip : ∀ (hw : wantedA ops vars o = some false), ER.normal k H0 (fun σ' => ∃ Hs' : List (List Blk), (∀ H1 ∈ Hs', Ag W tb H1) ∧ ∀ Hs, (∀ H1 ∈ Hs', H1 ∈ Hs) → (∀ H1 ∈ Hs, Ag W tb H1) → DPath P ops (alAt P n0 ops) mask Hs (List.range' i (o :: l).length) ⟨k, vars, H, d⟩ σ')
          (putT k (.fail o.pos) o.dst (.lit undef) vars fun vars' => evSeg P m call round k d ops mask n0 (some W) l (i + 1) tb nb vars' t n lo) := fun hw =>
        putT_spec (Q := fun r => ER.normal k H0 _ r) trivial fun vars' hp => go vars' t n lo H hm hH hag (Keep.refl _ _) (Nat.le_refl _) fun _ _ _ => ⟨o, _, H, ho, .skip hw, hp H H d⟩
      cases hok : okind o with
      | plain =>
        simp only
        cases hw : wantF ops vars o with
        | none => trivial
        | some b =>
        cases b with
        | false => exact skip (by rw [wantF_fun] at hw; exact hw)
        | true =>
          rw [wantF_fun] at hw
          simp only
          cases ha : aopF P m (hideT (some W) tb) nb (evalT vars) o with
          | none => trivial
          | some r =>
          cases r with
          | val v dl =>
            cases dl with
            | same =>
              have key : ∀ H1, Ag W tb H1 → aop P m H1 (St.eval ⟨k, vars, H, d⟩) o = some (.val v H1) := fun H1 h1 => by
                have := (aopT_sound (H := H1) h1 rfl (aopT_same H1.length hok (by rw [aopF_fun] at ha; exact ha))).1
                rw [evalT_eq k vars H d] at this
                exact this
              exact putT_spec (Q := fun r => ER.normal k H0 _ r) trivial fun vars' hp => go vars' t n lo H hm hH hag (Keep.refl _ _) (Nat.le_refl _) fun Hs _ hall =>
                ⟨o, v, H, ho, .plain hok hw (key H hag) (fun H1 h1 => key H1 (hall H1 h1)), hp H H d⟩
            | _ => trivial
          | _ => trivial
      | lay =>
        simp only
        cases hw : wantF ops vars o with
        | none => trivial
        | some b =>
        cases b with
        | false => exact skip (by rw [wantF_fun] at hw; exact hw)
        | true =>
          rw [wantF_fun] at hw
          simp only
          cases hB : layB P o with
          | none => trivial
          | some B =>
            exact putT_spec (Q := fun r => ER.normal k H0 _ r) trivial fun vars' hp => go vars' t n lo H hm hH hag (Keep.refl _ _) (Nat.le_refl _) fun _ _ _ =>
              ⟨o, layV o (n0 + i), H, ho, .lay hok hw hB (by simp [alAt, ho, hB]), hp H H d⟩
      | eff =>
        simp only
        have gen : ER.normal k H0 (fun σ' => ∃ Hs' : List (List Blk), (∀ H1 ∈ Hs', Ag W tb H1) ∧ ∀ Hs, (∀ H1 ∈ Hs', H1 ∈ Hs) → (∀ H1 ∈ Hs, Ag W tb H1) → DPath P ops (alAt P n0 ops) mask Hs (List.range' i (o :: l).length) ⟨k, vars, H, d⟩ σ')
            (evOp P m call round k d ops o vars t n noLo fun vars' t' n' l1 => bif Nat.ble n l1 then evSeg P m call round k d ops mask n0 (some W) l (i + 1) tb nb vars' t' n' lo else .fail o.pos) := by
          refine evOp_spec hc hr ho hH (Q := fun r => ER.normal k H0 _ r) (fun _ => trivial) (fun vars' t' n' l1 H' hH' hk' hl1 h1 => ?_) (fun v t' n' lo' H' hH' hk' hlo h1 => trivial)
          cases hcond : Nat.ble n l1 with
          | false => trivial
          | true =>
            simp only [cond_true]
            have hle1 := Nat.le_of_ble_eq_true hcond
            have hle2 : HLe H H' := HLe_of_keep hk' (by rw [hH.len]; exact hle1)
            have hk2 : Keep H H' lo := ⟨hk'.le, fun id _ hlt => hk'.low id (by have := hH.len; omega) hlt, hk'.marks⟩
            refine go vars' t' n' lo H' hm hH' (hag.le hle2) hk2 (Nat.le_refl _) fun Hs _ _ => ?_
            cases h1 with
            | skip hw hp => exact ⟨o, _, _, ho, .skip hw, hp⟩
            | does hw ha hr' hd hp =>
              rename_i r v H1
              have e := (putA_H hp).1
              have e' : H' = H1 := e
              subst e'
              exact ⟨o, v, _, ho, .eff hok hw ha hr' hle2, hp⟩
        split
        · rename_i v id g hw ha
          rw [wantF_fun] at hw
          rw [aopF_fun] at ha
          obtain ⟨ha', B0, hB0, hd0, hloose⟩ := aopT_sound (H := H) hH.blk hH.len ha
          rw [evalT_eq k vars H d] at ha'
          have hlt : id < n := by rw [← hH.len]; exact (List.getElem?_eq_some_iff.1 hB0).1
          have hk' : Keep H (H.set id (.row g)) id := Keep.set hB0 hd0
          have hle2 : HLe H (H.set id (.row g)) := fun j B hB hl => by
            rw [List.getElem?_set_ne]
            · exact hB
            · rintro rfl; rw [hB0] at hB; cases hB; rw [hloose rfl] at hl; cases hl
          exact putT_spec (Q := fun r => ER.normal k H0 _ r) trivial fun vars' hp => lowT_spec (Q := fun r => ER.normal k H0 _ r) fun lo' h2 h3 =>
            go vars' _ n lo' _ hm (hH.set hlt (.row g)) (hag.le hle2) (hk'.mono h3) h2 fun Hs _ _ => ⟨o, v, _, ho, .eff hok hw ha' (.inl rfl) hle2, hp H _ d⟩
        · exact gen
      | store =>
        simp only
        cases hw : wantF ops vars o with
        | none => trivial
        | some b =>
        cases b with
        | false => trivial
        | true =>
        rw [wantF_fun] at hw
        simp only
        cases ha : aopF P m (get t) n (evalT vars) o with
        | none => trivial
        | some r =>
        cases r with
        | val v dl =>
          cases dl with
          | set id B =>
            simp only
            cases hw2 : inW (some W) id with
            | false => trivial
            | true =>
            simp only [cond_true]
            obtain ⟨ha', B0, hB0, hd0, hloose⟩ := aopT_sound (H := H) hH.blk hH.len (by rw [aopF_fun] at ha; exact ha)
            rw [evalT_eq k vars H d] at ha'
            have hlt : id < n := by rw [← hH.len]; exact (List.getElem?_eq_some_iff.1 hB0).1
            have hk' : Keep H (H.set id B) id := Keep.set hB0 hd0
            have hag' : Ag W tb (H.set id B) := fun j Bj hj => by
              have hx := hideT_get hj
              rw [List.getElem?_set_ne]
              · exact hag j Bj hj
              · rintro rfl
                have : memN W id = true := hw2
                rw [this] at hx; cases hx.2.2
            refine putT_spec (Q := fun r => ER.normal k H0 _ r) trivial fun vars' hp => lowT_spec (Q := fun r => ER.normal k H0 _ r) fun lo' h2 h3 => ?_
            have ih := evSeg_sound (mask := mask) (n0 := n0) (W := W) l (i + 1) hl' tb nb vars' _ n lo' _ hag' (hH.set hlt B) hn0 (hk.trans hk' h2 h3)
            show ER.normal k H0 _ (evSeg P m call round k d ops mask n0 (some W) l (i + 1) tb nb vars' (Vm.set t id B) n lo')
            generalize evSeg P m call round k d ops mask n0 (some W) l (i + 1) tb nb vars' (Vm.set t id B) n lo' = r at ih ⊢
            cases r with
            | fail w => trivial
            | ok x e lo2 =>
              cases x with
              | normal =>
                obtain ⟨H2, a, b, Hs', q1, q2⟩ := ih
                refine ⟨H2, a, b, (H.set id B) :: Hs', ?_, fun Hs h1 h2 => .cons hm ⟨o, v, _, ho, .store hok hw ha' ⟨H.set id B, h1 _ (by simp), HLe.refl _⟩ hk'.marks, hp H _ d⟩ (q2 Hs (fun H1 h => h1 H1 (by simp [h])) h2)⟩
                intro H1 h
                rcases List.mem_cons.1 h with rfl | h
                · exact hag'
                · exact q1 H1 h
              | _ => trivial
          | _ => trivial
        | _ => trivial
omit hc hr in
theorem hoistT_sound : ∀ (l : List Oper) (j : Nat) (t : Trie Blk) (H : List Blk), HT t j H → HT (hoistT P l j t) (j + l.length) (H ++ l.map fun o => (layB P o).getD .defd)
 | [], j, t, H, h => by
  have e : H ++ ([] : List Oper).map (fun o => (layB P o).getD .defd) = H := by simp
  rw [e]; exact h
 | o :: l, j, t, H, h => by
  have e : j + (o :: l).length = j + 1 + l.length := by simp; omega
  rw [e]
  show HT (match layB P o with | some B => hoistT P l (j + 1) (set t j B) | none => hoistT P l (j + 1) t) _ _
  cases hB : layB P o with
  | some B =>
   have := hoistT_sound l (j + 1) (set t j B) (H ++ [B]) (h.push B)
   simpa [hB] using this
  | none =>
   have := hoistT_sound l (j + 1) t (H ++ [.defd]) (h.skip .defd)
   simpa [hB] using this
theorem evDrawW_sound {ops : Array Oper} {W : List Nat} {vars : Trie AV} {t : Trie Blk} {n lo id : Nat} {H H0 : List Blk} {ro : Option Nat} (hm : P.follows .mixedOrders = true) (hd : drawOk (maskOf ops) ops = true)
  (hH : HT t n H) (hk : Keep H0 H lo) :
  ER.holds k H0 (fun x σ' => Run P ro (.region id ops true) ⟨k, vars, H, d⟩ x σ') (evDrawW P m call round k d ops (some W) vars t n lo) := by
 unfold evDrawW
 have hH1 : HT (hoistT P ops.toList n t) (n + ops.size) (H ++ hoisted P ops) := by
  have := hoistT_sound (P := P) ops.toList n t H hH
  simpa [hoisted] using this
 have hs := evSeg_sound (k := k) (d := d) (m := m) hc hr (ops := ops) (mask := maskOf ops) (n0 := n) (W := W) (H0 := H0) ops.toList 0 (fun j => by simp) (hoistT P ops.toList n t) (n + ops.size) vars (hoistT P ops.toList n t) (n + ops.size) lo
  (H ++ hoisted P ops) (Ag.of hH1) hH1 (Nat.le_refl _) (hk.trans (Keep.append H _ lo) (Nat.le_refl _) (Nat.le_refl _))
 generalize evSeg P m call round k d ops (maskOf ops) n (some W) ops.toList 0 (hoistT P ops.toList n t) (n + ops.size) vars (hoistT P ops.toList n t) (n + ops.size) lo = r at hs ⊢
 cases r with
 | fail w => trivial
 | ok x e lo' =>
  cases x with
  | normal =>
   obtain ⟨H2, a, b, Hs', q1, q2⟩ := hs
   refine ⟨H2, a, b, ?_⟩
   refine Run.region_draw (Hs := (H ++ hoisted P ops) :: Hs') hm hd (by simp) ?_
   have := q2 ((H ++ hoisted P ops) :: Hs') (fun H1 h => by simp [h]) (fun H1 h => by
    rcases List.mem_cons.1 h with rfl | h
    ·exact Ag.of hH1
    ·exact q1 H1 h)
   simp only [hH.len]
   simpa [List.range_eq_range'] using this
  | _ => trivial
theorem evDraw_sound {ops : Array Oper} {vars : Trie AV} {t : Trie Blk} {n lo id : Nat} {H H0 : List Blk} {ro : Option Nat} (hm : P.follows .mixedOrders = true)
  (hH : HT t n H) (hk : Keep H0 H lo) :
  ER.holds k H0 (fun x σ' => Run P ro (.region id ops true) ⟨k, vars, H, d⟩ x σ') (evDraw P m call round k d ops vars t n lo) := by
 unfold evDraw
 cases hd : drawOk (maskOf ops) ops with
 | false => trivial
 | true =>
 simp only [cond_true]
 cases hst : hasStore (maskOf ops) ops.toList 0 with
 | false => exact evDrawW_sound hc hr hm hd hH hk
 | true =>
  simp only [cond_true]
  split
  ·exact evDrawW_sound hc hr hm hd hH hk
  ·trivial
end
end Go.Vm

namespace Go.Vm
variable {P : Program}
theorem ER.holds_mono {k : Nat} {H0 : List Blk} {Q Q' : AExit → St → Prop} {r : ER} (h : ER.holds k H0 Q r) (hq : ∀ x σ, Q x σ → Q' x σ) : ER.holds k H0 Q' r := by
 cases r with
 | fail w => trivial
 | ok x e lo => obtain ⟨H, a, b, q⟩ := h; exact ⟨H, a, b, hq _ _ q⟩
section
variable {m : Bool} {call : CallT} {round : RoundT} {k : Nat} (hm : P.follows .mixedOrders = true) (hc : SoundC P call) (hr : SoundR P round)
theorem evLoop_sound {ro : Option Nat} {c : Code} {body : Trie AV → Trie Blk → Nat → List Nat → Nat → ER}
  (hb : ∀ vars t n d lo H H0, HT t n H → Keep H0 H lo → ER.holds k H0 (fun x σ' => Run P ro c ⟨k, vars, H, d⟩ x σ') (body vars t n d lo)) : ∀ (fuel : Nat) vars t n d lo H H0, HT t n H → Keep H0 H lo →
  ER.holds k H0 (fun x σ' => InL P ro c ⟨k, vars, H, d⟩ x σ') (evLoop body fuel vars t n d lo)
 | 0, _, _, _, _, _, _, _, _, _ => trivial
 | fuel + 1, vars, t, n, d, lo, H, H0, hH, hk => by
  have h1 := hb vars t n d lo H H0 hH hk
  show ER.holds k H0 _ (match body vars t n d lo with | .ok .normal e lo' => evLoop body fuel e.vars e.t e.n e.defs lo' | r => r)
  generalize body vars t n d lo = r at h1 ⊢
  cases r with
  | fail w => trivial
  | ok x e lo' =>
   obtain ⟨H1, a, b, q⟩ := h1
   cases x with
   | normal => exact ER.holds_mono (evLoop_sound hb fuel e.vars e.t e.n e.defs lo' H1 H0 a b) fun x σ h => .go q h
   | _ => exact ⟨H1, a, b, .out q rfl⟩
theorem busy_of {s : LoopState} (h : isBusy s = false) : s ≠ .busy := by rintro rfl; cases h
include hc in
theorem evRange_sound {ro : Option Nat} {g : Operand} {ps : Array Tmp} {assign body : Code} {vars : Trie AV} {t : Trie Blk} {n : Nat} {d : List Nat} {lo : Nat} {H H0 : List Blk} (hH : HT t n H) (hk : Keep H0 H lo) :
  ER.holds k H0 (fun x σ' => Run P ro (.rangeFunc g ps assign body) ⟨k, vars, H, d⟩ x σ') (evRange P call k ro g ps assign body vars t n d lo) := by
 have hl := hH.len
 unfold evRange
 cases hfv : evalT vars g with
 | none => trivial
 | some fv =>
 have hg : St.eval ⟨k, vars, H, d⟩ g = some fv := by rw [← evalT_eq]; exact hfv
 simp only
 cases hf : fnOf fv with
 | none => trivial
 | some p =>
 obtain ⟨f, first, captured⟩ := p
 simp only
 cases hcal : callable P f with
 | false => trivial
 | true =>
 simp only [cond_true]
 cases ro with
 | none =>
  simp only
  have hH2 : HT (set t (n + 1) (.loop (loop0 ⟨k, vars, [], []⟩ ps assign body n))) (n + 2) (H ++ [.defd, .loop (loop0 ⟨k, vars, H, d⟩ ps assign body H.length)]) := by
   have := (hH.skip .defd).push (.loop (loop0 ⟨k, vars, [], []⟩ ps assign body n))
   rw [hl]
   rw [List.append_assoc] at this
   exact this
  have hcf := hc f (first ++ [.yld (n + 1)] ++ captured) (set t (n + 1) (.loop (loop0 ⟨k, vars, [], []⟩ ps assign body n))) (n + 2)
  generalize call f (first ++ [.yld (n + 1)] ++ captured) (set t (n + 1) (.loop (loop0 ⟨k, vars, [], []⟩ ps assign body n))) (n + 2) = r at hcf ⊢
  cases r with
  | fail w => trivial
  | pan => trivial
  | ret v t2 n2 l =>
   obtain ⟨H2, hHT2, hcall, hkeep⟩ := hcf _ hH2
   simp only
   cases hg2 : get t2 (n + 1) with
   | none => trivial
   | some B =>
   cases B with
   | loop l' =>
    simp only
    cases hb : isBusy l'.state with
    | true => trivial
    | false =>
    simp only [cond_false]
    cases hj : jumpTo l'.pending with
    | none => trivial
    | some x =>
     refine lowT_spec (Q := fun r => ER.holds k H0 _ r) fun lo' h1 h2 => ?_
     have hl2 := hHT2.blk _ _ hg2
     have hlt2 := hHT2.lt hg2
     have hle2 : H.length + 2 ≤ H2.length := by have := hkeep.le; simp at this; omega
     refine ⟨H2.set (n + 1) (.loop { l' with state := .exhausted }), hHT2.set hlt2 _, ?_, ?_⟩
     ·refine ⟨by have := hk.le; simp; omega, fun id a b => ?_, fun id hid => ?_⟩
      ·have hid1 : id < H.length := by have := hk.le; omega
       rw [List.getElem?_set_ne (by omega), hkeep.low id (by omega) (by simp; omega), List.getElem?_append_left hid1]
       exact hk.low id (by omega) b
      ·exact keepsD_set hl2 id (hkeep.marks id (keepsD_append _ _ id (hk.marks id hid)))
     ·have := Run.rangeFunc_outer (P := P) (g := g) (ps := ps) (assign := assign) (body := body) (σ := ⟨k, vars, H, d⟩) (f := f) (first := first) (captured := captured) (v := v) (fv := fv) (H2 := H2) (l' := l') (e := x)
       hg hf hcal (by rw [← hl] at hcall; exact hcall) (by rw [← hl] at hl2; exact hl2) (busy_of hb) (fun id hid => hkeep.marks id (by
        have := keepsD_append (H ++ [Blk.defd]) [.loop (loop0 ⟨k, vars, H, d⟩ ps assign body H.length)] id hid
        simpa using this)) hj
      simpa [hl] using this
   | _ => trivial
 | some ido =>
  simp only
  cases ho : get t ido with
  | none => trivial
  | some B =>
  cases B with
  | loop l0 =>
   simp only
   have hH2 : HT (set t n (.loop (loop0 ⟨k, vars, [], []⟩ ps assign body l0.defers))) (n + 1) (H ++ [.loop (loop0 ⟨k, vars, H, d⟩ ps assign body l0.defers)]) := hH.push _
   have hcf := hc f (first ++ [.yld n] ++ captured) (set t n (.loop (loop0 ⟨k, vars, [], []⟩ ps assign body l0.defers))) (n + 1)
   generalize call f (first ++ [.yld n] ++ captured) (set t n (.loop (loop0 ⟨k, vars, [], []⟩ ps assign body l0.defers))) (n + 1) = r at hcf ⊢
   cases r with
   | fail w => trivial
   | pan => trivial
   | ret v t2 n2 l =>
    obtain ⟨H2, hHT2, hcall, hkeep⟩ := hcf _ hH2
    simp only
    cases hg2 : get t2 n with
    | none => trivial
    | some B =>
    cases B with
    | loop l' =>
     simp only
     cases hb : isBusy l'.state with
     | true => trivial
     | false =>
     simp only [cond_false]
     cases hj : jumpTo l'.pending with
     | none => trivial
     | some x =>
      refine lowT_spec (Q := fun r => ER.holds k H0 _ r) fun lo' h1 h2 => ?_
      have hl2 := hHT2.blk _ _ hg2
      have hlt2 := hHT2.lt hg2
      have hle2 : H.length + 1 ≤ H2.length := by have := hkeep.le; simp at this; omega
      refine ⟨H2.set n (.loop { l' with state := .exhausted }), hHT2.set hlt2 _, ?_, ?_⟩
      ·refine ⟨by have := hk.le; simp; omega, fun id a b => ?_, fun id hid => ?_⟩
       ·have hid1 : id < H.length := by have := hk.le; omega
        rw [List.getElem?_set_ne (by omega), hkeep.low id (by omega) (by simp; omega), List.getElem?_append_left hid1]
        exact hk.low id (by omega) b
       ·exact keepsD_set hl2 id (hkeep.marks id (keepsD_append _ _ id (hk.marks id hid)))
      ·have := Run.rangeFunc_inner (P := P) (ido := ido) (lo := l0) (g := g) (ps := ps) (assign := assign) (body := body) (σ := ⟨k, vars, H, d⟩) (f := f) (first := first) (captured := captured) (v := v) (fv := fv) (H2 := H2) (l' := l') (e := x)
        (hH.blk _ _ ho) hg hf hcal (by rw [← hl] at hcall; exact hcall) (by rw [← hl] at hl2; exact hl2) (busy_of hb) (fun id hid => hkeep.marks id (keepsD_append _ _ id hid)) hj
       simpa [hl] using this
    | _ => trivial
  | _ => trivial
include hm hc hr in
theorem evCode_sound {ro : Option Nat} : ∀ (c : Code) vars t n d lo H H0, HT t n H → Keep H0 H lo →
  ER.holds k H0 (fun x σ' => Run P ro c ⟨k, vars, H, d⟩ x σ') (evCode P m call round k ro c vars t n d lo) := by
 intro c
 induction c with
 | skip => intro vars t n d lo H H0 hH hk; exact ⟨H, hH, hk, .skip⟩
 | region id ops draw =>
  intro vars t n d lo H H0 hH hk
  cases draw with
  | true => exact evDraw_sound hc hr hm hH hk
  | false =>
   show ER.holds k H0 _ (evOps P m call round k d ops ops.toList vars t n lo)
   refine ER.holds_mono (evOps_sound (ops := ops) hc hr ops.toList 0 (fun j => by simp) vars t n lo H hH hk) ?_
   rintro x σ (⟨rfl, h⟩ | ⟨v, rfl, h⟩)
   ·exact Run.region (by simpa [List.range_eq_range'] using h)
   ·exact Run.region_pan (by simpa [List.range_eq_range'] using h)
 | seq a b iha ihb =>
  intro vars t n d lo H H0 hH hk
  have h1 := iha vars t n d lo H H0 hH hk
  show ER.holds k H0 _ (match evCode P m call round k ro a vars t n d lo with | .ok .normal e lo' => evCode P m call round k ro b e.vars e.t e.n e.defs lo' | r => r)
  generalize evCode P m call round k ro a vars t n d lo = r at h1 ⊢
  cases r with
  | fail w => trivial
  | ok x e lo' =>
   obtain ⟨H1, hH1, hk1, q⟩ := h1
   cases x with
   | normal => exact ER.holds_mono (ihb e.vars e.t e.n e.defs lo' H1 H0 hH1 hk1) fun x σ h => .seq q h
   | _ => exact ⟨H1, hH1, hk1, .seq_out q rfl⟩
 | cond c a b iha ihb =>
  intro vars t n d lo H H0 hH hk
  show ER.holds k H0 _ (match evalT vars c with | some (.lit (.bool true)) => evCode P m call round k ro a vars t n d lo | some (.lit (.bool false)) => evCode P m call round k ro b vars t n d lo | _ => .fail "code")
  split
  ·rename_i he
   rw [evalT_eq k vars H d] at he
   exact ER.holds_mono (iha vars t n d lo H H0 hH hk) fun x σ h => .cond he h
  ·rename_i he
   rw [evalT_eq k vars H d] at he
   exact ER.holds_mono (ihb vars t n d lo H H0 hH hk) fun x σ h => .cond he h
  ·trivial
 | block i c ih =>
  intro vars t n d lo H H0 hH hk
  have h1 := ih vars t n d lo H H0 hH hk
  show ER.holds k H0 _ (match evCode P m call round k ro c vars t n d lo with | .ok (.exit j) e lo' => bif Nat.beq i j then .ok .normal e lo' else .ok (.exit j) e lo' | r => r)
  generalize evCode P m call round k ro c vars t n d lo = r at h1 ⊢
  cases r with
  | fail w => trivial
  | ok x e lo' =>
   obtain ⟨H1, hH1, hk1, q⟩ := h1
   cases x with
   | normal => exact ⟨H1, hH1, hk1, .block q (.inl rfl)⟩
   | exit j =>
    simp only
    cases hb : Nat.beq i j with
    | true =>
     have := Nat.eq_of_beq_eq_true hb
     subst this
     exact ⟨H1, hH1, hk1, .block q (.inr rfl)⟩
    | false =>
     refine ⟨H1, hH1, hk1, .block_out q ?_⟩
     have : j ≠ i := by rintro rfl; rw [Nat.beq_refl] at hb; cases hb
     simp [AExit.passes, this]
   | ret => exact ⟨H1, hH1, hk1, .block_out q rfl⟩
   | pan v => exact ⟨H1, hH1, hk1, .block_out q rfl⟩
 | loop c ih =>
  intro vars t n d lo H H0 hH hk
  exact ER.holds_mono (evLoop_sound ih 100000 vars t n d lo H H0 hH hk) fun x σ h => .loop h
 | rangeFunc g ps assign body _ _ =>
  intro vars t n d lo H H0 hH hk
  exact evRange_sound hc hH hk
 | exit i => intro vars t n d lo H H0 hH hk; exact ⟨H, hH, hk, .exit⟩
 | scope c ih =>
  intro vars t n d lo H H0 hH hk
  exact ER.holds_mono (ih vars t n d lo H H0 hH hk) fun x σ h => .scope h
 | label l => intro vars t n d lo H H0 hH hk; exact ⟨H, hH, hk, .label⟩
 | goto l => intro vars t n d lo H H0 hH hk; trivial
 | ret => intro vars t n d lo H H0 hH hk; exact ⟨H, hH, hk, .ret⟩
 | refuse w => intro vars t n d lo H H0 hH hk; trivial
theorem underB_iff {n : Nat} : (∀ a : AV, AV.underB n a = true → a.under n) ∧ ∀ as : List AV, AV.undersB n as = true → AV.unders n as := by
  have blt : ∀ {id : Nat}, Nat.blt id n = true → id < n := fun h => Nat.le_of_ble_eq_true h
  refine ⟨fun a => AV.rec (motive_1 := fun a => AV.underB n a = true → a.under n) (motive_2 := fun as => AV.undersB n as = true → AV.unders n as) ?_ ?_ ?_ ?_ ?_ ?_ ?_ ?_ ?_ ?_ ?_ ?_ ?_ ?_ ?_ ?_ a,
    fun as => AV.rec_1 (motive_1 := fun a => AV.underB n a = true → a.under n) (motive_2 := fun as => AV.undersB n as = true → AV.unders n as) ?_ ?_ ?_ ?_ ?_ ?_ ?_ ?_ ?_ ?_ ?_ ?_ ?_ ?_ ?_ ?_ as⟩
  all_goals first
    | (intro v _; simp only [AV.under]; done)
    | (intro cells ih h; simp only [AV.under, AV.underB] at h ⊢; exact ih h)
    | (intro id off h; simp only [AV.under, AV.underB] at h ⊢; exact blt h)
    | (intro id h; simp only [AV.under, AV.underB] at h ⊢; exact blt h)
    | (intro id off len cap h; simp only [AV.under, AV.underB] at h ⊢; exact blt h)
    | (intro id off len h; simp only [AV.under, AV.underB] at h ⊢; exact blt h)
    | (intro len cells tail ih h
       simp only [AV.under, AV.underB, Bool.and_eq_true] at h ⊢
       refine ⟨ih h.2, ?_⟩
       cases tail with
       | own id g sz => exact blt h.1
       | _ => trivial)
    | (intro f first captured ih1 ih2 h; simp only [AV.under, AV.underB, Bool.and_eq_true] at h ⊢; exact ⟨ih1 h.1, ih2 h.2⟩)
    | (intro t v ih h; simp only [AV.under, AV.underB] at h ⊢; exact ih h)
    | (intro _; simp only [AV.unders]; done)
    | (intro _; simp only [AV.under]; done)
    | (intro a as ih1 ih2 h; simp only [AV.unders, AV.undersB, Bool.and_eq_true] at h ⊢; exact ⟨ih1 h.1, ih2 h.2⟩)
theorem resT_sound {t : Trie Blk} {n : Nat} {H : List Blk} (hH : HT t n H) {vars : Trie AV} {d : List Nat} : ∀ {rs : List ResultVar} {vs : List AV}, resT P (get t) vars rs = some vs → resA P ⟨k, vars, H, d⟩ rs = some vs
 | [], vs, h => h
 | .tmp x :: rs, vs, h => by
  simp only [resT] at h
  simp only [resA]
  split at h
  ·cases h
  ·rename_i v hv
   split at h
   ·cases h
   ·rename_i vs' hvs
    cases h
    rw [hv, resT_sound hH hvs]
 | .cell x ty :: rs, vs, h => by
  simp only [resT] at h
  simp only [resA]
  split at h
  ·cases h
  ·rename_i a ha
   split at h
   ·cases h
   ·rename_i v hv
    split at h
    ·cases h
    ·rename_i vs' hvs
     cases h
     rw [ha, resT_sound hH hvs]
     simp only [Option.bind_some, loadT_sound hH.blk hv]
theorem spendT_sound : ∀ (l : List Nat) {t : Trie Blk} {n : Nat} {H : List Blk}, HT t n H → (∀ id ∈ l, id < n) → HT (spendT l t) n (spend l H)
 | [], _, _, _, h, _ => h
 | id :: l, t, n, H, h, hl => spendT_sound l (h.set (hl id (by simp)) .spent) fun j hj => hl j (by simp [hj])
theorem spend_length : ∀ (l : List Nat) (H : List Blk), (spend l H).length = H.length
 | [], _ => rfl
 | id :: l, H => by unfold spend; rw [spend_length l]; simp
theorem spend_other : ∀ (l : List Nat) (H : List Blk) (j : Nat), j ∉ l → (spend l H)[j]? = H[j]?
 | [], _, _, _ => rfl
 | id :: l, H, j, h => by
  unfold spend
  rw [spend_other l _ j (fun hm => h (by simp [hm])), List.getElem?_set_ne (fun e => h (by simp [e]))]
theorem nodupB_sound : ∀ {l : List Nat}, nodupB l = true → l.Nodup
 | [], _ => List.nodup_nil
 | a :: l, h => by
  simp only [nodupB, Bool.and_eq_true, List.all_eq_true] at h
  refine List.nodup_cons.2 ⟨fun hm => ?_, nodupB_sound h.2⟩
  have := h.1 a hm
  simp [Nat.beq_refl] at this
theorem evFin_sound {f : FuncId} {fn : Func} {c : Code} {args : List AV} {t : Trie Blk} {n : Nat} {e : ES} {lo : Nat} {x : AExit} (hf : P.funcs[f]? = some fn) (hb : fn.body = some c) (hn : args.length ≤ fn.ntmps) (hx : x = .ret ∨ x = .normal)
  (h : ∀ H, HT t n H → ∃ H', HT e.t e.n H' ∧ Keep H H' lo ∧ Run P none c ⟨fn.ntmps, initVars 0 args, H, []⟩ x ⟨fn.ntmps, e.vars, H', e.defs⟩) : CRok P f args t n (evFin P fn.results.toList t n e lo) := by
 unfold evFin
 cases hd : (e.defs.all (fun d => Nat.ble n d && Nat.blt d e.n) && nodupB e.defs) with
 | false => trivial
 | true =>
 simp only [cond_true]
 rw [Bool.and_eq_true, List.all_eq_true] at hd
 have hdn : ∀ d ∈ e.defs, n ≤ d ∧ d < e.n := fun d hdm => by
  have := hd.1 d hdm
  rw [Bool.and_eq_true] at this
  exact ⟨Nat.le_of_ble_eq_true this.1, Nat.le_of_ble_eq_true this.2⟩
 cases hres : resT P (get (spendT e.defs e.t)) e.vars fn.results.toList with
 | none => trivial
 | some vs =>
 simp only
 have main : ∀ H, HT t n H → ∃ H', HT e.t e.n H' ∧ Keep H H' lo ∧ HT (spendT e.defs e.t) e.n (spend e.defs H') ∧ Keep H (spend e.defs H') lo ∧ ACall P f args H (.ret (resV vs)) (spend e.defs H') := by
  intro H hH
  obtain ⟨H', hH', hk, hrun⟩ := h H hH
  have hs := spendT_sound e.defs hH' fun d hdm => (hdn d hdm).2
  have hl := hH.len
  have hk2 : Keep H (spend e.defs H') lo := by
   refine ⟨by rw [spend_length]; exact hk.le, fun id a b => ?_, fun id hid => ?_⟩
   ·rw [spend_other _ _ _ fun hm => by have := (hdn id hm).1; omega]; exact hk.low id a b
   ·have hlt := (List.getElem?_eq_some_iff.1 hid).1
    rw [spend_other _ _ _ fun hm => by have := (hdn id hm).1; omega]; exact hk.marks id hid
  exact ⟨H', hH', hk, hs, hk2, ACall.intro_marks hf hb hn hrun hx (nodupB_sound hd.2) (resT_sound hs hres)⟩
 cases hcut : (Nat.ble n lo && AV.underB n (resV vs)) with
 | true =>
  rw [Bool.and_eq_true] at hcut
  have hle := Nat.le_of_ble_eq_true hcut.1
  intro H hH
  obtain ⟨H', _, _, _, hk2, hcall⟩ := main H hH
  have hl := hH.len
  exact ⟨H, hH, hcall.cut_same (by rw [hl]; exact underB_iff.1 _ hcut.2) (fun id hlt => hk2.low id (by omega) hlt) hk2.le, Keep.refl _ _⟩
 | false =>
  intro H hH
  obtain ⟨H', _, _, hs, hk2, hcall⟩ := main H hH
  exact ⟨_, hs, hcall, hk2⟩
include hm hc hr in
theorem evBody_sound (muts : FuncId → Bool) : SoundC P (evBody P call round muts) := by
 intro f args t n
 unfold evBody
 cases hf : P.funcs[f]? with
 | none => trivial
 | some fn =>
 simp only
 cases hb : fn.body with
 | none => trivial
 | some c =>
 simp only
 cases hlen : Nat.ble args.length fn.ntmps with
 | false => trivial
 | true =>
 simp only [cond_true]
 have hn := Nat.le_of_ble_eq_true hlen
 have key : ∀ H, HT t n H → ER.holds fn.ntmps H (fun x σ' => Run P none c ⟨fn.ntmps, initVars 0 args, H, []⟩ x σ') (evCode P (muts f) call round fn.ntmps none c (initVars 0 args) t n [] noLo) :=
  fun H hH => evCode_sound hm hc hr c (initVars 0 args) t n [] noLo H H hH (Keep.refl _ _)
 generalize evCode P (muts f) call round fn.ntmps none c (initVars 0 args) t n [] noLo = r at key ⊢
 cases r with
 | fail w => trivial
 | ok x e lo =>
 cases x with
 | pan v =>
  simp only
  cases hd : e.defs with
  | cons a l => trivial
  | nil =>
   intro H hH
   obtain ⟨H', hH', hk, hrun⟩ := key H hH
   rw [hd] at hrun
   exact ⟨H', hH', ACall.intro_pan hf hb hn hrun rfl, hk⟩
 | exit i => trivial
 | normal => exact evFin_sound hf hb hn (.inr rfl) key
 | ret => exact evFin_sound hf hb hn (.inl rfl) key
include hm hc hr in
theorem evRoundBody_sound : SoundR P (evRoundBody P call round) := by
  intro id args t n
  unfold evRoundBody
  cases hg : get t id with
  | none => trivial
  | some B =>
  cases B with
  | loop l =>
    simp only
    cases hp : (Nat.beq args.length l.params.size && l.params.toList.all (fun t => Nat.blt t l.n)) with
    | false => trivial
    | true =>
    simp only [cond_true]
    rw [Bool.and_eq_true, List.all_eq_true] at hp
    have hlen := Nat.eq_of_beq_eq_true hp.1
    have hpar : ∀ t ∈ l.params, t < l.n := fun t ht => Nat.le_of_ble_eq_true (hp.2 t (by simpa using ht))
    have key1 : ∀ H, HT t n H → ER.holds l.n H (fun x σ' => Run P (some id) l.assign ⟨l.n, putParams l.vars l.params.toList args, H, []⟩ x σ') (evCode P false call round l.n (some id) l.assign (putParams l.vars l.params.toList args) t n [] noLo) :=
      fun H hH => evCode_sound hm hc hr l.assign _ t n [] noLo H H hH (Keep.refl _ _)
    generalize evCode P false call round l.n (some id) l.assign (putParams l.vars l.params.toList args) t n [] noLo = r1 at key1 ⊢
    cases r1 with
    | fail w => trivial
    | ok x1 e1 lo1 =>
    cases x1 with
    | normal =>
      simp only
      cases hg1 : get e1.t id with
      | none => trivial
      | some B1 =>
      cases B1 with
      | loop l1 =>
        simp only
        cases hst : isReady l1.state with
        | false => trivial
        | true =>
        simp only [cond_true]
        have hready : l1.state = .ready := by cases hs : l1.state <;> rw [hs] at hst <;> first | rfl | cases hst
        refine lowT_spec (Q := fun r => RRok P id args t n r) fun lo1' h1 h2 => ?_
        have key2 : ∀ H1 H, HT e1.t e1.n H1 → Keep H H1 lo1 → ER.holds l.n H (fun x σ' => Run P (some id) l.body ⟨l.n, e1.vars, H1.set id (.loop { l1 with state := .busy }), e1.defs⟩ x σ')
            (evCode P false call round l.n (some id) l.body e1.vars (set e1.t id (.loop { l1 with state := .busy })) e1.n e1.defs lo1') := fun H1 H hH1 hk1 => by
          have hB := hH1.blk _ _ hg1
          exact evCode_sound hm hc hr l.body _ _ _ _ _ _ H (hH1.set (hH1.lt hg1) _) (hk1.trans (Keep.set hB (by simp)) h1 h2)
        generalize evCode P false call round l.n (some id) l.body e1.vars (set e1.t id (.loop { l1 with state := .busy })) e1.n e1.defs lo1' = r2 at key2 ⊢
        cases r2 with
        | fail w => trivial
        | ok x2 e2 lo2 =>
        simp only
        cases hg2 : get e2.t id with
        | none => trivial
        | some B2 =>
        cases B2 with
        | loop l2 =>
          cases hj : jumpOf x2 with
          | none => trivial
          | some j =>
            simp only
            refine lowT_spec (Q := fun r => RRok P id args t n r) fun lo2' h3 h4 => ?_
            intro H hH
            obtain ⟨H1, hH1, hk1, hrun1⟩ := key1 H hH
            obtain ⟨H2, hH2, hk2, hrun2⟩ := key2 H1 H hH1 hk1
            have hB2 := hH2.blk _ _ hg2
            refine ⟨H2.set id (.loop { l2 with state := if j.isNone then .ready else .done, pending := j }), hH2.set (hH2.lt hg2) _, ?_, hk2.trans (Keep.set hB2 (by simp)) h3 h4⟩
            exact ARound.intro (hH.blk _ _ hg) hlen hpar hrun1 (hH1.blk _ _ hg1) hready hrun2 hB2 hj
        | _ => trivial
      | _ => trivial
    | _ => trivial
  | _ => trivial
end
theorem forceN_eq {α : Type} (n : Nat) (k : Nat → α) : forceN n k = k n := by
 have key : ∀ (m : Nat) (x : α), x = k n → (bif Nat.beq n m then k m else x) = k n := fun m x hx => by
  cases h : Nat.beq n m with
  | true => rw [Nat.eq_of_beq_eq_true h]; rfl
  | false => exact hx
 unfold forceN
 exact key _ _ (key _ _ (key _ _ (key _ _ (key _ _ (key _ _ (key _ _ (key _ _ rfl)))))))
theorem forceI_eq {α : Type} (n : Int) (k : Int → α) : forceI n k = k n := by
 cases n with
 | ofNat n => exact forceN_eq n fun m => k (Int.ofNat m)
 | negSucc n => exact forceN_eq n fun m => k (Int.negSucc m)
theorem forceK_eq {α : Type} (d : IntKind) (k : IntKind → α) : forceK d k = k d := by
 cases d <;> rfl
theorem forceV_eq {α : Type} (v : Value) (k : Value → α) : forceV v k = k v := by
 cases v with
 | int d n => simp only [forceV, forceK_eq, forceI_eq]
 | bool b => cases b <;> rfl
 | _ => rfl
theorem forceT_eq {α : Type} (t : Tail) (k : Tail → α) : forceT t k = k t := by
 cases t <;> rfl
mutual
theorem AV.force_eq {α : Type} : ∀ (a : AV) (k : AV → α), AV.force a k = k a
 | .lit v, k => by simp only [AV.force, forceV_eq]
 | .agg cells, k => by simp only [AV.force, AV.forces_eq cells]
 | .tup vs, k => by simp only [AV.force, AV.forces_eq vs]
 | .eptr cells, k => by simp only [AV.force, AV.forces_eq cells]
 | .sl len cells tail, k => by simp only [AV.force, forceN_eq, AV.forces_eq cells, forceT_eq]
 | .iface t v, k => by simp only [AV.force, AV.force_eq v]
 | .ptr _ _, k => by simp only [AV.force]
 | .hsl _ _ _ _, k => by simp only [AV.force]
 | .mp _, k => by simp only [AV.force]
 | .fn _ _ _, k => by simp only [AV.force]
 | .yld _, k => by simp only [AV.force]
 | .msl _ _ _ _, k => by simp only [AV.force]
 | .mptr _ _ _, k => by simp only [AV.force]
 | .mpx, k => by simp only [AV.force]
theorem AV.forces_eq {α : Type} : ∀ (l : List AV) (k : List AV → α), AV.forces l k = k l
 | [], k => by simp only [AV.forces]
 | a :: l, k => by simp only [AV.forces, AV.force_eq a, AV.forces_eq l]
end
theorem evAlone_sound {body : CallT} (h : SoundC P body) : SoundC P (evAlone body) := by
 intro f args t n
 unfold evAlone
 cases ha : AV.undersB 0 (AV.forgets args) with
 | false => exact h f args t n
 | true =>
 simp only [cond_true, AV.forces_eq]
 have hcf := h f (AV.forgets args) .nil 0
 generalize body f (AV.forgets args) .nil 0 = r at hcf ⊢
 cases r with
 | fail w => trivial
 | pan => trivial
 | ret v t' n' lo =>
  simp only
  cases hv : AV.underB 0 v.forget with
  | false => trivial
  | true =>
   simp only [cond_true]
   intro H hH
   obtain ⟨H', _, hcall, _⟩ := hcf [] HT.nil
   exact ⟨H, hH, hcall.alone (underB_iff.2 _ ha) (underB_iff.1 _ hv) H, Keep.refl _ _⟩
def Know.Right (P : Program) (K : Know) : Prop := ∀ f T, K.told f = some T → ∀ call, SoundC P call → ∀ args t n, CRok P f args t n (T call f args t n)
theorem evN_sound {K : Know} (hm : P.follows .mixedOrders = true) (hK : K.Right P) : ∀ fuel, SoundC P (evN P K fuel).1 ∧ SoundR P (evN P K fuel).2
 | 0 => ⟨fun _ _ _ _ => trivial, fun _ _ _ _ => trivial⟩
 | fuel + 1 => by
  obtain ⟨hc, hr⟩ := evN_sound hm hK fuel
  refine ⟨fun f args t n => ?_, evRoundBody_sound hm hc hr⟩
  show CRok P f args t n (match K.told f with
   | some T => T (evN P K fuel).1 f args t n
   | none => bif K.alone f then evAlone (evBody P (evN P K fuel).1 (evN P K fuel).2 K.muts) f args t n else evBody P (evN P K fuel).1 (evN P K fuel).2 K.muts f args t n)
  cases ht : K.told f with
  | some T => exact hK f T ht _ hc args t n
  | none =>
   simp only
   cases K.alone f with
   | true => exact evAlone_sound (evBody_sound hm hc hr K.muts) f args t n
   | false => exact evBody_sound hm hc hr K.muts f args t n
end Go.Vm

namespace Go.Vm
inductive PanOne (P : Program) (ops : Array Oper) (i : Nat) : St → AV → St → Prop where
  | op {m : Bool} {σ : St} {o : Oper} {v : AV} (ho : ops[i]? = some o) (hw : wantedA ops σ.vars o = some true) (ha : aop P m σ.H σ.eval o = some (.pan v)) : PanOne P ops i σ v σ
  | call {m : Bool} {σ : St} {o : Oper} {f : FuncId} {args : List AV} {v : AV} {H' : List Blk} (ho : ops[i]? = some o) (hw : wantedA ops σ.vars o = some true)
      (ha : aop P m σ.H σ.eval o = some (.call f args)) (hcal : callable P f = true) (hc : ACall P f args σ.H (.pan v) H') (hd : keepsD σ.H H') : PanOne P ops i σ v { σ with H := H' }
theorem PanOne.all {P : Program} {ops : Array Oper} {i : Nat} {l : List Nat} {σ σ' : St} {v : AV} (h : PanOne P ops i σ v σ') : APanics P ops (i :: l) σ v σ' := by
 cases h with
 | op ho hw ha => exact .op ho hw ha
 | call ho hw ha hcal hc hd => exact .call ho hw ha hcal hc hd
theorem PanOne.one [Outer] {P : Program} {ops : Array Oper} {i : Nat} {σ σ' σf : St} {v : AV} {cro : Option Nat} {S0 : Sit} (h : PanOne P ops i σ v σ') {ι : Nat → Option (Nat × Nat)} {a : Act} {w : World} (hs : SRel σ ι a w) (he : σ'.Eqv σf)
  (hev : Ev S0 ⟨σ.H, ι, w⟩) (hnon : Non S0 ⟨σ.H, ι, w⟩) {K : Act → World → Prop} : wpOpIn (Fr cro) 0 P ops (Post S0 (.pan v) σf) i K a w := by
 cases h with
 | op ho hw ha =>
  unfold wpOpIn
  simp only [ho]
  rw [wantedA_sound hs.vars hw]
  simp only [if_true]
  refine ⟨fun _ _ => Fr_fn _ _, ?_⟩
  obtain ⟨c, hx, hv⟩ := aop_sound hs.rel (St.eval_sound hs) ha
  rw [Oper.semAt_eq _ _ _ (aop_noDefer ha), hx]
  exact ⟨ι, by rw [← he.H]; exact ⟨c, rfl, hv⟩, hs.eqv he, by rw [← he.H]; exact hev, by rw [← he.H]; exact hnon⟩
 | call ho hw ha hcal hc hd =>
  rename_i o f args H'
  unfold wpOpIn
  simp only [ho]
  rw [wantedA_sound hs.vars hw]
  simp only [if_true]
  refine ⟨fun _ _ => Fr_fn _ _, ?_⟩
  obtain ⟨cs, hx, hargs⟩ := aop_sound hs.rel (St.eval_sound hs) ha hcal
  rw [Oper.semAt_eq _ _ _ (aop_noDefer ha), hx]
  refine ⟨fun h => (by simp [Fr_depth] at h), ?_⟩
  have hcall : CallsIn (Fr cro) 0 P _ cs w (EPost ⟨σ.H, ι, w⟩ (.pan v) H') := hc _ ι w cs hs.rel hargs
  refine hcall.mono ?_
  rintro e w' ⟨ι', hend, hR, hev', hnon'⟩
  have hx : SRel { σ with H := H' } ι' a w' := ⟨hR, hs.size, hs.vars.ev hev', hs.defs.ev hev' hd⟩
  have e2 : σf.H = H' := he.H.symm
  cases e with
  | returned c => exact hend.elim
  | panicked chain => exact ⟨ι', by rw [e2]; exact hend, hx.eqv he, by rw [e2]; exact hev.trans hev', by rw [e2]; exact hnon.trans hev hnon'⟩
  | outgrown => exact hend.elim
inductive DPan (P : Program) (ops : Array Oper) (al : Nat → Option Nat) (mask : Nat) : List (List Blk) → List Nat → St → AV → St → Prop
  | pan {Hs : List (List Blk)} {i : Nat} {l : List Nat} {σ σ' : St} {v : AV} (hm : mask.testBit i = true) (h : PanOne P ops i σ v σ') : DPan P ops al mask Hs (i :: l) σ v σ'
  | cons {Hs : List (List Blk)} {i : Nat} {l : List Nat} {σ σ1 σ2 : St} {v : AV} (hm : mask.testBit i = false) (h : DStep P ops al Hs i σ σ1) (t : DPan P ops al mask Hs l σ1 v σ2) : DPan P ops al mask Hs (i :: l) σ v σ2
  | barrier {Hs Hs' : List (List Blk)} {i : Nat} {l : List Nat} {σ σ1 σ2 : St} {v : AV} (hm : mask.testBit i = true) (h : AStep P ops i σ σ1) (hf : ∀ j ∈ l, ∀ id, al j = some id → σ1.H[id]? = σ.H[id]?)
      (hg : Good Hs' σ1.H) (t : DPan P ops al mask Hs' l σ1 v σ2) : DPan P ops al mask Hs (i :: l) σ v σ2
theorem PanOne.eqv {P : Program} {ops : Array Oper} {i : Nat} {σ σ' τ : St} {v : AV} (h : PanOne P ops i σ v σ') (he : σ.Eqv τ) : ∃ τ', PanOne P ops i τ v τ' ∧ σ'.Eqv τ' := by
 cases h with
 | op ho hw ha =>
  refine ⟨τ, .op ho (by rw [← wantedA_eqv he.vars]; exact hw) (by rw [← he.H, ← he.eval]; exact ha), he⟩
 | call ho hw ha hcal hc hd =>
  rename_i H'
  refine ⟨{ τ with H := H' }, .call ho (by rw [← wantedA_eqv he.vars]; exact hw) (by rw [← he.H, ← he.eval]; exact ha) hcal (by rw [← he.H]; exact hc) (by rw [← he.H]; exact hd), ⟨he.n, rfl, he.defs, he.vars⟩⟩
theorem DPan.eqv {P : Program} {ops : Array Oper} {al : Nat → Option Nat} {mask : Nat} : ∀ {Hs : List (List Blk)} {l : List Nat} {σ σ2 τ : St} {v : AV}, DPan P ops al mask Hs l σ v σ2 → σ.Eqv τ → ∃ τ2, DPan P ops al mask Hs l τ v τ2 ∧ σ2.Eqv τ2
 | _, _, _, _, _, _, .pan hm h, he => by
  obtain ⟨τ', h', he'⟩ := h.eqv he
  exact ⟨τ', .pan hm h', he'⟩
 | _, _, _, _, _, _, .cons hm h t, he => by
  obtain ⟨τ1, h1, he1⟩ := h.eqv he
  obtain ⟨τ2, t2, he2⟩ := DPan.eqv t he1
  exact ⟨τ2, .cons hm h1 t2, he2⟩
 | _, _, _, _, _, _, .barrier hm h hf hg t, he => by
  obtain ⟨τ1, h1, he1⟩ := h.eqv he
  obtain ⟨τ2, t2, he2⟩ := DPan.eqv t he1
  exact ⟨τ2, .barrier hm h1 (by rw [← he.H, ← he1.H]; exact hf) (by rw [← he1.H]; exact hg) t2, he2⟩
theorem DPan.first {P : Program} {mask : Nat} {ops : Array Oper} {al : Nat → Option Nat} {Hs : List (List Blk)} {i : Nat} {oi : Oper} {post : List Nat} (hoi : ops[i]? = some oi) (hmi : mask.testBit i = false) : ∀ {pre : List Nat} {σ σ' : St} {v : AV},
  DPan P ops al mask Hs (pre ++ i :: post) σ v σ' → (∀ p ∈ pre, mask.testBit p = false ∧ ∃ op, ops[p]? = some op ∧ comm ops op oi = true) → Good Hs σ.H →
  ∃ τ σ'', DStep P ops al Hs i σ τ ∧ DPan P ops al mask Hs (pre ++ post) τ v σ'' ∧ σ'.Eqv σ''
 | [], σ, σ', _, h, _, _ => by
  cases h with
  | cons hm h t => exact ⟨_, σ', h, t, St.Eqv.refl _⟩
  | barrier hm => rw [hmi] at hm; cases hm
  | pan hm => rw [hmi] at hm; cases hm
 | p :: pre, σ, σ', _, h, hc, hle => by
  obtain ⟨hmp, op, hop, hcomm⟩ := hc p (by simp)
  rw [List.cons_append] at h
  cases h with
  | barrier hm => rw [hmp] at hm; cases hm
  | pan hm => rw [hmp] at hm; cases hm
  | cons hm h t =>
   rename_i σ1
   have hle1 : Good Hs σ1.H := by
    obtain ⟨o, v, H', _, hr, hp⟩ := h
    rw [(putA_H hp).1]; exact hr.good hle
   obtain ⟨τ1, σ'', hi, ht, he⟩ := DPan.first hoi hmi t (fun q hq => hc q (by simp [hq])) hle1
   obtain ⟨τ, τ2, hi', hp', he2⟩ := swap_steps hop hoi hcomm h hi hle
   obtain ⟨σ3, ht3, he3⟩ := ht.eqv he2
   exact ⟨τ, σ3, hi', .cons hmp hp' ht3, he.trans he3⟩
section
variable {P : Program}
theorem draw_pan [Outer] {mask : Nat} {ops : Array Oper} {al : Nat → Option Nat} (hd : drawOk mask ops = true) {n0 : Nat} {S0 : Sit} (hS0 : n0 = S0.H.length)
  (hal : ∀ j id, al j = some id → n0 ≤ id) (hinj : ∀ j k id, al j = some id → al k = some id → j = k) {cro : Option Nat} {v0 : AV} {σf : St} :
  ∀ (fuel : Nat) (listed : Array Bool) (Hs : List (List Blk)) (σ σ' : St) (ι : Nat → Option (Nat × Nat)) (a : Act) (w : World), listed.size = ops.size → Closed ops listed →
   DPan P ops al mask Hs (left ops listed) σ v0 σ' → σ'.Eqv σf → Good Hs σ.H → SRel σ ι a w → Pend P ops al (left ops listed) ι σ.H → (∀ j id, al j = some id → notRow σ.H id) →
   Ev S0 ⟨σ.H, ι, w⟩ → Non S0 ⟨σ.H, ι, w⟩ → (left ops listed).length ≤ fuel →
   wpAnyIn (Fr cro) 0 P .any ops (Post S0 (.pan v0) σf) fuel listed a w := by
 have empty : ∀ (listed : Array Bool) (Hs : List (List Blk)) (σ σ' : St), left ops listed = [] → DPan P ops al mask Hs (left ops listed) σ v0 σ' → False := by
  intro listed Hs σ σ' hl hp
  rw [hl] at hp
  cases hp
 intro fuel
 induction fuel with
 | zero =>
  intro listed Hs σ σ' ι a w hsz hcl hp he hle hs hpend hbox hev hnon hlen
  exact (empty listed Hs σ σ' (by simpa using hlen) hp).elim
 | succ fuel ih =>
  intro listed Hs σ σ' ι a w hsz hcl hp he hle hs hpend hbox hev hnon hlen
  have conv : ∀ j, j < ops.size → listed.getD j false = listed.getD j true := fun j hj => by
   simp [Array.getD_eq_getD_getElem?, hsz ▸ hj]
  constructor
  ·intro hready
   refine (empty listed Hs σ σ' ?_ hp).elim
   cases hl : left ops listed with
   | nil => rfl
   | cons i rest =>
    exfalso
    have himem : i ∈ left ops listed := by rw [hl]; simp
    obtain ⟨hi1, hi2⟩ := mem_left.1 himem
    obtain ⟨oi, hoi⟩ : ∃ oi, ops[i]? = some oi := ⟨ops[i], by simp [hi1]⟩
    obtain ⟨pre, post, hsp, hpre, _⟩ := left_split himem
    have hpre0 : pre = [] := by
     rw [hl] at hsp
     cases pre with
     | nil => rfl
     | cons p pre =>
      simp only [List.cons_append, List.cons.injEq] at hsp
      have := hpre p (by simp)
      omega
    have : i ∈ Region.ready .any ops listed := by
     refine mem_ready.2 ⟨hi2, oi, hoi, fun e hemem hb => ?_⟩
     have hlt := (drawOk_spec hd hoi).1 e hemem hb
     rw [conv _ (by omega)]
     cases hg : listed.getD e.on true with
     | true => rfl
     | false =>
      have hm : e.on ∈ left ops listed := mem_left.2 ⟨by omega, hg⟩
      rw [hsp, hpre0] at hm
      have hs' : (left ops listed).Pairwise (· < ·) := List.Pairwise.filter _ List.pairwise_lt_range
      rw [hsp, hpre0, List.nil_append, List.pairwise_cons] at hs'
      rcases List.mem_cons.1 hm with h | h
      ·omega
      ·have := hs'.1 _ h; omega
    rw [hready] at this
    cases this
  ·intro i hi
   obtain ⟨hi0, oi, hoi, hafter⟩ := mem_ready.1 hi
   have hilt := (Array.getElem?_eq_some_iff.1 hoi).1
   have himem : i ∈ left ops listed := mem_left.2 ⟨hilt, hi0⟩
   obtain ⟨pre, post, hsp, hpre, hleft, hfil⟩ := left_split himem
   obtain ⟨hback, hcomm⟩ := drawOk_spec hd hoi
   have getop : ∀ p, p < ops.size → ∃ op, ops[p]? = some op := fun p hp => ⟨ops[p]'hp, by simp [hp]⟩
   have hc0 : ∀ p ∈ left ops listed, p < i → mask.testBit i = false ∧ mask.testBit p = false ∧ ∃ op, ops[p]? = some op ∧ comm ops op oi = true := by
    intro p hpm hplt
    obtain ⟨op, hop⟩ := getop p (by omega)
    have := (hcomm p op hplt hop).1.resolve_left fun hb => by
     have h1 := ready_bef hoi hback hcl hafter hb
     have h2 := (mem_left.1 hpm).2
     rw [conv p (by omega), h2] at h1
     cases h1
    exact ⟨this.1, this.2.1, op, hop, this.2.2⟩
   have hc : ∀ p ∈ pre, mask.testBit p = false ∧ ∃ op, ops[p]? = some op ∧ comm ops op oi = true := fun p hpm => (hc0 p (by rw [hsp]; simp [hpm]) (hpre p hpm)).2
   have hsz' : (listed.setIfInBounds i true).size = ops.size := by simpa using hsz
   have hcl' : Closed ops (listed.setIfInBounds i true) := by
    intro j hj hlj p hb
    by_cases hpi : p = i
    ·subst hpi; simp [Array.getD_eq_getD_getElem?, hsz ▸ hilt]
    ·rw [getD_set_ne false (Ne.symm hpi)]
     by_cases hji : j = i
     ·subst hji; exact ready_bef hoi hback hcl hafter hb
     ·rw [getD_set_ne false (Ne.symm hji)] at hlj
      exact hcl j hj hlj p hb
   have hlen' : (left ops (listed.setIfInBounds i true)).length ≤ fuel := by
    rw [hleft]
    rw [hsp] at hlen
    simp at hlen ⊢
    omega
   by_cases hks : mask.testBit i = true
   ·-- a barrier stands first
    have hpre0 : pre = [] := by
     cases pre with
     | nil => rfl
     | cons p pre =>
      have := (hc0 p (by rw [hsp]; simp) (hpre p (by simp))).1
      rw [hks] at this; cases this
    subst hpre0
    rw [hsp, List.nil_append] at hp
    cases hp with
    | cons hm => rw [hks] at hm; cases hm
    | pan hm h => exact h.one hs he hev hnon
    | barrier hm hst hf hg t =>
     rename_i Hs' σ1
     refine hst.sound hs fun ι' a' w' hs' hev' hnon' => ?_
     refine ih _ Hs' σ1 σ' ι' a' w' hsz' hcl' (hleft ▸ t) he hg hs' ?_ (fun j id h => (hev'.ptr id (hbox j id h)).1) (hev.trans hev') (hnon.trans hev hnon') hlen'
     intro j hj o' B id ho' hB hal'
     have hjp : j ∈ post := by rw [hleft] at hj; simpa using hj
     have hjL : j ∈ left ops listed := by rw [hsp]; simp [hjp]
     obtain ⟨h1, h2⟩ := hpend j hjL o' B id ho' hB hal'
     exact ⟨hnon' id (hbox j id hal') h1, by rw [hf j hjp id hal']; exact h2⟩
   ·have hks : mask.testBit i = false := by simpa using hks
    rw [hsp] at hp
    obtain ⟨τ, σ'', hst, hrest, heq⟩ := hp.first hoi hks hc hle
    have hgτ : Good Hs τ.H := by
     obtain ⟨o, v, H', _, hr, hpp⟩ := hst
     rw [(putA_H hpp).1]; exact hr.good hle
    refine hst.sound hal hinj hbox himem (fun o ho hk j hj o' B ho' hB => ?_) hs hpend fun ι' a' w' hs' hev' hnon' hpend' => ?_
    ·rw [hoi] at ho; cases ho
     have hkj := layB_kind hB
     rcases Nat.lt_trichotomy j i with h | h | h
     ·obtain ⟨_, _, op, hop, hcc⟩ := hc0 j hj h
      rw [hop] at ho'; cases ho'
      unfold comm at hcc
      rw [hkj, hk] at hcc
      simp at hcc
     ·subst h; rw [hoi] at ho'; cases ho'; rw [hk] at hkj; cases hkj
     ·have := ((drawOk_spec hd ho').2 i oi h hoi).2
      rw [hks, hk, hkj] at this
      simp at this
    ·refine ih _ Hs τ σ'' ι' a' w' hsz' hcl' (hleft ▸ hrest) (heq.symm.trans he) hgτ hs' (by rw [hleft, ← hfil]; exact hpend') (fun j id h => (hev'.ptr id (hbox j id h)).1) (hev.trans hev') ?_ hlen'
     intro id hn hi0
     exact hnon' id (by rw [hS0]; exact hn.lt) (hev.ptr id hn).1 (hnon id hn hi0)
theorem Run.region_draw_pan {ro : Option Nat} {id : Nat} {ops : Array Oper} {σ σ' : St} {v : AV} {mask : Nat} {Hs : List (List Blk)} (hm : P.follows .mixedOrders = true) (hd : drawOk mask ops = true) (hHs : (σ.H ++ hoisted P ops) ∈ Hs)
  (h : DPan P ops (alAt P σ.H.length ops) mask Hs (List.range ops.size) { σ with H := σ.H ++ hoisted P ops } v σ') : Run P ro (.region id ops true) σ (.pan v) σ' := by
 intro O ι a w cro hro hs
 refine wpIn_region_any hm ?_
 have hleft : left ops (Array.replicate ops.size false) = List.range ops.size := by
  unfold left
  refine List.filter_eq_self.2 fun j hj => ?_
  have : j < ops.size := by simpa using hj
  simp [Array.getD_eq_getD_getElem?, this]
 have hR : Rel ⟨σ.H, ι, w⟩ := hs.rel
 have hR1 : Rel ⟨σ.H ++ hoisted P ops, ι, { w with drawn := w.drawn + 1 }⟩ := Rel.fresh hR fun _ _ => rfl
 have hev : Ev ⟨σ.H, ι, w⟩ ⟨σ.H ++ hoisted P ops, ι, { w with drawn := w.drawn + 1 }⟩ := Ev.fresh hR fun _ _ => rfl
 have hat : ∀ j, j < ops.size → (σ.H ++ hoisted P ops)[σ.H.length + j]? = (ops[j]?).map fun o => (layB P o).getD .defd := by
  intro j hj
  rw [List.getElem?_append_right (by omega)]
  simp [hoisted]
 refine draw_pan hd (n0 := σ.H.length) rfl (fun j id' hj => by have := alAt_spec hj; omega) (fun j k id' hj hk => by have := alAt_spec hj; have := alAt_spec hk; omega)
  ops.size _ Hs { σ with H := σ.H ++ hoisted P ops } σ' ι a _ (by simp) ?_ (hleft ▸ h) (St.Eqv.refl _) ⟨_, hHs, HLe.refl _⟩ ⟨hR1, hs.size, hs.vars.ev hev, hs.defs.ev hev fun id' hid => ?_⟩ ?_ ?_ hev (Non.same) (by rw [hleft]; simp)
 ·intro j hj hl
  have : j < ops.size := hj
  simp [Array.getD_eq_getD_getElem?, this] at hl
 ·exact HLe.append _ _ id' _ hid rfl
 ·intro j hj o B id' ho hB hal
  obtain ⟨rfl, hlt⟩ := alAt_spec hal
  refine ⟨?_, ?_⟩
  ·cases hi : ι (σ.H.length + j) with
   | none => rfl
   | some p => have h9 : σ.H.length + j < σ.H.length := hR.lt hi; omega
  ·have := hat j hlt
   rw [ho] at this
   simpa [hB] using this
 ·intro j id' hj
  obtain ⟨rfl, hlt⟩ := alAt_spec hj
  have := hat j hlt
  rw [show ops[j]? = some ops[j] by simp [hlt]] at this
  refine ⟨_, this, ?_⟩
  show ((layB P ops[j]).getD .defd).isRow = false
  cases hB : layB P ops[j] with
  | none => rfl
  | some B => exact layB_row hB
end
end Go.Vm
