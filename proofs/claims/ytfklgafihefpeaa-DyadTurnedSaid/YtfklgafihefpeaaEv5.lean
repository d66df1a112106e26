/- An abstract evaluator, part 5: contracts of calls, and operations that only reckon. -/
import Derived.Test.YtfklgafihefpeaaEv4
set_option linter.unusedVariables false
set_option linter.unusedSimpArgs false
namespace Go.Ev
open Go.RowKit

def px (M : Nat → Prop) (w : World) : Cx := ⟨w, M, fun _ _ => none, fun _ => 0⟩

/-- What a call hands back. -/
def RepRes (M : Nat → Prop) (own : Nat → Prop) (w : World) : AV → Value → Prop
  | .own e sz es, v => AllLen sz es ∧ ((v = .slice none 0 0 ∧ es = []) ∨ ∃ b cap cur, v = .slice (some ⟨b, 0, none⟩) es.length cap ∧ es.length ≤ cap ∧ cap ≤ maxLen ∧ own b ∧
      w.heap[b]? = some (.cells cur e (0, 0)) ∧ cur.size = cap * sz ∧ RepE (px (fun x => M x ∨ x = b) w) es b 0)
  | r, v => RepV (px M w) r v

def Callable (P : Program) (f : Nat) : Prop := ∃ fn, P.funcs[f]? = some fn ∧ (fn.name == "runtime.NumGoroutine") = false ∧ fn.body.isNone = false

/-- THE CONTRACT: called with what the arguments say, function f hands back what r says; what was there before is as it was. -/
def FnN (P : Program) (f : Nat) (args : List AV) (r : AV) : Prop :=
  Callable P f ∧ ∀ (M : Nat → Prop) (w : World) (vs : List Value), (∀ b, M b → b < w.heap.size) → RepT (px M w) args vs →
    Calls P f vs.toArray w fun e w' => ∃ v, e = .returned v ∧ Below w.heap.size w w' ∧ RepRes M (w.heap.size ≤ ·) w' r v

/-- The contract of a function that writes a part of a slice of its caller's: what was there before, but for that slice, is as it was. -/
def FnIO (P : Program) (f : Nat) (t sz : Nat) (es : List (List AV)) (off n : Nat) (xs : List AV) (r : AV) : Prop :=
  Callable P f ∧ ∀ (M : Nat → Prop) (w : World) (vs : List Value) (b cap : Nat) (cur : Array Value), (∀ b, M b → b < w.heap.size) → M b → RepT (px M w) xs vs → AllLen sz es →
    w.heap[b]? = some (.cells cur t (0, 0)) → es.length * sz ≤ cur.size → RepE (px M w) es b 0 → off + n ≤ es.length → n ≤ cap → cap ≤ maxLen →
    Calls P f (Value.slice (some ⟨b, off * sz, none⟩) n cap :: vs).toArray w fun e w' => ∃ v r0 es', r = .tup [r0, .own t sz es'] ∧ e = .returned v ∧ BelowB (fun k => w.heap.size ≤ k ∨ k = b) w w' ∧
      AllLen sz es' ∧ (∃ cur', w'.heap[b]? = some (.cells cur' t (0, 0)) ∧ cur'.size = cur.size ∧ es'.length * sz ≤ cur.size ∧ RepE (px M w') es' b 0) ∧ RepV (px M w') r0 v

def isIO : List AV → Bool
  | .tup [.own .., .ptr ..] :: _ => true
  | _ => false

def Fn (P : Program) (f : Nat) (args : List AV) (r : AV) : Prop :=
  match args with
  | .tup [.own t sz es, .ptr off n 0] :: xs => FnIO P f t sz es off n xs r
  | args => FnN P f args r

theorem Fn.norm {P : Program} {f : Nat} {args : List AV} {r : AV} (h : Fn P f args r) {c : Cx} {vs : List Value} (hr : RepT c args vs) : FnN P f args r := by
  unfold Fn at h
  split at h
  · simp [RepT, RepV] at hr
  · exact h

theorem Fn.ofN {P : Program} {f : Nat} {args : List AV} {r : AV} (h : FnN P f args r) (hio : isIO args = false) : Fn P f args r := by
  unfold Fn
  split
  · simp [isIO] at hio
  · exact h

section
variable {P : Program} {X : Nat → Prop} {n : Nat} {base : Base} {w0 w : World} {st : St} {a : Act} {β : Nat → Nat → Option Nat} {o : Oper} {K : Kont}

def Goal (P : Program) (X : Nat → Prop) (n : Nat) (base : Base) (w0 : World) (o : Oper) (st : St) (K : Kont) (a : Act) (w : World) : Prop :=
  ∃ v us, K v us ∧ ∀ (next : Act → World → Prop) (Q : Exit → Act → World → Prop), (∀ a' w' β', Sim X n base w0 (st.app o.dst v us) a' w' β' → next a' w') → o.wp P a w next Q

theorem RepT1 {c : Cx} {xs : List AV} {v : Value} (h : RepT c xs [v]) : ∃ x, xs = [x] ∧ RepV c x v := by
  cases xs with
  | nil => simp [RepT] at h
  | cons x xs =>
    simp only [RepT] at h
    obtain ⟨v', vs', e, h1, h2⟩ := h
    injection e with e1 e2
    subst e1 e2
    cases xs with
    | nil => exact ⟨x, rfl, h1⟩
    | cons y ys => simp [RepT] at h2

theorem RepT2 {c : Cx} {xs : List AV} {v u : Value} (h : RepT c xs [v, u]) : ∃ x y, xs = [x, y] ∧ RepV c x v ∧ RepV c y u := by
  cases xs with
  | nil => simp [RepT] at h
  | cons x xs =>
    simp only [RepT] at h
    obtain ⟨v', vs', e, h1, h2⟩ := h
    injection e with e1 e2
    subst e1 e2
    obtain ⟨y, rfl, h3⟩ := RepT1 h2
    exact ⟨x, y, rfl, h1, h3⟩

theorem RepT3 {c : Cx} {xs : List AV} {v u t : Value} (h : RepT c xs [v, u, t]) : ∃ x y z, xs = [x, y, z] ∧ RepV c x v ∧ RepV c y u ∧ RepV c z t := by
  cases xs with
  | nil => simp [RepT] at h
  | cons x xs =>
    simp only [RepT] at h
    obtain ⟨v', vs', e, h1, h2⟩ := h
    injection e with e1 e2
    subst e1 e2
    obtain ⟨y, z, rfl, h3, h4⟩ := RepT2 h2
    exact ⟨x, y, z, rfl, h1, h3, h4⟩

theorem Sim.put (hs : Sim X n base w0 st a w β) (hd : ∀ d, o.dst = some d → d < n) {v : AV} {us : Upds} {v' : Value} {w' : World} {β' : Nat → Nat → Option Nat}
    (ok : HOK X base w0 (updH st.H us) w' β') (hle : (cx X st.H w β).Le (cx X (updH st.H us) w' β')) (hr : RepV (cx X (updH st.H us) w' β') v v') :
    Sim X n base w0 (st.app o.dst v us) (a.put o.dst v') w' β' := by
  cases ho : o.dst with
  | none => exact ⟨hs.defers, hs.size, ok, fun t => RepV.mono hle _ _ (hs.tm t)⟩
  | some d =>
    have hd' := hd d ho
    refine ⟨hs.defers, by simp [Act.put, hs.size], ok, fun t => ?_⟩
    show RepV _ (upd st.env d v t) ((a.tmps.setIfInBounds d v').getD t undef)
    by_cases htd : t = d
    · subst htd
      rw [upd_same]
      have : (a.tmps.setIfInBounds t v').getD t undef = v' := by
        have ht : t < a.tmps.size := by rw [hs.size]; exact hd'
        simp [ht]
      rw [this]
      exact hr
    · rw [upd_apply, if_neg htd]
      have : (a.tmps.setIfInBounds d v').getD t undef = a.tmps.getD t undef := by
        simp [Array.getElem?_setIfInBounds, Ne.symm htd]
      rw [this]
      exact RepV.mono hle _ _ (hs.tm t)

theorem Goal.value (hs : Sim X n base w0 st a w β) (hd : ∀ d, o.dst = some d → d < n) {v : AV} {us : Upds} {v' : Value} {w' : World} {β' : Nat → Nat → Option Nat} (hK : K v us)
    (hrun : (execOp a.eval o).run P w = .ok (.value v') w')
    (ok : HOK X base w0 (updH st.H us) w' β') (hle : (cx X st.H w β).Le (cx X (updH st.H us) w' β')) (hr : RepV (cx X (updH st.H us) w' β') v v') : Goal P X n base w0 o st K a w :=
  ⟨v, us, hK, fun next Q hn => by
    unfold Oper.wp
    rw [hrun]
    exact hn _ _ _ (hs.put hd ok hle hr)⟩

theorem Goal.skip (hs : Sim X n base w0 st a w β) (hd : ∀ d, o.dst = some d → d < n) {us : Upds} {w' : World} {β' : Nat → Nat → Option Nat} (hK : K .junk us)
    (hrun : (execOp a.eval o).run P w = .ok .skip w')
    (ok : HOK X base w0 (updH st.H us) w' β') (hle : (cx X st.H w β).Le (cx X (updH st.H us) w' β')) : Goal P X n base w0 o st K a w :=
  ⟨.junk, us, hK, fun next Q hn => by
    unfold Oper.wp
    rw [hrun]
    exact hn _ _ _ (hs.put hd ok hle (by simp only [RepV]))⟩

theorem Goal.pure (hs : Sim X n base w0 st a w β) (hd : ∀ d, o.dst = some d → d < n) {v : AV} {v' : Value} (hK : K v [])
    (hrun : (execOp a.eval o).run P w = .ok (.value v') w) (hr : RepV (cx X st.H w β) v v') : Goal P X n base w0 o st K a w :=
  Goal.value hs hd hK hrun hs.ok (.refl _) hr

theorem someQ_elim {α : Type} {x : Option α} {K : α → Prop} (h : someQ x K) : ∃ a, x = some a ∧ K a := by
  cases x with
  | none => exact h.elim
  | some a => exact ⟨a, rfl, h⟩

/-! ### operations that only reckon -/
theorem op_move (hs : Sim X n base w0 st a w β) (hd : ∀ d, o.dst = some d → d < n) {x : Operand} (ho : o.op = .move x ∨ o.op = .assign x) {xs : List AV} (hr : RepT (cx X st.H w β) xs [a.eval x]) {F d}
    (h : stepH F .move xs st.H d K) : Goal P X n base w0 o st K a w := by
  obtain ⟨y, rfl, hy⟩ := RepT1 hr
  simp only [stepH] at h
  exact Goal.pure hs hd h (by unfold execOp; rcases ho with ho | ho <;> simp [ho]) hy

theorem op_pick (hs : Sim X n base w0 st a w β) (hd : ∀ d, o.dst = some d → d < n) {x y z : Operand} (ho : o.op = .pick x y z) {xs : List AV} (hr : RepT (cx X st.H w β) xs [a.eval x, a.eval y, a.eval z]) {F d}
    (h : stepH F .pick xs st.H d K) : Goal P X n base w0 o st K a w := by
  obtain ⟨b, p, q, rfl, hb, hp, hq⟩ := RepT3 hr
  cases b <;> simp only [stepH] at h
  rename_i b
  simp only [RepV] at hb
  refine Goal.pure hs hd h (v' := if b then a.eval y else a.eval z) (by unfold execOp; simp [ho, hb, asBool]) ?_
  unfold pickV
  split
  · simp only [RepV] at hp hq ⊢
    rw [hp, hq]
    cases b <;> rfl
  · cases b <;> assumption

/-- Numbers, truths, texts: the same value in whatever world. -/
def isLit : AV → Bool
  | .int .. | .bool _ | .str _ => true
  | _ => false
def litV : AV → Value
  | .int k n => .int k n
  | .bool b => .bool b
  | .str s => .string s
  | _ => undef
theorem litV_rep {c : Cx} {v : AV} (h : isLit v = true) : RepV c v (litV v) := by cases v <;> simp_all [isLit, litV, RepV]

theorem intBin_sound {w : World} {op : BinOp} {k : IntKind} {x y : Int} {t : TypeId} {K : AV → Prop} (h : intBin op k x y K) :
    ∃ v, K v ∧ (binOp op t (.int k x) (.int k y)).run P w = .ok (litV v) w ∧ isLit v = true := by
  cases op <;> simp only [intBin] at h
  case add => exact ⟨_, h, by simp [binOp, Op.intArith, litV], rfl⟩
  case sub => exact ⟨_, h, by simp [binOp, Op.intArith, litV], rfl⟩
  case mul => exact ⟨_, h, by simp [binOp, Op.intArith, litV], rfl⟩
  case quo => exact ⟨_, h.2, by simp [binOp, Op.intDiv, h.1, litV], rfl⟩
  case rem => exact ⟨_, h.2, by simp [binOp, Op.intDiv, h.1, litV], rfl⟩
  case and => exact ⟨_, h, by simp [binOp, Op.intBits, litV], rfl⟩
  case or => exact ⟨_, h, by simp [binOp, Op.intBits, litV], rfl⟩
  case xor => exact ⟨_, h, by simp [binOp, Op.intBits, litV], rfl⟩
  case andNot => exact ⟨_, h, by simp [binOp, Op.intBits, litV], rfl⟩
  case eql => exact ⟨_, h, by simp [binOp, Op.intCmp, litV, BEq.beq], rfl⟩
  case neq => exact ⟨_, h, by simp [binOp, Op.intCmp, litV, bne, BEq.beq], rfl⟩
  case lss => exact ⟨_, h, by simp [binOp, Op.intCmp, litV], rfl⟩
  case leq => exact ⟨_, h, by simp [binOp, Op.intCmp, litV], rfl⟩
  case gtr => exact ⟨_, h, by simp [binOp, Op.intCmp, litV], rfl⟩
  case geq => exact ⟨_, h, by simp [binOp, Op.intCmp, litV], rfl⟩

theorem strBin_sound {w : World} {op : BinOp} {x y : ByteArray} {t : TypeId} {K : AV → Prop} (h : strBin op x y K) :
    ∃ v, K v ∧ (binOp op t (.string x) (.string y)).run P w = .ok (litV v) w ∧ isLit v = true := by
  cases op <;> simp only [strBin] at h
  case add => exact ⟨_, h.2, by rw [binOp_string_add, run_string_add_sum _ _ _ h.1]; rfl, rfl⟩
  case eql => exact ⟨_, h, by rw [binOp_string_eql]; rfl, rfl⟩
  case neq => exact ⟨_, h, by rw [binOp_string_neq]; rfl, rfl⟩
  case lss => exact ⟨_, h, by rw [binOp_string_lss]; rfl, rfl⟩

theorem binQ_sound {w : World} {op : BinOp} {x y : AV} {u v : Value} {c : Cx} {t : TypeId} {K : AV → Prop} (hx : RepV c x u) (hy : RepV c y v) (h : binQ op x y K) :
    ∃ r, K r ∧ (binOp op t u v).run P w = .ok (litV r) w ∧ isLit r = true := by
  unfold binQ at h
  split at h
  · simp only [RepV] at hx hy
    subst hx hy
    split at h
    · exact ⟨_, h.2, by simp only [binOp]; rw [shift_shl_any _ _ _ _ h.1]; rfl, rfl⟩
    · exact ⟨_, h.2, by simp only [binOp]; rw [shift_shr_any _ _ _ _ h.1]; rfl, rfl⟩
    · obtain ⟨rfl, h⟩ := h
      exact intBin_sound h
  · simp only [RepV] at hx hy
    subst hx hy
    exact strBin_sound h
  · exact h.elim

theorem eqGuard_lit {w : World} {op : BinOp} {t : TypeId} {x y : Operand} {u v : Value} {p q : AV} {c : Cx} {K' : AV → Prop} (hp : RepV c p u) (_hq : RepV c q v) (h : binQ op p q K') : (eqGuard op t x y u v).run P w = .ok () w := by
  have h1 : (∃ k n, u = .int k n) ∨ (∃ s, u = .string s) ∨ (∃ b, u = .bool b) := by
    unfold binQ at h
    split at h <;> first | exact h.elim | (simp only [RepV] at hp; subst hp; first | exact .inl ⟨_, _, rfl⟩ | exact .inr (.inl ⟨_, rfl⟩) | exact .inr (.inr ⟨_, rfl⟩))
  unfold eqGuard
  rcases h1 with ⟨k, m, rfl⟩ | ⟨s, rfl⟩ | ⟨b, rfl⟩ <;> (cases op <;> simp)

theorem op_bin (hs : Sim X n base w0 st a w β) (hd : ∀ d, o.dst = some d → d < n) {op : BinOp} {t yt : TypeId} {x y : Operand} (ho : o.op = .binOp op t x y yt)
    {xs : List AV} (hr : RepT (cx X st.H w β) xs [a.eval x, a.eval y]) {F d} (h : stepH F (.bin op) xs st.H d K) : Goal P X n base w0 o st K a w := by
  obtain ⟨p, q, rfl, hp, hq⟩ := RepT2 hr
  simp only [stepH] at h
  obtain ⟨r, hK, hrun, hl⟩ := binQ_sound (P := P) (w := w) (t := t) hp hq h
  refine Goal.pure hs hd hK ?_ (litV_rep hl)
  have hg := eqGuard_lit (P := P) (w := w) (t := t) (x := x) (y := y) hp hq h
  unfold execOp
  simp only [ho, Sem.run_bind, Sem.run_pure, hg, hrun, Result.andThen_ok]

theorem run_eql_sl_nil {w : World} {t e : TypeId} {a : Option Addr} {l c : Nat} (h : P.underlying t = some (.slice e)) : (binOp .eql t (.slice a l c) (.slice none 0 0)).run P w = .ok (.bool a.isNone) w := by
  simp only [binOp]
  simp [Op.equal, Op.maxDepth, run_equalIn_slice_nil w 9999 t e a l c h]
theorem run_neq_sl_nil {w : World} {t e : TypeId} {a : Option Addr} {l c : Nat} (h : P.underlying t = some (.slice e)) : (binOp .neq t (.slice a l c) (.slice none 0 0)).run P w = .ok (.bool (!a.isNone)) w := by
  simp only [binOp]
  simp [Op.equal, Op.maxDepth, run_equalIn_slice_nil w 9999 t e a l c h]

theorem op_isNil (hs : Sim X n base w0 st a w β) (hd : ∀ d, o.dst = some d → d < n) {neg : Bool} {t yt e : TypeId} {x y : Operand} (ho : o.op = .binOp (if neg then .neq else .eql) t x y yt)
    (ht : P.underlying t = some (.slice e)) {xs : List AV} (hr : RepT (cx X st.H w β) xs [a.eval x, a.eval y]) {F d} (h : stepH F (.isNil neg) xs st.H d K) : Goal P X n base w0 o st K a w := by
  obtain ⟨p, q, rfl, hp, hq⟩ := RepT2 hr
  cases p <;> cases q <;> simp only [stepH] at h
  · simp only [RepV] at hp hq
    refine Goal.pure hs hd h (v' := .bool (!neg)) ?_ (by simp only [RepV])
    unfold execOp
    cases neg
    · simp [ho, hp, hq, eqGuard, run_eql_sl_nil ht]
    · simp [ho, hp, hq, eqGuard, run_neq_sl_nil ht]
  · simp only [RepV] at hp hq
    obtain ⟨b, off, cap, hp, _⟩ := hp
    refine Goal.pure hs hd h (v' := .bool neg) ?_ (by simp only [RepV])
    unfold execOp
    cases neg
    · simp [ho, hp, hq, eqGuard, run_eql_sl_nil ht]
    · simp [ho, hp, hq, eqGuard, run_neq_sl_nil ht]

theorem op_cap (hs : Sim X n base w0 st a w β) (hd : ∀ d, o.dst = some d → d < n) {t e : TypeId} {x : Operand} (ho : o.op = .call { callee := .builtin .cap, args := #[x], argTypes := #[t] })
    (ht : P.underlying t = some (.slice e)) {xs : List AV} (hr : RepT (cx X st.H w β) xs [a.eval x]) {F d} (h : stepH F .cap xs st.H d K) : Goal P X n base w0 o st K a w := by
  obtain ⟨p, rfl, hp⟩ := RepT1 hr
  cases p <;> simp only [stepH] at h
  simp only [RepV] at hp
  refine Goal.pure hs hd h (v' := litV (.int _ _)) ?_ (litV_rep rfl)
  unfold execOp
  simp [ho, hp, resolve, invoke, builtin, Builtin.cap_, run_underlying ht, litV, goInt]

theorem op_binB (hs : Sim X n base w0 st a w β) (hd : ∀ d, o.dst = some d → d < n) {neg : Bool} {t yt : TypeId} {x y : Operand} (ho : o.op = .binOp (if neg then .neq else .eql) t x y yt)
    (ht : P.underlying t = some .bool) {xs : List AV} (hr : RepT (cx X st.H w β) xs [a.eval x, a.eval y]) {F d} (h : stepH F (.binB neg) xs st.H d K) : Goal P X n base w0 o st K a w := by
  obtain ⟨p, q, rfl, hp, hq⟩ := RepT2 hr
  cases p <;> cases q <;> simp only [stepH] at h
  rename_i p q
  simp only [RepV] at hp hq
  refine Goal.pure hs hd h (v' := .bool (if neg then !(p == q) else p == q)) ?_ (by simp only [RepV])
  unfold execOp
  cases neg
  · simp [ho, hp, hq, eqGuard, run_eql_bool _ _ _ _ ht]
  · simp [ho, hp, hq, eqGuard, run_neq_bool _ _ _ _ ht]

theorem op_un (hs : Sim X n base w0 st a w β) (hd : ∀ d, o.dst = some d → d < n) {op : UnOp} {t : TypeId} {x : Operand} (ho : o.op = .unOp op t x)
    {xs : List AV} (hr : RepT (cx X st.H w β) xs [a.eval x]) {F d} (h : stepH F (.un op) xs st.H d K) : Goal P X n base w0 o st K a w := by
  obtain ⟨p, rfl, hp⟩ := RepT1 hr
  simp only [stepH] at h
  unfold unQ at h
  split at h
  · simp only [RepV] at hp
    exact Goal.pure hs hd h (v' := litV (.int _ _)) (by unfold execOp; simp [ho, hp, Op.unary, Op.intArith, litV]) (litV_rep rfl)
  · simp only [RepV] at hp
    exact Goal.pure hs hd h (v' := litV (.bool _)) (by unfold execOp; simp [ho, hp, Op.unary, litV]) (litV_rep rfl)
  · simp only [RepV] at hp
    exact Goal.pure hs hd h (v' := litV (.int _ _)) (by unfold execOp; simp [ho, hp, Op.unary, Op.intBits, litV]) (litV_rep rfl)
  · exact h.elim

theorem op_toInt (hs : Sim X n base w0 st a w β) (hd : ∀ d, o.dst = some d → d < n) {k : IntKind} {src dst : TypeId} {x : Operand} (ho : o.op = .convert src dst x)
    (h1 : (P.underlying src).isSome = true) (h2 : P.underlying dst = some (.int k)) {xs : List AV} (hr : RepT (cx X st.H w β) xs [a.eval x]) {F d} (h : stepH F (.toInt k) xs st.H d K) : Goal P X n base w0 o st K a w := by
  obtain ⟨p, rfl, hp⟩ := RepT1 hr
  cases p <;> simp only [stepH] at h
  simp only [RepV] at hp
  obtain ⟨d', h1'⟩ := Option.isSome_iff_exists.mp h1
  refine Goal.pure hs hd h (v' := litV (.int _ _)) ?_ (litV_rep rfl)
  unfold execOp
  simp [ho, hp, convert, run_underlying h1', run_underlying h2, Conv.intToInt, litV]

theorem op_lenS (hs : Sim X n base w0 st a w β) (hd : ∀ d, o.dst = some d → d < n) {t : TypeId} {x : Operand} (ho : o.op = .call { callee := .builtin .len, args := #[x], argTypes := #[t] })
    (ht : P.underlying t = some .string) {xs : List AV} (hr : RepT (cx X st.H w β) xs [a.eval x]) {F d} (h : stepH F .lenS xs st.H d K) : Goal P X n base w0 o st K a w := by
  obtain ⟨p, rfl, hp⟩ := RepT1 hr
  cases p <;> simp only [stepH] at h
  simp only [RepV] at hp
  refine Goal.pure hs hd h (v' := litV (.int _ _)) ?_ (litV_rep rfl)
  unfold execOp
  simp [ho, hp, resolve, invoke, builtin, Builtin.len_, run_underlying ht, litV, goInt]

theorem op_lenL (hs : Sim X n base w0 st a w β) (hd : ∀ d, o.dst = some d → d < n) {t e : TypeId} {x : Operand} (ho : o.op = .call { callee := .builtin .len, args := #[x], argTypes := #[t] })
    (ht : P.underlying t = some (.slice e)) {xs : List AV} (hr : RepT (cx X st.H w β) xs [a.eval x]) {F d} (h : stepH F .lenL xs st.H d K) : Goal P X n base w0 o st K a w := by
  obtain ⟨p, rfl, hp⟩ := RepT1 hr
  have key : ∀ (m : Nat) (b : Option Addr) (c : Nat), a.eval x = .slice b m c → K (.int .i64 m) [] → Goal P X n base w0 o st K a w := by
    intro m b c hv hK
    refine Goal.pure hs hd hK (v' := litV (.int _ _)) ?_ (litV_rep rfl)
    unfold execOp
    simp [ho, hv, resolve, invoke, builtin, Builtin.len_, run_underlying ht, litV, goInt]
  cases p <;> simp only [stepH] at h <;> simp only [RepV] at hp
  case sl es =>
    rcases hp with ⟨h1, h2⟩ | ⟨b, off, cap, h1, _⟩
    · exact key 0 _ _ h1 (by rw [h2] at h; exact h)
    · exact key _ _ _ h1 h
  case nil => exact key 0 _ _ hp h
  case view s g sz m =>
    rcases hp with ⟨_, ⟨_, h1, h2⟩ | ⟨b, cap, cur, e', _, h1, _⟩⟩
    · exact key 0 _ _ h1 (by rw [h2] at h; exact h)
    · exact key _ _ _ h1 h

theorem op_index (hs : Sim X n base w0 st a w β) (hd : ∀ d, o.dst = some d → d < n) {t : TypeId} {x y : Operand} (ho : o.op = .index t x y)
    (ht : P.underlying t = some .string) {xs : List AV} (hr : RepT (cx X st.H w β) xs [a.eval x, a.eval y]) {F d} (h : stepH F .index xs st.H d K) : Goal P X n base w0 o st K a w := by
  obtain ⟨p, q, rfl, hp, hq⟩ := RepT2 hr
  cases p <;> cases q <;> simp only [stepH] at h
  rename_i s k i
  simp only [RepV] at hp hq
  obtain ⟨h0, h⟩ := h
  obtain ⟨b, hb, hK⟩ := someQ_elim h
  refine Goal.pure hs hd hK (v' := litV (.int _ _)) ?_ (litV_rep rfl)
  have hlt : i.toNat < s.size := (Array.getElem?_eq_some_iff.1 hb).1
  have hget : s[i.toNat]? = some b := by
    rw [ByteArray.getElem?_lt' s i.toNat hlt]
    have := (Array.getElem?_eq_some_iff.1 hb).2
    exact congrArg some this
  unfold execOp
  simp [ho, hp, hq, Instr.index, asIntOf, run_underlying ht, h0, hget, litV]

theorem op_extract (hs : Sim X n base w0 st a w β) (hd : ∀ d, o.dst = some d → d < n) {i : Nat} {x : Operand} (ho : o.op = .extract x i)
    {xs : List AV} (hr : RepT (cx X st.H w β) xs [a.eval x]) {F d} (h : stepH F (.extract i) xs st.H d K) : Goal P X n base w0 o st K a w := by
  obtain ⟨p, rfl, hp⟩ := RepT1 hr
  cases p <;> simp only [stepH] at h
  simp only [RepV] at hp
  obtain ⟨vs, hv, hvs⟩ := hp
  obtain ⟨y, hy, hK⟩ := someQ_elim h
  obtain ⟨v, hv', hy'⟩ := (RepT_iff.1 hvs).2 i y hy
  refine Goal.pure hs hd hK (v' := v) ?_ hy'
  unfold execOp
  simp [ho, hv, Instr.extract, hv']

theorem op_minmax (hs : Sim X n base w0 st a w β) (hd : ∀ d, o.dst = some d → d < n) {mx : Bool} {ts : Array TypeId} {x y : Operand}
    (ho : o.op = .call { callee := .builtin (if mx then .max else .min), args := #[x, y], argTypes := ts })
    {xs : List AV} (hr : RepT (cx X st.H w β) xs [a.eval x, a.eval y]) {F d} (h : stepH F (if mx then .max else .min) xs st.H d K) : Goal P X n base w0 o st K a w := by
  obtain ⟨p, q, rfl, hp, hq⟩ := RepT2 hr
  cases mx
  · simp only [Bool.false_eq_true, if_false] at h ho
    cases p <;> cases q <;> simp only [stepH] at h
    simp only [RepV] at hp hq
    refine Goal.pure hs hd h.2 (v' := litV (.int _ _)) ?_ (litV_rep rfl)
    unfold execOp
    simp [ho, hp, hq, resolve, invoke, builtin, run_min_int2, litV]
  · simp only [if_true] at h ho
    cases p <;> cases q <;> simp only [stepH] at h
    simp only [RepV] at hp hq
    refine Goal.pure hs hd h.2 (v' := litV (.int _ _)) ?_ (litV_rep rfl)
    unfold execOp
    simp [ho, hp, hq, resolve, invoke, builtin, run_max_int2, litV]

theorem op_mkfn (hs : Sim X n base w0 st a w β) (hd : ∀ d, o.dst = some d → d < n) {f : FuncId} (ho : o.op = .makeFunc (.func f) #[] #[]) {F d}
    (h : stepH F (.mkfn f) [] st.H d K) : Goal P X n base w0 o st K a w := by
  simp only [stepH] at h
  exact Goal.pure hs hd h (v' := .func (.func f) #[] #[]) (by unfold execOp; simp [ho, Instr.makeFunc]) (by simp only [RepV])

end
end Go.Ev
