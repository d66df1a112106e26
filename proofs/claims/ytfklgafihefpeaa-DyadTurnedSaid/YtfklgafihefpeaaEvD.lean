/- An abstract evaluator, part 13: the small syntax out of the model's code; an operation, a region in its own order. -/
import Derived.Test.YtfklgafihefpeaaEvC
set_option linter.unusedVariables false
set_option linter.unusedSimpArgs false
namespace Go.Ev
open Go.RowKit

def convOpd : Operand → Option Opd
  | .tmp t => some (.t t)
  | .const v => (ofVal v).map .c
  | .func f => some (.c (.fn f))
  | .global _ => none

def aggSz (P : Program) (t : TypeId) : Option (Option Nat) :=
  match P.underlying t with
  | some d => if aggD d then (P.info? t).map (fun i => some i.size) else some none
  | none => none

theorem aggSz_spec {P : Program} {t : TypeId} {sz : Option Nat} (h : aggSz P t = some sz) : aggOf P t sz := by
  unfold aggSz at h
  split at h
  · rename_i d hd
    split at h
    · rename_i ha
      simp only [Option.map_eq_some_iff] at h
      obtain ⟨i, hi, rfl⟩ := h
      exact ⟨d, hd, ha, by rw [hi]; rfl⟩
    · rename_i ha
      injection h with h
      subst h
      exact ⟨d, hd, by simpa using ha⟩
  · cases h

def sliceElem (P : Program) (t : TypeId) : Option (TypeId × TypeInfo) :=
  match P.underlying t with
  | some (.slice e) => (P.info? e).map fun i => (e, i)
  | _ => none

theorem sliceElem_spec {P : Program} {t e : TypeId} {i : TypeInfo} (h : sliceElem P t = some (e, i)) : P.underlying t = some (.slice e) ∧ P.info? e = some i := by
  unfold sliceElem at h
  split at h
  · rename_i e' hu
    simp only [Option.map_eq_some_iff] at h
    obtain ⟨i', hi, h⟩ := h
    injection h with h1 h2
    subst h1 h2
    exact ⟨hu, hi⟩
  · cases h

def structField (P : Program) (t : TypeId) (f : Nat) : Option Field :=
  match P.underlying t with
  | some (.struct fs) => fs[f]?
  | _ => none

theorem structField_spec {P : Program} {t : TypeId} {f : Nat} {fd : Field} (h : structField P t f = some fd) : ∃ fs, P.underlying t = some (.struct fs) ∧ fs[f]? = some fd := by
  unfold structField at h
  split at h
  · rename_i fs hu
    exact ⟨fs, hu, h⟩
  · cases h

def isStrT (P : Program) (t : TypeId) : Bool := match P.underlying t with | some .string => true | _ => false
def isIntT (P : Program) (t : TypeId) : Bool := match P.underlying t with | some (.int _) => true | _ => false
def isBoolT (P : Program) (t : TypeId) : Bool := match P.underlying t with | some .bool => true | _ => false
def isU8 (P : Program) (t : TypeId) : Bool := match P.underlying t with | some (.int .u8) => true | _ => false
def intT (P : Program) (t : TypeId) : Option IntKind := match P.underlying t with | some (.int k) => some k | _ => none
def isSliceT (P : Program) (t : TypeId) : Bool := match P.underlying t with | some (.slice _) => true | _ => false
theorem isSliceT_spec {P : Program} {t : TypeId} (h : isSliceT P t = true) : ∃ e, P.underlying t = some (.slice e) := by unfold isSliceT at h; split at h <;> simp_all
def isStructT (P : Program) (t : TypeId) : Bool := match P.underlying t with | some (.struct _) => true | _ => false

theorem isStrT_spec {P : Program} {t : TypeId} (h : isStrT P t = true) : P.underlying t = some .string := by unfold isStrT at h; split at h <;> simp_all
theorem isBoolT_spec {P : Program} {t : TypeId} (h : isBoolT P t = true) : P.underlying t = some .bool := by unfold isBoolT at h; split at h <;> simp_all
theorem isU8_spec {P : Program} {t : TypeId} (h : isU8 P t = true) : P.underlying t = some (.int .u8) := by unfold isU8 at h; split at h <;> simp_all
theorem isIntT_spec {P : Program} {t : TypeId} (h : isIntT P t = true) : (P.underlying t).isSome = true := by unfold isIntT at h; split at h <;> simp_all
theorem intT_spec {P : Program} {t : TypeId} {k : IntKind} (h : intT P t = some k) : P.underlying t = some (.int k) := by unfold intT at h; split at h <;> simp_all
theorem isStructT_spec {P : Program} {t : TypeId} (h : isStructT P t = true) : P.underlying t = some (.struct (P.fieldsOf t)) := by
  unfold isStructT at h
  unfold Program.fieldsOf
  split at h
  · rename_i fs hu; rw [hu]
  · cases h

def guardO (b : Bool) : Option Unit := if b then some () else none
theorem guardO_spec {b : Bool} {u : Unit} (h : guardO b = some u) : b = true := by unfold guardO at h; split at h <;> simp_all

def convCall (P : Program) (c : Call) : Option (Head × List Operand) :=
  match c.callee with
  | .value (.func f) => some (.call f, c.args.toList)
  | .value fo => some (.callv, fo :: c.args.toList)
  | .invoke _ _ => none
  | .builtin b =>
    match b, c.args.toList, c.argTypes.toList with
    | .len, [x], [t] => if isStrT P t then some (.lenS, [x]) else (sliceElem P t).map fun _ => (.lenL, [x])
    | .append, [x, y], [t, t2] => (sliceElem P t).bind fun (e, i) => i.zero.bind fun z => (guardO (t == t2 && z.cells.size == i.size && decide (0 < i.size))).map fun _ => (.app e i.size i.bytes, [x, y])
    | .copy, [x, y], [t, _] => (sliceElem P t).bind fun (_, i) => (guardO (i.size == 1)).map fun _ => (.copy i.size, [x, y])
    | .cap, [x], [t] => (sliceElem P t).map fun _ => (.cap, [x])
    | .max, [x, y], _ => some (.max, [x, y])
    | .min, [x, y], _ => some (.min, [x, y])
    | _, _, _ => none

def conv (P : Program) (op : Op) : Option (Head × List Operand) :=
  match op with
  | .move x => some (.move, [x])
  | .assign x => some (.move, [x])
  | .pick c x y => some (.pick, [c, x, y])
  | .alloc t => (zeroOf P t).map fun z => (.alloc z, [])
  | .box _ x => some (.box, [x])
  | .build t parts => (zeroOf P t).bind fun z => (placesOf P t).bind fun pl => ((parts.toList.map (·.1)).mapM (pl.toArray[·]?)).map fun ps => (.build z ps, parts.toList.map (·.2))
  | .buildSlice t len parts => (sliceElem P t).bind fun (e, i) => (guardO (i.zero.isSome && parts.size == len && decide (parts.toList.map (·.1) = List.range' 0 len) && decide (len * i.size ≤ 16777216) && decide (len ≤ 16777216))).map fun _ =>
      (.buildSl e i.size, parts.toList.map (·.2))
  | .load t x => (aggSz P t).map fun sz => (.load sz, [x])
  | .store t x y => (P.info? t).map fun i => (.store i.size, [x, y])
  | .binOp op t x y _ =>
    if isBoolT P t then (match op with | .eql => some (.binB false, [x, y]) | .neq => some (.binB true, [x, y]) | _ => none)
    else if isStructT P t then (guardO (!P.stoodInHeld t && !P.eqGuardType P.depth t)).bind fun _ => (fieldKinds P (P.fieldsOf t).toList 0).bind fun ks =>
      (match op with | .eql => some (.eqAgg false ks, [x, y]) | .neq => some (.eqAgg true ks, [x, y]) | _ => none)
    else if isSliceT P t then (match op with | .eql => some (.isNil false, [x, y]) | .neq => some (.isNil true, [x, y]) | _ => none)
    else some (.bin op, [x, y])
  | .unOp op _ x => some (.un op, [x])
  | .convert src dst x =>
    if isIntT P src then (intT P dst).map fun k => (.toInt k, [x])
    else if isStrT P src then (sliceElem P dst).bind fun (e, _) => (guardO (isU8 P e)).map fun _ => (.s2b, [x])
    else (sliceElem P src).bind fun (e, _) => (guardO (isU8 P e && isStrT P dst)).map fun _ => (.b2s, [x])
  | .makeSlice t l c => (sliceElem P t).bind fun (e, i) => i.zero.bind fun zv => (zv.cells.toList.mapM ofVal).bind fun z => (guardO (zv.cells.size == i.size)).map fun _ => (.mkSl e i.size i.bytes (z.map denil), [l, c])
  | .slice t x lo hi none =>
    if isStrT P t then some (.sliceS lo.isSome hi.isSome, x :: (lo.toList ++ hi.toList))
    else (sliceElem P t).map fun (_, i) => (.sliceL i.size lo.isSome hi.isSome, x :: (lo.toList ++ hi.toList))
  | .fieldAddr s x f => (structField P s f).bind fun fd => (P.info? fd.type).bind fun i => (guardO (i.size != 0)).map fun _ => (.faddr fd.offset, [x])
  | .field t x f => (structField P t f).bind fun fd => (aggSz P fd.type).map fun sz => (.field fd.offset sz, [x])
  | .indexAddr t x y => (sliceElem P t).map fun (_, i) => (.iaddr i.size, [x, y])
  | .index t x y => (guardO (isStrT P t)).map fun _ => (.index, [x, y])
  | .extract x i => some (.extract i, [x])
  | .call c => convCall P c
  | .makeFunc (.func f) first captured => (guardO (first.isEmpty && captured.isEmpty)).map fun _ => (.mkfn f, [])
  | _ => none

/-- An operation's head and arguments; what is not covered may not be reached. -/
def convH (P : Program) (o : Oper) : Head × List Opd := ((conv P o.op).bind fun (h, xs) => (xs.mapM convOpd).map fun args => (h, args)).getD (.stop, [])

theorem convH_spec (P : Program) (o : Oper) : (∃ h xs args, conv P o.op = some (h, xs) ∧ xs.mapM convOpd = some args ∧ convH P o = (h, args)) ∨ convH P o = (.stop, []) := by
  unfold convH
  cases h : conv P o.op with
  | none => exact .inr rfl
  | some p =>
    obtain ⟨hd, xs⟩ := p
    cases h2 : xs.mapM convOpd with
    | none => exact .inr (by simp [h2])
    | some args => exact .inl ⟨hd, xs, args, rfl, h2, by simp [h2]⟩

def convO (P : Program) (n : Nat) (ops : Array Oper) (o : Oper) : Option AO :=
  (guardO (match o.dst with | some d => decide (d < n) | none => true)).bind fun _ =>
  match o.guard with
  | none => some ⟨o.dst, (convH P o).1, (convH P o).2, none⟩
  | some (j, want) => ((ops[j]?).bind (·.dst)).bind fun t => (guardO (decide (t < n))).map fun _ => ⟨o.dst, (convH P o).1, (convH P o).2, some (t, want)⟩

section
variable {P : Program} {X : Nat → Prop} {n : Nat} {base : Base} {w0 w : World} {st : St} {a : Act} {β : Nat → Nat → Option Nat} {o : Oper} {K : Kont}

theorem opd_rep (hs : Sim X n base w0 st a w β) {x : Operand} {y : Opd} (h : convOpd x = some y) : RepV (cx X st.H w β) (st.ev y) (a.eval x) := by
  cases x with
  | tmp t => simp only [convOpd, Option.some.injEq] at h; subst h; exact hs.tm t
  | const v =>
    simp only [convOpd, Option.map_eq_some_iff] at h
    obtain ⟨z, hz, rfl⟩ := h
    exact (ofVal_rep hz).1
  | func f => simp only [convOpd, Option.some.injEq] at h; subst h; simp only [St.ev, RepV]; rfl
  | global g => cases h

theorem opds_rep (hs : Sim X n base w0 st a w β) : ∀ {xs : List Operand} {ys : List Opd}, xs.mapM convOpd = some ys → RepT (cx X st.H w β) (ys.map st.ev) (xs.map a.eval)
  | [], ys => fun h => by simp at h; subst h; simp [RepT]
  | x :: xs, ys => fun h => by
    simp only [List.mapM_cons, Option.bind_eq_bind, Option.pure_def, Option.bind_eq_some_iff, Option.some.injEq] at h
    obtain ⟨y, hy, ys', hys, rfl⟩ := h
    simp only [List.map_cons, RepT]
    exact ⟨_, _, rfl, opd_rep hs hy, opds_rep hs hys⟩

theorem head_sound (hs : Sim X n base w0 st a w β) (hd : ∀ d, o.dst = some d → d < n) {hd' : Head} {xs : List Operand} (hc : conv P o.op = some (hd', xs)) {avs : List AV} (hr : RepT (cx X st.H w β) avs (xs.map a.eval)) {d}
    (h : stepH (Fn P) hd' avs st.H d K) : Goal P X n base w0 o st K a w := by
  obtain ⟨dst, op, type, pos, after, guard⟩ := o
  simp only at hd hc
  unfold conv at hc
  cases op <;> simp only at hc
  case move x => injection hc with hc; injection hc with h1 h2; subst h1 h2; exact op_move hs hd (.inl rfl) hr h
  case assign x => injection hc with hc; injection hc with h1 h2; subst h1 h2; exact op_move hs hd (.inr rfl) hr h
  case pick c x y => injection hc with hc; injection hc with h1 h2; subst h1 h2; exact op_pick hs hd rfl hr h
  case alloc t =>
    simp only [Option.map_eq_some_iff] at hc
    obtain ⟨z, hz, hc⟩ := hc
    injection hc with h1 h2
    subst h1 h2
    cases avs with
    | nil => exact op_alloc hs hd rfl hz h
    | cons _ _ => simp [RepT] at hr
  case box t x => injection hc with hc; injection hc with h1 h2; subst h1 h2; exact op_box hs hd rfl hr h
  case build t parts =>
    simp only [Option.bind_eq_some_iff, Option.map_eq_some_iff] at hc
    obtain ⟨z, hz, pl, hpl, ps, hps, hc⟩ := hc
    injection hc with h1 h2
    subst h1 h2
    rw [List.map_map] at hr
    exact op_build hs hd rfl hz hpl hps hr h
  case buildSlice t len parts =>
    simp only [Option.bind_eq_some_iff, Option.map_eq_some_iff] at hc
    obtain ⟨⟨e, i⟩, he, u, hg, hc⟩ := hc
    injection hc with h1 h2
    subst h1 h2
    have hg := guardO_spec hg
    simp only [Bool.and_eq_true, beq_iff_eq, decide_eq_true_eq] at hg
    obtain ⟨⟨⟨⟨g1, g2⟩, g3⟩, g4⟩, g5⟩ := hg
    obtain ⟨zv, hzv⟩ := Option.isSome_iff_exists.mp g1
    obtain ⟨hu, hi⟩ := sliceElem_spec he
    rw [List.map_map] at hr
    exact op_buildSl hs hd rfl hu hi hzv g2 g3 g4 g5 hr h
  case load t x =>
    simp only [Option.map_eq_some_iff] at hc
    obtain ⟨sz, hsz, hc⟩ := hc
    injection hc with h1 h2
    subst h1 h2
    exact op_load hs hd rfl (aggSz_spec hsz) hr h
  case store t x y =>
    simp only [Option.map_eq_some_iff] at hc
    obtain ⟨i, hi, hc⟩ := hc
    injection hc with h1 h2
    subst h1 h2
    exact op_store hs hd rfl (m := i.size) (by rw [hi]; rfl) hr h
  case binOp bop t x y yt =>
    split at hc
    · rename_i hb
      split at hc
      · injection hc with hc; injection hc with h1 h2; subst h1 h2; exact op_binB (neg := false) hs hd rfl (isBoolT_spec hb) hr h
      · injection hc with hc; injection hc with h1 h2; subst h1 h2; exact op_binB (neg := true) hs hd rfl (isBoolT_spec hb) hr h
      · cases hc
    · split at hc
      · rename_i hst
        simp only [Option.bind_eq_some_iff] at hc
        obtain ⟨u, hg, ks, hks, hc⟩ := hc
        have hg := guardO_spec hg
        simp only [Bool.and_eq_true, Bool.not_eq_true'] at hg
        split at hc
        · injection hc with hc; injection hc with h1 h2; subst h1 h2; exact op_eqAgg (neg := false) hs hd rfl (isStructT_spec hst) hg.1 hg.2 hks hr h
        · injection hc with hc; injection hc with h1 h2; subst h1 h2; exact op_eqAgg (neg := true) hs hd rfl (isStructT_spec hst) hg.1 hg.2 hks hr h
        · cases hc
      · split at hc
        · rename_i hsl
          obtain ⟨e, hsl⟩ := isSliceT_spec hsl
          split at hc
          · injection hc with hc; injection hc with h1 h2; subst h1 h2; exact op_isNil (neg := false) hs hd rfl hsl hr h
          · injection hc with hc; injection hc with h1 h2; subst h1 h2; exact op_isNil (neg := true) hs hd rfl hsl hr h
          · cases hc
        · injection hc with hc; injection hc with h1 h2; subst h1 h2; exact op_bin hs hd rfl hr h
  case unOp uop t x => injection hc with hc; injection hc with h1 h2; subst h1 h2; exact op_un hs hd rfl hr h
  case convert src dst' x =>
    split at hc
    · rename_i hi
      simp only [Option.map_eq_some_iff] at hc
      obtain ⟨k, hk, hc⟩ := hc
      injection hc with h1 h2
      subst h1 h2
      exact op_toInt hs hd rfl (isIntT_spec hi) (intT_spec hk) hr h
    · split at hc
      · rename_i hst
        simp only [Option.bind_eq_some_iff, Option.map_eq_some_iff] at hc
        obtain ⟨⟨e, i⟩, he, u, hg, hc⟩ := hc
        injection hc with h1 h2
        subst h1 h2
        exact op_s2b hs hd rfl (isStrT_spec hst) (sliceElem_spec he).1 (isU8_spec (guardO_spec hg)) hr h
      · simp only [Option.bind_eq_some_iff, Option.map_eq_some_iff] at hc
        obtain ⟨⟨e, i⟩, he, u, hg, hc⟩ := hc
        injection hc with h1 h2
        subst h1 h2
        have hg := guardO_spec hg
        simp only [Bool.and_eq_true] at hg
        exact op_b2s hs hd rfl (sliceElem_spec he).1 (isU8_spec hg.1) (isStrT_spec hg.2) hr h
  case makeSlice t l c =>
    simp only [Option.bind_eq_some_iff, Option.map_eq_some_iff] at hc
    obtain ⟨⟨e, i⟩, he, zv, hzv, z, hz, u, hg, hc⟩ := hc
    injection hc with h1 h2
    subst h1 h2
    obtain ⟨hu, hi⟩ := sliceElem_spec he
    have hg := guardO_spec hg
    simp only [beq_iff_eq] at hg
    exact op_mkSl hs hd rfl hu hi hzv (fun c => RepL_denil (ofVals_rep hz)) hg hr h
  case slice t x lo hi mx =>
    cases mx with
    | some _ => cases hc
    | none =>
      simp only at hc
      split at hc
      · rename_i hst
        injection hc with hc; injection hc with h1 h2; subst h1 h2
        exact op_sliceS hs hd rfl (isStrT_spec hst) hr h
      · simp only [Option.map_eq_some_iff] at hc
        obtain ⟨⟨e, i⟩, he, hc⟩ := hc
        injection hc with h1 h2
        subst h1 h2
        obtain ⟨hu, hi'⟩ := sliceElem_spec he
        exact op_sliceL hs hd rfl hu hi' hr h
  case fieldAddr s x f =>
    simp only [Option.bind_eq_some_iff, Option.map_eq_some_iff] at hc
    obtain ⟨fd, hfd, i, hi, u, hg, hc⟩ := hc
    injection hc with h1 h2
    subst h1 h2
    obtain ⟨fs, hu, hf⟩ := structField_spec hfd
    have hg := guardO_spec hg
    exact op_faddr hs hd rfl hu hf hi (by simpa using hg) hr h
  case field t x f =>
    simp only [Option.bind_eq_some_iff, Option.map_eq_some_iff] at hc
    obtain ⟨fd, hfd, sz, hsz, hc⟩ := hc
    injection hc with h1 h2
    subst h1 h2
    obtain ⟨fs, hu, hf⟩ := structField_spec hfd
    exact op_field hs hd rfl hu hf (aggSz_spec hsz) hr h
  case indexAddr t x y =>
    simp only [Option.map_eq_some_iff] at hc
    obtain ⟨⟨e, i⟩, he, hc⟩ := hc
    injection hc with h1 h2
    subst h1 h2
    obtain ⟨hu, hi⟩ := sliceElem_spec he
    exact op_iaddr hs hd rfl hu hi hr h
  case index t x y =>
    simp only [Option.map_eq_some_iff] at hc
    obtain ⟨u, hg, hc⟩ := hc
    injection hc with h1 h2
    subst h1 h2
    exact op_index hs hd rfl (isStrT_spec (guardO_spec hg)) hr h
  case extract x i => injection hc with hc; injection hc with h1 h2; subst h1 h2; exact op_extract hs hd rfl hr h
  case makeFunc fn first captured =>
    cases fn <;> simp only at hc <;> try (cases hc; done)
    simp only [Option.map_eq_some_iff] at hc
    obtain ⟨u, hg, hc⟩ := hc
    injection hc with h1 h2
    subst h1 h2
    have hg := guardO_spec hg
    simp only [Bool.and_eq_true, Array.isEmpty_iff] at hg
    obtain ⟨rfl, rfl⟩ := hg
    cases avs with
    | nil => exact op_mkfn hs hd rfl h
    | cons _ _ => simp [RepT] at hr
  case call c =>
    obtain ⟨callee, args, argTypes⟩ := c
    unfold convCall at hc
    cases callee with
    | invoke _ _ => cases hc
    | value fo =>
      cases fo with
      | func f => simp only at hc; injection hc with hc; injection hc with h1 h2; subst h1 h2; exact op_call hs hd rfl hr h
      | tmp t => simp only at hc; injection hc with hc; injection hc with h1 h2; subst h1 h2; exact op_callv hs hd rfl hr h
      | const v => simp only at hc; injection hc with hc; injection hc with h1 h2; subst h1 h2; exact op_callv hs hd rfl hr h
      | global g => simp only at hc; injection hc with hc; injection hc with h1 h2; subst h1 h2; exact op_callv hs hd rfl hr h
    | builtin b =>
      simp only at hc
      split at hc
      · rename_i x t ha ht
        have ea : args = #[x] := Array.toList_inj.1 ha
        have et : argTypes = #[t] := Array.toList_inj.1 ht
        subst ea et
        split at hc
        · rename_i hst
          injection hc with hc; injection hc with h1 h2; subst h1 h2
          exact op_lenS hs hd rfl (isStrT_spec hst) hr h
        · simp only [Option.map_eq_some_iff] at hc
          obtain ⟨⟨e, i⟩, he, hc⟩ := hc
          injection hc with h1 h2
          subst h1 h2
          exact op_lenL hs hd rfl (sliceElem_spec he).1 hr h
      · rename_i x y t t2 ha ht
        have ea : args = #[x, y] := Array.toList_inj.1 ha
        have et : argTypes = #[t, t2] := Array.toList_inj.1 ht
        subst ea et
        simp only [Option.bind_eq_some_iff, Option.map_eq_some_iff] at hc
        obtain ⟨⟨e, i⟩, he, z, hz, u, hg, hc⟩ := hc
        injection hc with h1 h2
        subst h1 h2
        have hg := guardO_spec hg
        simp only [Bool.and_eq_true, beq_iff_eq, decide_eq_true_eq] at hg
        obtain ⟨⟨g1, g2⟩, g3⟩ := hg
        subst g1
        obtain ⟨hu, hi⟩ := sliceElem_spec he
        exact op_app hs hd rfl hu hi hz g2 g3 hr h
      · rename_i x y t t2 ha ht
        have ea : args = #[x, y] := Array.toList_inj.1 ha
        have et : argTypes = #[t, t2] := Array.toList_inj.1 ht
        subst ea et
        simp only [Option.bind_eq_some_iff, Option.map_eq_some_iff] at hc
        obtain ⟨⟨e, i⟩, he, u, hg, hc⟩ := hc
        injection hc with h1 h2
        subst h1 h2
        have hg := guardO_spec hg
        simp only [beq_iff_eq] at hg
        obtain ⟨hu, hi⟩ := sliceElem_spec he
        exact op_copy hs hd rfl hu hi hg hr h
      · rename_i x t ha ht
        have ea : args = #[x] := Array.toList_inj.1 ha
        have et : argTypes = #[t] := Array.toList_inj.1 ht
        subst ea et
        simp only [Option.map_eq_some_iff] at hc
        obtain ⟨⟨e, i⟩, he, hc⟩ := hc
        injection hc with h1 h2
        subst h1 h2
        exact op_cap hs hd rfl (sliceElem_spec he).1 hr h
      · rename_i x y ha
        have ea : args = #[x, y] := Array.toList_inj.1 ha
        subst ea
        injection hc with hc; injection hc with h1 h2; subst h1 h2
        exact op_minmax (mx := true) hs hd rfl hr h
      · rename_i x y ha
        have ea : args = #[x, y] := Array.toList_inj.1 ha
        subst ea
        injection hc with hc; injection hc with h1 h2; subst h1 h2
        exact op_minmax (mx := false) hs hd rfl hr h
      · cases hc
  all_goals (cases hc)

end
end Go.Ev
