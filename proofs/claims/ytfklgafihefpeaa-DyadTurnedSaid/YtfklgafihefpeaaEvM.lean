/- An abstract evaluator, part 22: a run that can be reckoned, for what is closed. -/
import Derived.Test.YtfklgafihefpeaaEvL
set_option linter.unusedVariables false
set_option linter.unusedSimpArgs false
namespace Go.Ev
open Go.RowKit

def allLenB (sz : Nat) (es : List (List AV)) : Bool := es.all fun e => e.length == sz
theorem allLenB_spec {sz : Nat} {es : List (List AV)} (h : allLenB sz es = true) : AllLen sz es := by
  intro e he
  simpa using List.all_eq_true.1 h e he

def loadC (h : Heap) (sz : Option Nat) (p : AV) : Option AV :=
  match p with
  | .ptr s g k => match h s with
    | (g', some (.box cs)) => if g = g' then takeAt sz cs k else none
    | _ => none
  | .eptr s g esz i k => match h s with
    | (g', some (.arr _ sz' es)) => if g = g' ∧ sz' = esz then es[i]?.bind fun e => takeAt sz e k else none
    | (g', some (.frz _ sz' es)) => if g = g' ∧ sz' = esz then es[i]?.bind fun e => takeAt sz e k else none
    | _ => none
  | .pcell cs => takeAt sz cs 0
  | _ => none

theorem loadC_sound {h : Heap} {sz : Option Nat} {p v : AV} (hc : loadC h sz p = some v) {K : Kont} (hk : K v []) : loadQ h sz p K := by
  unfold loadC at hc
  split at hc
  · split at hc
    · rename_i hH
      split at hc
      · rename_i hg
        simp only [loadQ, hH]
        exact ⟨hg, by rw [hc]; exact hk⟩
      · cases hc
    · cases hc
  · split at hc
    · rename_i hH
      split at hc
      · rename_i hg
        obtain ⟨x, h1, h2⟩ := Option.bind_eq_some_iff.1 hc
        simp only [loadQ, hH]
        refine ⟨hg.1, hg.2, ?_⟩
        rw [h1]
        simp only [someQ]
        rw [h2]
        exact hk
      · cases hc
    · rename_i hH
      split at hc
      · rename_i hg
        obtain ⟨x, h1, h2⟩ := Option.bind_eq_some_iff.1 hc
        simp only [loadQ, hH]
        refine ⟨hg.1, hg.2, ?_⟩
        rw [h1]
        simp only [someQ]
        rw [h2]
        exact hk
      · cases hc
    · cases hc
  · simp only [loadQ, hc, someQ]
    exact hk
  · cases hc

def storeC (h : Heap) (n : Nat) (p v : AV) : Option Upds :=
  if (cellsOf v).length = n then
    match p with
    | .ptr s g k => match h s with
      | (g', some (.box cs)) => if g = g' ∧ (cellsOf v).all cellish = true ∧ k + n ≤ cs.length then some [(s, g, some (.box (setCells cs k (cellsOf v))))] else none
      | _ => none
    | .eptr s g esz i k => match h s with
      | (g', some (.arr e sz' es)) => if g = g' ∧ sz' = esz ∧ ((cellsOf v).map denil).all Pers = true ∧ k + n ≤ esz then es[i]?.map fun x => [(s, g, some (.arr e sz' (es.set i (setCells x k ((cellsOf v).map denil)))))] else none
      | _ => none
    | _ => none
  else none

theorem storeC_sound {h : Heap} {n : Nat} {p v : AV} {us : Upds} (hc : storeC h n p v = some us) {K : Kont} (hk : K .junk us) : storeQ h n p v K := by
  unfold storeC at hc
  split at hc
  · rename_i hl
    refine ⟨hl, ?_⟩
    split at hc
    · split at hc
      · rename_i hH
        split at hc
        · rename_i hg
          injection hc with hc
          subst hc
          simp only [hH]
          exact ⟨hg.1, hg.2.1, hg.2.2, hk⟩
        · cases hc
      · cases hc
    · split at hc
      · rename_i hH
        split at hc
        · rename_i hg
          obtain ⟨x, h1, h2⟩ := Option.map_eq_some_iff.1 hc
          subst h2
          simp only [hH]
          refine ⟨hg.1, hg.2.1, hg.2.2.1, hg.2.2.2, ?_⟩
          rw [h1]
          exact hk
        · cases hc
      · cases hc
    · cases hc
  · cases hc

def readC (h : Heap) (v : AV) : Option (List (List AV)) :=
  match v with
  | .sl es => some es
  | .nil => some []
  | .view s g sz n => match h s with
    | (g', some (.arr _ sz' es)) => if g = g' ∧ sz' = sz ∧ es.length = n then some es else none
    | (g', some (.frz _ sz' es)) => if g = g' ∧ sz' = sz ∧ es.length = n then some es else none
    | _ => none
  | _ => none

theorem readC_sound {h : Heap} {v : AV} {es : List (List AV)} (hc : readC h v = some es) {K : List (List AV) → Prop} (hk : K es) : readQ h v K := by
  unfold readC at hc
  split at hc
  · injection hc with hc
    subst hc
    exact hk
  · injection hc with hc
    subst hc
    exact hk
  · split at hc
    · rename_i hH
      split at hc
      · rename_i hg
        injection hc with hc
        subst hc
        simp only [readQ, hH]
        exact ⟨hg.1, hg.2.1, hg.2.2, hk⟩
      · cases hc
    · rename_i hH
      split at hc
      · rename_i hg
        injection hc with hc
        subst hc
        simp only [readQ, hH]
        exact ⟨hg.1, hg.2.1, hg.2.2, hk⟩
      · cases hc
    · cases hc
  · cases hc

def freezeC (h : Heap) (v : AV) : Option (AV × Upds) :=
  match v with
  | .view s g sz n => match h s with
    | (g', some (.arr e sz' es)) => if g = g' ∧ sz' = sz ∧ es.length = n then some (.sl es, [(s, g, some (.frz e sz' es))]) else none
    | (g', some (.frz _ sz' es)) => if g = g' ∧ sz' = sz ∧ es.length = n then some (.sl es, []) else none
    | _ => none
  | .nil => some (.sl [], [])
  | .int k n => some (.int k n, [])
  | .bool b => some (.bool b, [])
  | .str s => some (.str s, [])
  | .sl es => some (.sl es, [])
  | .fn f => some (.fn f, [])
  | _ => none

theorem freezeC_sound {h : Heap} {v v' : AV} {us : Upds} (hc : freezeC h v = some (v', us)) {K : Kont} (hk : K v' us) : freezeQ h v K := by
  unfold freezeC at hc
  split at hc
  · split at hc
    · rename_i hH
      split at hc
      · rename_i hg
        simp only [Option.some.injEq, Prod.mk.injEq] at hc
        obtain ⟨rfl, rfl⟩ := hc
        simp only [freezeQ, hH]
        exact ⟨hg.1, hg.2.1, hg.2.2, hk⟩
      · cases hc
    · rename_i hH
      split at hc
      · rename_i hg
        simp only [Option.some.injEq, Prod.mk.injEq] at hc
        obtain ⟨rfl, rfl⟩ := hc
        simp only [freezeQ, hH]
        exact ⟨hg.1, hg.2.1, hg.2.2, hk⟩
      · cases hc
    · cases hc
  all_goals first | (cases hc; done) | (simp only [Option.some.injEq, Prod.mk.injEq] at hc; obtain ⟨rfl, rfl⟩ := hc; exact hk)

def freezeLC (h : Heap) : List AV → Option (List AV × Upds)
  | [] => some ([], [])
  | v :: vs => match freezeC h v with
    | some (v', u) => match freezeLC h vs with
      | some (vs', us) => some (v' :: vs', u ++ us)
      | none => none
    | none => none

theorem freezeLC_sound {h : Heap} : ∀ {vs vs' : List AV} {us : Upds} (_ : freezeLC h vs = some (vs', us)) {K : List AV → Upds → Prop} (_ : K vs' us), freezeLQ h vs K
  | [], vs', us, hc, K, hk => by
    simp only [freezeLC, Option.some.injEq, Prod.mk.injEq] at hc
    obtain ⟨rfl, rfl⟩ := hc
    exact hk
  | v :: vs, vs', us, hc, K, hk => by
    simp only [freezeLC] at hc
    split at hc
    · rename_i h1
      split at hc
      · rename_i h2
        simp only [Option.some.injEq, Prod.mk.injEq] at hc
        obtain ⟨rfl, rfl⟩ := hc
        simp only [freezeLQ]
        exact freezeC_sound h1 (freezeLC_sound h2 hk)
      · cases hc
    · cases hc

def freezeAC (h : Heap) (v : AV) : Option (AV × Upds) :=
  match v with
  | .agg cs => match freezeLC h cs with
    | some (cs', us) => some (.agg cs', us)
    | none => none
  | v => freezeC h v

theorem freezeAC_sound {h : Heap} {v v' : AV} {us : Upds} (hc : freezeAC h v = some (v', us)) {K : Kont} (hk : K v' us) : freezeAQ h v K := by
  unfold freezeAC at hc
  split at hc
  · split at hc
    · rename_i h1
      simp only [Option.some.injEq, Prod.mk.injEq] at hc
      obtain ⟨rfl, rfl⟩ := hc
      simp only [freezeAQ]
      exact freezeLC_sound h1 hk
    · cases hc
  · rename_i hne
    unfold freezeAQ
    split
    · exact absurd rfl (hne _)
    · exact freezeC_sound hc hk

def freezeALC (h : Heap) : List AV → Option (List AV × Upds)
  | [] => some ([], [])
  | v :: vs => match freezeAC h v with
    | some (v', u) => match freezeALC h vs with
      | some (vs', us) => some (v' :: vs', u ++ us)
      | none => none
    | none => none

theorem freezeALC_sound {h : Heap} : ∀ {vs vs' : List AV} {us : Upds} (_ : freezeALC h vs = some (vs', us)) {K : List AV → Upds → Prop} (_ : K vs' us), freezeALQ h vs K
  | [], vs', us, hc, K, hk => by
    simp only [freezeALC, Option.some.injEq, Prod.mk.injEq] at hc
    obtain ⟨rfl, rfl⟩ := hc
    exact hk
  | v :: vs, vs', us, hc, K, hk => by
    simp only [freezeALC] at hc
    split at hc
    · rename_i h1
      split at hc
      · rename_i h2
        simp only [Option.some.injEq, Prod.mk.injEq] at hc
        obtain ⟨rfl, rfl⟩ := hc
        simp only [freezeALQ]
        exact freezeAC_sound h1 (freezeALC_sound h2 hk)
      · cases hc
    · cases hc

def freezeNC (h : Heap) (v : AV) : Option (AV × Upds) :=
  match v with
  | .nil => some (.nil, [])
  | v => freezeAC h v

theorem freezeNC_sound {h : Heap} {v v' : AV} {us : Upds} (hc : freezeNC h v = some (v', us)) {K : Kont} (hk : K v' us) : freezeNQ h v K := by
  unfold freezeNC at hc
  unfold freezeNQ
  split at hc
  · simp only [Option.some.injEq, Prod.mk.injEq] at hc
    obtain ⟨rfl, rfl⟩ := hc
    exact hk
  · rename_i hne
    split
    · exact absurd rfl hne
    · exact freezeAC_sound hc hk

def freezeNLC (h : Heap) : List AV → Option (List AV × Upds)
  | [] => some ([], [])
  | v :: vs => match freezeNC h v with
    | some (v', u) => match freezeNLC h vs with
      | some (vs', us) => some (v' :: vs', u ++ us)
      | none => none
    | none => none

theorem freezeNLC_sound {h : Heap} : ∀ {vs vs' : List AV} {us : Upds} (_ : freezeNLC h vs = some (vs', us)) {K : List AV → Upds → Prop} (_ : K vs' us), freezeNLQ h vs K
  | [], vs', us, hc, K, hk => by
    simp only [freezeNLC, Option.some.injEq, Prod.mk.injEq] at hc
    obtain ⟨rfl, rfl⟩ := hc
    exact hk
  | v :: vs, vs', us, hc, K, hk => by
    simp only [freezeNLC] at hc
    split at hc
    · rename_i h1
      split at hc
      · rename_i h2
        simp only [Option.some.injEq, Prod.mk.injEq] at hc
        obtain ⟨rfl, rfl⟩ := hc
        simp only [freezeNLQ]
        exact freezeNC_sound h1 (freezeNLC_sound h2 hk)
      · cases hc
    · cases hc

def buildC (z : List AV) : List (Nat × Nat) → List AV → Option (List AV)
  | [], [] => some z
  | (off, size) :: ps, v :: vs => if (cellsOf v).length = size ∧ (cellsOf v).all cellish = true ∧ off + size ≤ z.length then buildC (setCells z off (cellsOf v)) ps vs else none
  | _, _ => none

theorem buildC_sound : ∀ {ps : List (Nat × Nat)} {z xs cs : List AV} (_ : buildC z ps xs = some cs) {K : List AV → Prop} (_ : K cs), buildGo z ps xs K
  | [], z, [], cs, hc, K, hk => by
    simp only [buildC, Option.some.injEq] at hc
    subst hc
    exact hk
  | [], z, _ :: _, cs, hc, K, hk => by simp [buildC] at hc
  | (_, _) :: _, z, [], cs, hc, K, hk => by simp [buildC] at hc
  | (off, size) :: ps, z, v :: vs, cs, hc, K, hk => by
    simp only [buildC] at hc
    split at hc
    · rename_i hg
      simp only [buildGo]
      exact ⟨hg.1, hg.2.1, hg.2.2, buildC_sound hc hk⟩
    · cases hc

def intC (op : BinOp) (k : IntKind) (a b : Int) : Option AV :=
  match op with
  | .add => some (.int k (k.wrap (a + b)))
  | .sub => some (.int k (k.wrap (a - b)))
  | .mul => some (.int k (k.wrap (a * b)))
  | .quo => if b ≠ 0 then some (.int k (k.wrap (a.tdiv b))) else none
  | .rem => if b ≠ 0 then some (.int k (a.tmod b)) else none
  | .and => some (.int k (k.wrap (BitVec.ofInt k.bits a &&& BitVec.ofInt k.bits b).toNat))
  | .or => some (.int k (k.wrap (BitVec.ofInt k.bits a ||| BitVec.ofInt k.bits b).toNat))
  | .xor => some (.int k (k.wrap (BitVec.ofInt k.bits a ^^^ BitVec.ofInt k.bits b).toNat))
  | .andNot => some (.int k (k.wrap (BitVec.ofInt k.bits a &&& ~~~BitVec.ofInt k.bits b).toNat))
  | .eql => some (.bool (decide (a = b)))
  | .neq => some (.bool (decide (a ≠ b)))
  | .lss => some (.bool (decide (a < b)))
  | .leq => some (.bool (decide (a ≤ b)))
  | .gtr => some (.bool (decide (b < a)))
  | .geq => some (.bool (decide (b ≤ a)))
  | _ => none

theorem intC_sound {op : BinOp} {k : IntKind} {a b : Int} {v : AV} (hc : intC op k a b = some v) {K : AV → Prop} (hk : K v) : intBin op k a b K := by
  cases op <;> simp only [intC] at hc <;> first | (cases hc; done) | (injection hc with hc; subst hc; exact hk) | (split at hc <;> first | (cases hc; done) | (injection hc with hc; subst hc; exact ⟨by assumption, hk⟩))

def binC (op : BinOp) (x y : AV) : Option AV :=
  match x, y with
  | .int k a, .int k' b => match op with
    | .shl => if 0 ≤ b then some (.int k (k.wrap (a * 2 ^ Nat.min b.toNat k.bits))) else none
    | .shr => if 0 ≤ b then some (.int k (a / 2 ^ Nat.min b.toNat k.bits)) else none
    | op => if k = k' then intC op k a b else none
  | .str a, .str b => match op with
    | .add => if a.size + b.size ≤ 9223372036854775807 then some (.str (a ++ b)) else none
    | .eql => some (.bool (a.toList == b.toList))
    | .neq => some (.bool !(a.toList == b.toList))
    | .lss => some (.bool (Op.bytesLess a.toList b.toList))
    | _ => none
  | _, _ => none

theorem binC_sound {op : BinOp} {x y v : AV} (hc : binC op x y = some v) {K : AV → Prop} (hk : K v) : binQ op x y K := by
  unfold binC at hc
  split at hc
  · unfold binQ
    split at hc
    · split at hc
      · injection hc with hc
        subst hc
        exact ⟨by assumption, hk⟩
      · cases hc
    · split at hc
      · injection hc with hc
        subst hc
        exact ⟨by assumption, hk⟩
      · cases hc
    · split at hc
      · rename_i h1 h2 hkk
        cases op <;> first | exact absurd rfl h1 | exact absurd rfl h2 | exact ⟨hkk, intC_sound hc hk⟩
      · cases hc
  · unfold binQ strBin
    split at hc
    · split at hc
      · injection hc with hc
        subst hc
        exact ⟨by assumption, hk⟩
      · cases hc
    · injection hc with hc
      subst hc
      exact hk
    · injection hc with hc
      subst hc
      exact hk
    · injection hc with hc
      subst hc
      exact hk
    · cases hc
  · cases hc

def unC (op : UnOp) (x : AV) : Option AV :=
  match op, x with
  | .neg, .int k n => some (.int k (k.wrap (0 - n)))
  | .not, .bool b => some (.bool !b)
  | .xor, .int k n => some (.int k (k.wrap (BitVec.ofInt k.bits (if k.signed then -1 else k.max) ^^^ BitVec.ofInt k.bits n).toNat))
  | _, _ => none

theorem unC_sound {op : UnOp} {x v : AV} (hc : unC op x = some v) {K : AV → Prop} (hk : K v) : unQ op x K := by
  unfold unC at hc
  unfold unQ
  split at hc <;> first | (cases hc; done) | (injection hc with hc; subst hc; exact hk)

def recvC (h : Heap) (d : Nat) (r : AV) (us : Upds) : AV × Upds :=
  match r with
  | .own e sz es => (.view d ((h d).1 + 1) sz es.length, us ++ [(d, (h d).1 + 1, some (.arr e sz es))])
  | r => (r, us)

theorem recvC_sound {h : Heap} {d : Nat} {r : AV} {us : Upds} {K : Kont} (hk : K (recvC h d r us).1 (recvC h d r us).2) : recvQ h d r us K := by
  cases r <;> exact hk

def appC (h : Heap) (d e sz bytes : Nat) (x y : AV) : Option (AV × Upds) :=
  (readC h y).bind fun es2 => if allLenB sz es2 then
    match x with
    | .nil => if es2.length * bytes ≤ 140737488355328 ∧ es2.length ≤ 1099511627776 then some (.view d ((h d).1 + 1) sz es2.length, [(d, (h d).1 + 1, some (.arr e sz es2))]) else none
    | .view s g sz0 n => match h s with
      | (g', some (.arr e' sz' es)) => if g = g' ∧ sz0 = sz ∧ sz' = sz ∧ e' = e ∧ es.length = n ∧ (n + es2.length) * bytes ≤ 140737488355328 ∧ n + es2.length ≤ 1099511627776 then
          some (.view s (g + 1) sz (n + es2.length), [(s, g + 1, some (.arr e sz (es ++ es2)))]) else none
      | _ => none
    | _ => none
  else none

theorem appC_sound {h : Heap} {d e sz bytes : Nat} {x y v : AV} {us : Upds} (hc : appC h d e sz bytes x y = some (v, us)) {K : Kont} (hk : K v us) : appQ h d e sz bytes x y K := by
  unfold appC at hc
  obtain ⟨es2, h1, hc⟩ := Option.bind_eq_some_iff.1 hc
  unfold appQ
  refine readC_sound h1 ?_
  split at hc
  · rename_i ha
    refine ⟨allLenB_spec ha, ?_⟩
    split at hc
    · split at hc
      · rename_i hg
        simp only [Option.some.injEq, Prod.mk.injEq] at hc
        obtain ⟨rfl, rfl⟩ := hc
        exact ⟨hg.1, hg.2, hk⟩
      · cases hc
    · split at hc
      · rename_i hH
        split at hc
        · rename_i hg
          simp only [Option.some.injEq, Prod.mk.injEq] at hc
          obtain ⟨rfl, rfl⟩ := hc
          simp only [hH]
          exact ⟨hg.1, hg.2.1, hg.2.2.1, hg.2.2.2.1, hg.2.2.2.2.1, hg.2.2.2.2.2.1, hg.2.2.2.2.2.2, hk⟩
        · cases hc
      · cases hc
    · cases hc
  · cases hc

def copyC (h : Heap) (sz : Nat) (x y : AV) : Option (AV × Upds) :=
  (readC h y).bind fun es2 => if allLenB sz es2 then
    match x with
    | .view s g sz0 n => match h s with
      | (g', some (.arr e sz' es)) => if g = g' ∧ sz0 = sz ∧ sz' = sz ∧ es.length = n then
          some (.int .i64 (Nat.min es2.length n : Nat), [(s, g, some (.arr e sz (es2.take n ++ es.drop es2.length)))]) else none
      | _ => none
    | _ => none
  else none

theorem copyC_sound {h : Heap} {sz : Nat} {x y v : AV} {us : Upds} (hc : copyC h sz x y = some (v, us)) {K : Kont} (hk : K v us) : copyQ h sz x y K := by
  unfold copyC at hc
  obtain ⟨es2, h1, hc⟩ := Option.bind_eq_some_iff.1 hc
  unfold copyQ
  refine readC_sound h1 ?_
  split at hc
  · rename_i ha
    refine ⟨allLenB_spec ha, ?_⟩
    split at hc
    · split at hc
      · rename_i hH
        split at hc
        · rename_i hg
          simp only [Option.some.injEq, Prod.mk.injEq] at hc
          obtain ⟨rfl, rfl⟩ := hc
          simp only [hH]
          exact ⟨hg.1, hg.2.1, hg.2.2.1, hg.2.2.2, hk⟩
        · cases hc
      · cases hc
    · cases hc
  · cases hc

def sliceC (n : Nat) (lo hi : Bool) (xs : List AV) : Option (Nat × Nat) :=
  let l := loOf lo xs
  let h := if hi then l.2.headD .junk else .int .i64 n
  match l.1, h with
  | .int _ l, .int _ h => if 0 ≤ l ∧ l ≤ h ∧ h ≤ n then some (l.toNat, h.toNat) else none
  | _, _ => none

theorem sliceC_sound {n : Nat} {lo hi : Bool} {xs : List AV} {l h : Nat} (hc : sliceC n lo hi xs = some (l, h)) {K : Nat → Nat → Prop} (hk : K l h) : sliceQ n lo hi xs K := by
  unfold sliceC at hc
  simp only at hc
  split at hc
  · rename_i h1 h2
    split at hc
    · rename_i hg
      simp only [Option.some.injEq, Prod.mk.injEq] at hc
      obtain ⟨rfl, rfl⟩ := hc
      simp only [sliceQ, h1, h2]
      exact ⟨hg.1, hg.2.1, hg.2.2, hk⟩
    · cases hc
  · cases hc

def oneC {α : Type} (x : Option α) : Option (α × Upds) := match x with | some v => some (v, []) | none => none

theorem oneC_spec {α : Type} {x : Option α} {v : α} {us : Upds} (h : oneC x = some (v, us)) : x = some v ∧ us = [] := by
  unfold oneC at h
  split at h
  · simp only [Option.some.injEq, Prod.mk.injEq] at h
    obtain ⟨rfl, rfl⟩ := h
    exact ⟨rfl, rfl⟩
  · cases h

def stepC (G : Nat → List AV → Option AV) (hd : Head) (avs : List AV) (h : Heap) (d : Nat) : Option (AV × Upds) :=
  match hd, avs with
  | .move, [x] => some (x, [])
  | .pick, [.bool b, x, y] => some (pickV b x y, [])
  | .alloc z, [] => some (.ptr d ((h d).1 + 1) 0, [(d, (h d).1 + 1, some (.box z))])
  | .box, [x] => if (cellsOf x).all cellish = true then some (.ptr d ((h d).1 + 1) 0, [(d, (h d).1 + 1, some (.box (cellsOf x)))]) else none
  | .build z ps, xs => match freezeNLC h xs with
    | some (xs', us) => match buildC z ps xs' with
      | some cs => some (.agg cs, us)
      | none => none
    | none => none
  | .buildSl e sz, xs => match freezeALC h xs with
    | some (xs', us) => if (xs'.all fun x => (cellsOf x).length == sz && (cellsOf x).all cellish) = true then
        some (.view d ((h d).1 + 1) sz xs'.length, us ++ [(d, (h d).1 + 1, some (.arr e sz (xs'.map cellsOf)))]) else none
    | none => none
  | .load sz, [p] => oneC (loadC h sz p)
  | .store n, [p, v] => match storeC h n p v with | some us => some (.junk, us) | none => none
  | .bin op, [x, y] => oneC (binC op x y)
  | .binB neg, [.bool a, .bool b] => some (.bool (if neg then !(a == b) else a == b), [])
  | .eqAgg neg ks, [.agg x, .agg y] => match eqCells ks x y with | some b => some (.bool (if neg then !b else b), []) | none => none
  | .un op, [x] => oneC (unC op x)
  | .toInt k, [.int _ n] => some (.int k (k.wrap n), [])
  | .b2s, [x] => match readC h x with
    | some es => match bytesOfEs es with | some l => some (.str ⟨l.toArray⟩, []) | none => none
    | none => none
  | .s2b, [.str s] => some (.sl (esOfBytes s), [])
  | .mkSl e sz bytes z, [.int _ n, .int _ c] => if 0 ≤ n ∧ n ≤ c ∧ (bytes : Int) * c ≤ 140737488355328 ∧ c ≤ 1099511627776 then
      some (.view d ((h d).1 + 1) sz n.toNat, [(d, (h d).1 + 1, some (.arr e sz (List.replicate n.toNat z)))]) else none
  | .sliceS lo hi, .str s :: xs => match sliceC s.size lo hi xs with | some (l, h) => some (.str (s.extract l h), []) | none => none
  | .sliceL sz lo hi, x :: xs => match freezeC h x with
    | some (.sl es, us) => if allLenB sz es then match sliceC es.length lo hi xs with | some (l, h) => some (.sl ((es.take h).drop l), us) | none => none else none
    | _ => none
  | .faddr off, [.ptr s g k] => some (.ptr s g (k + off), [])
  | .faddr off, [.eptr s g sz i k] => some (.eptr s g sz i (k + off), [])
  | .faddr off, [.pcell cs] => some (.pcell (cs.drop off), [])
  | .field off sz, [.agg cs] => oneC (takeAt sz cs off)
  | .iaddr sz, [.sl es, .int _ i] => if 0 ≤ i ∧ allLenB sz es = true then match es[i.toNat]? with | some e => some (.pcell e, []) | none => none else none
  | .iaddr sz, [.view s g sz' n, .int _ i] => if 0 ≤ i ∧ sz' = sz ∧ i < n then some (.eptr s g sz i.toNat 0, []) else none
  | .index, [.str s, .int _ i] => if 0 ≤ i then match s.data[i.toNat]? with | some b => some (.int .u8 b.toNat, []) | none => none else none
  | .extract i, [.tup vs] => oneC vs[i]?
  | .call f, xs => match freezeALC h xs with
    | some (xs', us) => match G f xs' with | some r => some (recvC h d r us) | none => none
    | none => none
  | .callv, .fn f :: xs => match freezeALC h xs with
    | some (xs', us) => match G f xs' with | some r => some (recvC h d r us) | none => none
    | none => none
  | .lenS, [.str s] => some (.int .i64 s.size, [])
  | .lenL, [.sl es] => some (.int .i64 es.length, [])
  | .lenL, [.nil] => some (.int .i64 0, [])
  | .lenL, [.view _ _ _ n] => some (.int .i64 n, [])
  | .app e sz bytes, [x, y] => appC h d e sz bytes x y
  | .copy sz, [x, y] => copyC h sz x y
  | .max, [.int k a, .int k' b] => if k = k' then some (.int k (if b > a then b else a), []) else none
  | .min, [.int k a, .int k' b] => if k = k' then some (.int k (if b < a then b else a), []) else none
  | .mkfn f, [] => some (.fn f, [])
  | _, _ => none

theorem stepC_sound {F : Nat → List AV → AV → Prop} {G : Nat → List AV → Option AV} (hG : ∀ f xs r, G f xs = some r → F f xs r) {hd : Head} {avs : List AV} {h : Heap} {d : Nat} {v : AV} {us : Upds} (hc : stepC G hd avs h d = some (v, us))
    {K : Kont} (hk : K v us) : stepH F hd avs h d K := by
  unfold stepC at hc
  split at hc
  case h_5 =>
    split at hc
    · rename_i h1
      split at hc
      · rename_i h2
        simp only [Option.some.injEq, Prod.mk.injEq] at hc
        obtain ⟨rfl, rfl⟩ := hc
        exact freezeNLC_sound h1 (buildC_sound h2 hk)
      · cases hc
    · cases hc
  case h_6 =>
    split at hc
    · rename_i h1
      split at hc
      · rename_i h2
        simp only [Option.some.injEq, Prod.mk.injEq] at hc
        obtain ⟨rfl, rfl⟩ := hc
        exact freezeALC_sound h1 ⟨h2, hk⟩
      · cases hc
    · cases hc
  case h_7 =>
    obtain ⟨h1, rfl⟩ := oneC_spec hc
    exact loadC_sound h1 hk
  case h_8 =>
    split at hc
    · rename_i h1
      simp only [Option.some.injEq, Prod.mk.injEq] at hc
      obtain ⟨rfl, rfl⟩ := hc
      exact storeC_sound h1 hk
    · cases hc
  case h_9 =>
    obtain ⟨h1, rfl⟩ := oneC_spec hc
    exact binC_sound (K := (K · [])) h1 hk
  case h_11 =>
    split at hc
    · rename_i h1
      simp only [Option.some.injEq, Prod.mk.injEq] at hc
      obtain ⟨rfl, rfl⟩ := hc
      simp only [stepH, h1, someQ]
      exact hk
    · cases hc
  case h_12 =>
    obtain ⟨h1, rfl⟩ := oneC_spec hc
    exact unC_sound (K := (K · [])) h1 hk
  case h_14 =>
    split at hc
    · rename_i h1
      split at hc
      · rename_i h2
        simp only [Option.some.injEq, Prod.mk.injEq] at hc
        obtain ⟨rfl, rfl⟩ := hc
        exact readC_sound h1 (by simp only [h2, someQ]; exact hk)
      · cases hc
    · cases hc
  case h_16 =>
    split at hc
    · rename_i h1
      simp only [Option.some.injEq, Prod.mk.injEq] at hc
      obtain ⟨rfl, rfl⟩ := hc
      exact ⟨h1.1, h1.2.1, h1.2.2.1, h1.2.2.2, hk⟩
    · cases hc
  case h_17 =>
    split at hc
    · rename_i h1
      simp only [Option.some.injEq, Prod.mk.injEq] at hc
      obtain ⟨rfl, rfl⟩ := hc
      simp only [stepH]
      refine sliceC_sound h1 ?_
      exact hk
    · cases hc
  case h_18 =>
    split at hc
    · rename_i h1
      split at hc
      · rename_i h2
        split at hc
        · rename_i h3
          simp only [Option.some.injEq, Prod.mk.injEq] at hc
          obtain ⟨rfl, rfl⟩ := hc
          simp only [stepH]
          refine .inl (freezeC_sound h1 ?_)
          refine And.intro (allLenB_spec h2) ?_
          refine sliceC_sound h3 ?_
          exact hk
        · cases hc
      · cases hc
    · cases hc
  case h_22 =>
    obtain ⟨h1, rfl⟩ := oneC_spec hc
    simp only [stepH, h1, someQ]
    exact hk
  case h_23 =>
    split at hc
    · rename_i h1
      split at hc
      · rename_i h2
        simp only [Option.some.injEq, Prod.mk.injEq] at hc
        obtain ⟨rfl, rfl⟩ := hc
        simp only [stepH, h2, someQ]
        exact ⟨h1.1, allLenB_spec h1.2, hk⟩
      · cases hc
    · cases hc
  case h_24 =>
    split at hc
    · rename_i h1
      simp only [Option.some.injEq, Prod.mk.injEq] at hc
      obtain ⟨rfl, rfl⟩ := hc
      exact ⟨h1.1, h1.2.1, h1.2.2, hk⟩
    · cases hc
  case h_25 =>
    split at hc
    · rename_i h1
      split at hc
      · rename_i h2
        simp only [Option.some.injEq, Prod.mk.injEq] at hc
        obtain ⟨rfl, rfl⟩ := hc
        simp only [stepH, h2, someQ]
        exact ⟨h1, hk⟩
      · cases hc
    · cases hc
  case h_26 =>
    obtain ⟨h1, rfl⟩ := oneC_spec hc
    simp only [stepH, h1, someQ]
    exact hk
  case h_27 =>
    split at hc
    · rename_i h1
      split at hc
      · rename_i h2
        simp only [Option.some.injEq] at hc
        refine .inl (freezeALC_sound h1 ⟨_, hG _ _ _ h2, recvC_sound ?_⟩)
        rw [hc]
        exact hk
      · cases hc
    · cases hc
  case h_28 =>
    split at hc
    · rename_i h1
      split at hc
      · rename_i h2
        simp only [Option.some.injEq] at hc
        refine freezeALC_sound h1 ⟨_, hG _ _ _ h2, recvC_sound ?_⟩
        rw [hc]
        exact hk
      · cases hc
    · cases hc
  case h_33 => exact appC_sound hc hk
  case h_34 => exact copyC_sound hc hk
  all_goals first
    | (cases hc; done)
    | (simp only [Option.some.injEq, Prod.mk.injEq] at hc; obtain ⟨rfl, rfl⟩ := hc; exact hk)
    | (split at hc <;> first | (cases hc; done) | (simp only [Option.some.injEq, Prod.mk.injEq] at hc; obtain ⟨rfl, rfl⟩ := hc; exact ⟨by assumption, hk⟩))

end Go.Ev
