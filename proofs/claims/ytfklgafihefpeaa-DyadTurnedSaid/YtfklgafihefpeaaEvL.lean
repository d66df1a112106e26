/- An abstract evaluator, part 21: one step, head by head. Each says what state comes behind. -/
import Derived.Test.YtfklgafihefpeaaEvK
set_option linter.unusedVariables false
set_option linter.unusedSimpArgs false
namespace Go.Ev
open Go.RowKit

/-- What an operand is. -/
abbrev V (e : Nat → AV) (H : Heap) (x : Opd) (v : AV) : Prop := St.ev ⟨e, H⟩ x = v

def isOwn : AV → Bool
  | .own .. => true
  | _ => false

theorem freezeQ_mono {h : Heap} {v : AV} {K K' : Kont} (hh : freezeQ h v K) (hk : ∀ a b, K a b → K' a b) : freezeQ h v K' := by
  obtain ⟨a, b, h1, h2⟩ := freezeQ_picks hh
  exact h2.2 h (fun _ _ => rfl) _ (hk _ _ h1)

theorem freezeALQ_mono {h : Heap} {v : List AV} {K K' : List AV → Upds → Prop} (hh : freezeALQ h v K) (hk : ∀ a b, K a b → K' a b) : freezeALQ h v K' := by
  obtain ⟨a, b, h1, h2⟩ := freezeALQ_picks hh
  exact h2.2 h (fun _ _ => rfl) _ (hk _ _ h1)

theorem buildGo_mono {ps : List (Nat × Nat)} {z xs : List AV} {K K' : List AV → Prop} (hh : buildGo z ps xs K) (hk : ∀ a, K a → K' a) : buildGo z ps xs K' := by
  obtain ⟨a, h1, h2⟩ := buildGo_picks hh
  exact h2 _ (hk _ h1)

theorem readQ_mono {h : Heap} {v : AV} {K K' : List (List AV) → Prop} (hh : readQ h v K) (hk : ∀ a, K a → K' a) : readQ h v K' := by
  unfold readQ at hh ⊢
  split at hh
  · exact hk _ hh
  · exact hk _ hh
  · exact hk _ hh
  · split at hh
    · obtain ⟨h1, h2, h3, h4⟩ := hh
      exact ⟨h1, h2, h3, hk _ h4⟩
    · obtain ⟨h1, h2, h3, h4⟩ := hh
      exact ⟨h1, h2, h3, hk _ h4⟩
    · exact hh.elim
  · exact hh.elim

theorem freezeNLQ_mono {h : Heap} {v : List AV} {K K' : List AV → Upds → Prop} (hh : freezeNLQ h v K) (hk : ∀ a b, K a b → K' a b) : freezeNLQ h v K' := by
  obtain ⟨a, b, h1, h2⟩ := freezeNLQ_picks hh
  exact h2.2 h (fun _ _ => rfl) _ (hk _ _ h1)

theorem sliceQ_mono {n : Nat} {lo hi : Bool} {xs : List AV} {K K' : Nat → Nat → Prop} (hh : sliceQ n lo hi xs K) (hk : ∀ a b, K a b → K' a b) : sliceQ n lo hi xs K' := by
  unfold sliceQ at hh ⊢
  simp only at hh ⊢
  split at hh
  · obtain ⟨h1, h2, h3, h4⟩ := hh
    exact ⟨h1, h2, h3, hk _ _ h4⟩
  · exact hh.elim

theorem recvQ_of {h : Heap} {d : Nat} {r : AV} {us : Upds} {K : Kont} (hr : isOwn r = false) (hk : K r us) : recvQ h d r us K := by
  unfold recvQ
  split
  · simp [isOwn] at hr
  · exact hk

namespace S
variable {F : Nat → List AV → AV → Prop} {e : Nat → AV} {H : Heap} {K : St → Prop} {d : Nat} {x y z : Opd}

theorem on {dst : Option Nat} {hd : Head} {xs : List Opd} {st : St} {t : Nat} {b : Bool} (h : st.env t = .bool b) (hk : StepR F ⟨dst, hd, xs, none⟩ st K) : StepR F ⟨dst, hd, xs, some (t, b)⟩ st K := by
  refine ⟨?_⟩
  simp only [stepG, h, if_true]
  exact hk.out

theorem off {hd : Head} {xs : List Opd} {t : Nat} {b c : Bool} (h : e t = .bool c) (hc : c ≠ b) (hk : K ⟨upd e d .undef, H⟩) : StepR F ⟨some d, hd, xs, some (t, b)⟩ ⟨e, H⟩ K := by
  refine ⟨?_⟩
  simp only [stepG, h, if_neg hc, St.app, updH]
  exact hk

theorem offN {hd : Head} {xs : List Opd} {t : Nat} {b : Bool} (h : e t = .undef) (hk : K ⟨upd e d .undef, H⟩) : StepR F ⟨some d, hd, xs, some (t, b)⟩ ⟨e, H⟩ K := by
  refine ⟨?_⟩
  simp only [stepG, h, St.app, updH]
  exact hk

theorem offUN {hd : Head} {xs : List Opd} {t : Nat} {b : Bool} (h : e t = .undef) (hk : K ⟨e, H⟩) : StepR F ⟨none, hd, xs, some (t, b)⟩ ⟨e, H⟩ K := by
  refine ⟨?_⟩
  simp only [stepG, h, St.app, updH]
  exact hk

theorem offU {hd : Head} {xs : List Opd} {t : Nat} {b c : Bool} (h : e t = .bool c) (hc : c ≠ b) (hk : K ⟨e, H⟩) : StepR F ⟨none, hd, xs, some (t, b)⟩ ⟨e, H⟩ K := by
  refine ⟨?_⟩
  simp only [stepG, h, if_neg hc, St.app, updH]
  exact hk

theorem move {v : AV} (hx : V e H x v) (hk : K ⟨upd e d v, H⟩) : StepR F ⟨some d, .move, [x], none⟩ ⟨e, H⟩ K := by
  refine ⟨?_⟩
  subst hx
  exact hk

theorem pick {b : Bool} {v w r : AV} (hx : V e H x (.bool b)) (hy : V e H y v) (hz : V e H z w) (hr : pickV b v w = r) (hk : K ⟨upd e d r, H⟩) : StepR F ⟨some d, .pick, [x, y, z], none⟩ ⟨e, H⟩ K := by
  refine ⟨?_⟩
  subst hr hy hz
  simp only [stepG, List.map, stepH]
  rw [hx]
  exact hk

theorem alloc {c : List AV} {g : Nat} (hg : (H d).1 + 1 = g) (hk : K ⟨upd e d (.ptr d g 0), upd H d (g, some (.box c))⟩) : StepR F ⟨some d, .alloc c, [], none⟩ ⟨e, H⟩ K := by
  refine ⟨?_⟩
  subst hg
  exact hk

theorem box {v : AV} {c : List AV} {g : Nat} (hx : V e H x v) (hc : cellsOf v = c) (ha : c.all cellish = true) (hg : (H d).1 + 1 = g) (hk : K ⟨upd e d (.ptr d g 0), upd H d (g, some (.box c))⟩) : StepR F ⟨some d, .box, [x], none⟩ ⟨e, H⟩ K := by
  refine ⟨?_⟩
  subst hg hc
  simp only [stepG, List.map, stepH]
  rw [hx]
  exact ⟨ha, hk⟩

theorem build {c : List AV} {ps : List (Nat × Nat)} {xs : List Opd} {ys cs : List AV} {us : Upds} (hf : freezeNLQ H (xs.map (St.ev ⟨e, H⟩)) fun a b => a = ys ∧ b = us) (hb : buildGo c ps ys fun a => a = cs) (hk : K ⟨upd e d (.agg cs), updH H us⟩) :
    StepR F ⟨some d, .build c ps, xs, none⟩ ⟨e, H⟩ K := by
  refine ⟨?_⟩
  exact
  freezeNLQ_mono hf fun a b ⟨h1, h2⟩ => by
    subst h1 h2
    exact buildGo_mono hb fun a h => by
      subst h
      exact hk

theorem buildSl {t sz : Nat} {xs : List Opd} {ys : List AV} {us : Upds} {g n : Nat} {es : List (List AV)} (hf : freezeALQ H (xs.map (St.ev ⟨e, H⟩)) fun a b => a = ys ∧ b = us)
    (ha : (ys.all fun x => (cellsOf x).length == sz && (cellsOf x).all cellish) = true) (hg : (H d).1 + 1 = g) (hn : ys.length = n) (he : ys.map cellsOf = es) (hk : K ⟨upd e d (.view d g sz n), updH H (us ++ [(d, g, some (.arr t sz es))])⟩) :
    StepR F ⟨some d, .buildSl t sz, xs, none⟩ ⟨e, H⟩ K := by
  refine ⟨?_⟩
  exact
  freezeALQ_mono hf fun a b ⟨h1, h2⟩ => by
    subst h1 h2 hg hn he
    exact ⟨ha, hk⟩

theorem loadP {q : Option Nat} {s g k : Nat} {cs : List AV} {v : AV} (hx : V e H x (.ptr s g k)) (hH : H s = (g, some (.box cs))) (ht : takeAt q cs k = some v) (hk : K ⟨upd e d v, H⟩) : StepR F ⟨some d, .load q, [x], none⟩ ⟨e, H⟩ K := by
  refine ⟨?_⟩
  simp only [stepG, List.map, stepH, loadQ]
  rw [hx]
  simp only [hH, ht, someQ]
  exact ⟨trivial, hk⟩

theorem loadE {q : Option Nat} {s g sz i k t : Nat} {es : List (List AV)} {c : List AV} {v : AV} (hx : V e H x (.eptr s g sz i k)) (hH : H s = (g, some (.arr t sz es))) (he : es[i]? = some c) (ht : takeAt q c k = some v) (hk : K ⟨upd e d v, H⟩) :
    StepR F ⟨some d, .load q, [x], none⟩ ⟨e, H⟩ K := by
  refine ⟨?_⟩
  simp only [stepG, List.map, stepH, loadQ]
  rw [hx]
  simp only [hH, he, ht, someQ]
  exact ⟨trivial, trivial, hk⟩

theorem loadF {q : Option Nat} {s g sz i k t : Nat} {es : List (List AV)} {c : List AV} {v : AV} (hx : V e H x (.eptr s g sz i k)) (hH : H s = (g, some (.frz t sz es))) (he : es[i]? = some c) (ht : takeAt q c k = some v) (hk : K ⟨upd e d v, H⟩) :
    StepR F ⟨some d, .load q, [x], none⟩ ⟨e, H⟩ K := by
  refine ⟨?_⟩
  simp only [stepG, List.map, stepH, loadQ]
  rw [hx]
  simp only [hH, he, ht, someQ]
  exact ⟨trivial, trivial, hk⟩

theorem loadC {q : Option Nat} {c : List AV} {v : AV} (hx : V e H x (.pcell c)) (ht : takeAt q c 0 = some v) (hk : K ⟨upd e d v, H⟩) : StepR F ⟨some d, .load q, [x], none⟩ ⟨e, H⟩ K := by
  refine ⟨?_⟩
  simp only [stepG, List.map, stepH, loadQ]
  rw [hx]
  simp only [ht, someQ]
  exact hk

theorem storeP {n s g k : Nat} {cs cs' c : List AV} {v : AV} (hx : V e H x (.ptr s g k)) (hy : V e H y v) (hH : H s = (g, some (.box cs))) (hc : cellsOf v = c) (hl : c.length = n) (ha : c.all cellish = true) (hle : k + n ≤ cs.length)
    (hr : setCells cs k c = cs') (hk : K ⟨e, upd H s (g, some (.box cs'))⟩) : StepR F ⟨none, .store n, [x, y], none⟩ ⟨e, H⟩ K := by
  refine ⟨?_⟩
  subst hc hr
  simp only [stepG, List.map, stepH, storeQ]
  rw [hx, hy]
  simp only [hH]
  exact ⟨hl, trivial, ha, hle, hk⟩

theorem storeE {n s g sz i k t : Nat} {es es' : List (List AV)} {c u : List AV} {v : AV} (hx : V e H x (.eptr s g sz i k)) (hy : V e H y v) (hH : H s = (g, some (.arr t sz es))) (hc : (cellsOf v).map denil = c) (hl : c.length = n) (ha : c.all Pers = true)
    (hle : k + n ≤ sz) (he : es[i]? = some u) (hr : es.set i (setCells u k c) = es') (hk : K ⟨e, upd H s (g, some (.arr t sz es'))⟩) : StepR F ⟨none, .store n, [x, y], none⟩ ⟨e, H⟩ K := by
  refine ⟨?_⟩
  subst hc hr
  simp only [stepG, List.map, stepH, storeQ]
  rw [hx, hy]
  simp only [hH, he, someQ]
  exact ⟨by rw [List.length_map] at hl; exact hl, trivial, trivial, ha, hle, hk⟩

section int
variable {k k' : IntKind} {a b r : Int} {p : Bool} (hx : V e H x (.int k a)) (hy : V e H y (.int k b))
include hx hy

theorem add (hr : k.wrap (a + b) = r) (hk : K ⟨upd e d (.int k r), H⟩) : StepR F ⟨some d, .bin .add, [x, y], none⟩ ⟨e, H⟩ K := by
  refine ⟨?_⟩
  subst hr; simp only [stepG, List.map, stepH]; rw [hx, hy]; exact ⟨rfl, hk⟩
theorem sub (hr : k.wrap (a - b) = r) (hk : K ⟨upd e d (.int k r), H⟩) : StepR F ⟨some d, .bin .sub, [x, y], none⟩ ⟨e, H⟩ K := by
  refine ⟨?_⟩
  subst hr; simp only [stepG, List.map, stepH]; rw [hx, hy]; exact ⟨rfl, hk⟩
theorem mul (hr : k.wrap (a * b) = r) (hk : K ⟨upd e d (.int k r), H⟩) : StepR F ⟨some d, .bin .mul, [x, y], none⟩ ⟨e, H⟩ K := by
  refine ⟨?_⟩
  subst hr; simp only [stepG, List.map, stepH]; rw [hx, hy]; exact ⟨rfl, hk⟩
theorem quo (h0 : b ≠ 0) (hr : k.wrap (a.tdiv b) = r) (hk : K ⟨upd e d (.int k r), H⟩) : StepR F ⟨some d, .bin .quo, [x, y], none⟩ ⟨e, H⟩ K := by
  refine ⟨?_⟩
  subst hr; simp only [stepG, List.map, stepH]; rw [hx, hy]; exact ⟨rfl, h0, hk⟩
theorem rem (h0 : b ≠ 0) (hr : a.tmod b = r) (hk : K ⟨upd e d (.int k r), H⟩) : StepR F ⟨some d, .bin .rem, [x, y], none⟩ ⟨e, H⟩ K := by
  refine ⟨?_⟩
  subst hr; simp only [stepG, List.map, stepH]; rw [hx, hy]; exact ⟨rfl, h0, hk⟩
theorem and (hr : k.wrap (BitVec.ofInt k.bits a &&& BitVec.ofInt k.bits b).toNat = r) (hk : K ⟨upd e d (.int k r), H⟩) : StepR F ⟨some d, .bin .and, [x, y], none⟩ ⟨e, H⟩ K := by
  refine ⟨?_⟩
  subst hr; simp only [stepG, List.map, stepH]; rw [hx, hy]; exact ⟨rfl, hk⟩
theorem or (hr : k.wrap (BitVec.ofInt k.bits a ||| BitVec.ofInt k.bits b).toNat = r) (hk : K ⟨upd e d (.int k r), H⟩) : StepR F ⟨some d, .bin .or, [x, y], none⟩ ⟨e, H⟩ K := by
  refine ⟨?_⟩
  subst hr; simp only [stepG, List.map, stepH]; rw [hx, hy]; exact ⟨rfl, hk⟩
theorem xor (hr : k.wrap (BitVec.ofInt k.bits a ^^^ BitVec.ofInt k.bits b).toNat = r) (hk : K ⟨upd e d (.int k r), H⟩) : StepR F ⟨some d, .bin .xor, [x, y], none⟩ ⟨e, H⟩ K := by
  refine ⟨?_⟩
  subst hr; simp only [stepG, List.map, stepH]; rw [hx, hy]; exact ⟨rfl, hk⟩
theorem eql (hr : decide (a = b) = p) (hk : K ⟨upd e d (.bool p), H⟩) : StepR F ⟨some d, .bin .eql, [x, y], none⟩ ⟨e, H⟩ K := by
  refine ⟨?_⟩
  subst hr; simp only [stepG, List.map, stepH]; rw [hx, hy]; exact ⟨rfl, hk⟩
theorem neq (hr : decide (a ≠ b) = p) (hk : K ⟨upd e d (.bool p), H⟩) : StepR F ⟨some d, .bin .neq, [x, y], none⟩ ⟨e, H⟩ K := by
  refine ⟨?_⟩
  subst hr; simp only [stepG, List.map, stepH]; rw [hx, hy]; exact ⟨rfl, hk⟩
theorem lss (hr : decide (a < b) = p) (hk : K ⟨upd e d (.bool p), H⟩) : StepR F ⟨some d, .bin .lss, [x, y], none⟩ ⟨e, H⟩ K := by
  refine ⟨?_⟩
  subst hr; simp only [stepG, List.map, stepH]; rw [hx, hy]; exact ⟨rfl, hk⟩
theorem leq (hr : decide (a ≤ b) = p) (hk : K ⟨upd e d (.bool p), H⟩) : StepR F ⟨some d, .bin .leq, [x, y], none⟩ ⟨e, H⟩ K := by
  refine ⟨?_⟩
  subst hr; simp only [stepG, List.map, stepH]; rw [hx, hy]; exact ⟨rfl, hk⟩
theorem gtr (hr : decide (b < a) = p) (hk : K ⟨upd e d (.bool p), H⟩) : StepR F ⟨some d, .bin .gtr, [x, y], none⟩ ⟨e, H⟩ K := by
  refine ⟨?_⟩
  subst hr; simp only [stepG, List.map, stepH]; rw [hx, hy]; exact ⟨rfl, hk⟩
theorem geq (hr : decide (b ≤ a) = p) (hk : K ⟨upd e d (.bool p), H⟩) : StepR F ⟨some d, .bin .geq, [x, y], none⟩ ⟨e, H⟩ K := by
  refine ⟨?_⟩
  subst hr; simp only [stepG, List.map, stepH]; rw [hx, hy]; exact ⟨rfl, hk⟩
theorem max (hr : (if b > a then b else a) = r) (hk : K ⟨upd e d (.int k r), H⟩) : StepR F ⟨some d, .max, [x, y], none⟩ ⟨e, H⟩ K := by
  refine ⟨?_⟩
  subst hr; simp only [stepG, List.map, stepH]; rw [hx, hy]; exact ⟨rfl, hk⟩
theorem min (hr : (if b < a then b else a) = r) (hk : K ⟨upd e d (.int k r), H⟩) : StepR F ⟨some d, .min, [x, y], none⟩ ⟨e, H⟩ K := by
  refine ⟨?_⟩
  subst hr; simp only [stepG, List.map, stepH]; rw [hx, hy]; exact ⟨rfl, hk⟩
end int

section sh
variable {k k' : IntKind} {a b r : Int} (hx : V e H x (.int k a)) (hy : V e H y (.int k' b)) (h0 : 0 ≤ b)
include hx hy h0
theorem shl (hr : k.wrap (a * 2 ^ Nat.min b.toNat k.bits) = r) (hk : K ⟨upd e d (.int k r), H⟩) : StepR F ⟨some d, .bin .shl, [x, y], none⟩ ⟨e, H⟩ K := by
  refine ⟨?_⟩
  subst hr; simp only [stepG, List.map, stepH]; rw [hx, hy]; exact ⟨h0, hk⟩
theorem shr (hr : a / 2 ^ Nat.min b.toNat k.bits = r) (hk : K ⟨upd e d (.int k r), H⟩) : StepR F ⟨some d, .bin .shr, [x, y], none⟩ ⟨e, H⟩ K := by
  refine ⟨?_⟩
  subst hr; simp only [stepG, List.map, stepH]; rw [hx, hy]; exact ⟨h0, hk⟩
end sh

section str
variable {a b r : ByteArray} {p : Bool} (hx : V e H x (.str a)) (hy : V e H y (.str b))
include hx hy
theorem addS (hl : a.size + b.size ≤ 9223372036854775807) (hr : a ++ b = r) (hk : K ⟨upd e d (.str r), H⟩) : StepR F ⟨some d, .bin .add, [x, y], none⟩ ⟨e, H⟩ K := by
  refine ⟨?_⟩
  subst hr; simp only [stepG, List.map, stepH]; rw [hx, hy]; exact ⟨hl, hk⟩
theorem eqlS (hr : (a.toList == b.toList) = p) (hk : K ⟨upd e d (.bool p), H⟩) : StepR F ⟨some d, .bin .eql, [x, y], none⟩ ⟨e, H⟩ K := by
  refine ⟨?_⟩
  subst hr; simp only [stepG, List.map, stepH]; rw [hx, hy]; exact hk
theorem neqS (hr : (!(a.toList == b.toList)) = p) (hk : K ⟨upd e d (.bool p), H⟩) : StepR F ⟨some d, .bin .neq, [x, y], none⟩ ⟨e, H⟩ K := by
  refine ⟨?_⟩
  subst hr; simp only [stepG, List.map, stepH]; rw [hx, hy]; exact hk
theorem lssS (hr : Op.bytesLess a.toList b.toList = p) (hk : K ⟨upd e d (.bool p), H⟩) : StepR F ⟨some d, .bin .lss, [x, y], none⟩ ⟨e, H⟩ K := by
  refine ⟨?_⟩
  subst hr; simp only [stepG, List.map, stepH]; rw [hx, hy]; exact hk
end str

theorem binB {neg a b p : Bool} (hx : V e H x (.bool a)) (hy : V e H y (.bool b)) (hr : (if neg then !(a == b) else a == b) = p) (hk : K ⟨upd e d (.bool p), H⟩) : StepR F ⟨some d, .binB neg, [x, y], none⟩ ⟨e, H⟩ K := by
  refine ⟨?_⟩
  subst hr; simp only [stepG, List.map, stepH]; rw [hx, hy]; exact hk

theorem eqAgg {neg b p : Bool} {ks : List FK} {u v : List AV} (hx : V e H x (.agg u)) (hy : V e H y (.agg v)) (he : eqCells ks u v = some b) (hr : (if neg then !b else b) = p) (hk : K ⟨upd e d (.bool p), H⟩) :
    StepR F ⟨some d, .eqAgg neg ks, [x, y], none⟩ ⟨e, H⟩ K := by
  refine ⟨?_⟩
  subst hr; simp only [stepG, List.map, stepH]; rw [hx, hy]; simp only [he, someQ]; exact hk

theorem neg {k : IntKind} {a r : Int} (hx : V e H x (.int k a)) (hr : k.wrap (0 - a) = r) (hk : K ⟨upd e d (.int k r), H⟩) : StepR F ⟨some d, .un .neg, [x], none⟩ ⟨e, H⟩ K := by
  refine ⟨?_⟩
  subst hr; simp only [stepG, List.map, stepH]; rw [hx]; exact hk
theorem not {a p : Bool} (hx : V e H x (.bool a)) (hr : (!a) = p) (hk : K ⟨upd e d (.bool p), H⟩) : StepR F ⟨some d, .un .not, [x], none⟩ ⟨e, H⟩ K := by
  refine ⟨?_⟩
  subst hr; simp only [stepG, List.map, stepH]; rw [hx]; exact hk
theorem compl {k : IntKind} {a r : Int} (hx : V e H x (.int k a)) (hr : k.wrap (BitVec.ofInt k.bits (if k.signed then -1 else k.max) ^^^ BitVec.ofInt k.bits a).toNat = r) (hk : K ⟨upd e d (.int k r), H⟩) : StepR F ⟨some d, .un .xor, [x], none⟩ ⟨e, H⟩ K := by
  refine ⟨?_⟩
  subst hr; simp only [stepG, List.map, stepH]; rw [hx]; exact hk
theorem toInt {k k' : IntKind} {a r : Int} (hx : V e H x (.int k' a)) (hr : k.wrap a = r) (hk : K ⟨upd e d (.int k r), H⟩) : StepR F ⟨some d, .toInt k, [x], none⟩ ⟨e, H⟩ K := by
  refine ⟨?_⟩
  subst hr; simp only [stepG, List.map, stepH]; rw [hx]; exact hk

theorem b2s {v : AV} {es : List (List AV)} {l : List UInt8} {s : ByteArray} (hx : V e H x v) (hr : readQ H v fun a => a = es) (hb : bytesOfEs es = some l) (hs : (⟨l.toArray⟩ : ByteArray) = s) (hk : K ⟨upd e d (.str s), H⟩) :
    StepR F ⟨some d, .b2s, [x], none⟩ ⟨e, H⟩ K := by
  refine ⟨?_⟩
  subst hs; simp only [stepG, List.map, stepH]; rw [hx]
  exact readQ_mono hr fun a h => by
    subst h
    simp only [hb, someQ]
    exact hk
theorem s2b {s : ByteArray} {es : List (List AV)} (hx : V e H x (.str s)) (hr : esOfBytes s = es) (hk : K ⟨upd e d (.sl es), H⟩) : StepR F ⟨some d, .s2b, [x], none⟩ ⟨e, H⟩ K := by
  refine ⟨?_⟩
  subst hr; simp only [stepG, List.map, stepH]; rw [hx]; exact hk

theorem mkSl {t sz bytes g m : Nat} {c : List AV} {k k' : IntKind} {n q : Int} {es : List (List AV)} (hx : V e H x (.int k n)) (hy : V e H y (.int k' q)) (h0 : 0 ≤ n) (h1 : n ≤ q) (h2 : (bytes : Int) * q ≤ 140737488355328) (h3 : q ≤ 1099511627776)
    (hg : (H d).1 + 1 = g) (hm : n.toNat = m) (he : List.replicate m c = es) (hk : K ⟨upd e d (.view d g sz m), upd H d (g, some (.arr t sz es))⟩) : StepR F ⟨some d, .mkSl t sz bytes c, [x, y], none⟩ ⟨e, H⟩ K := by
  refine ⟨?_⟩
  subst hg hm he; simp only [stepG, List.map, stepH]; rw [hx, hy]; exact ⟨h0, h1, h2, h3, hk⟩

theorem sliceS {lo hi : Bool} {s r : ByteArray} {xs : List Opd} {l h : Nat} (hx : V e H x (.str s)) (hq : sliceQ s.size lo hi (xs.map (St.ev ⟨e, H⟩)) fun a b => a = l ∧ b = h) (hr : s.extract l h = r) (hk : K ⟨upd e d (.str r), H⟩) :
    StepR F ⟨some d, .sliceS lo hi, x :: xs, none⟩ ⟨e, H⟩ K := by
  refine ⟨?_⟩
  subst hr; simp only [stepG, List.map, stepH]; rw [hx]
  exact sliceQ_mono hq fun a b ⟨h1, h2⟩ => by
    subst h1 h2
    exact hk

theorem sliceL {sz : Nat} {lo hi : Bool} {v : AV} {es r : List (List AV)} {us : Upds} {xs : List Opd} {l h : Nat} (hx : V e H x v) (hf : freezeQ H v fun a b => a = .sl es ∧ b = us) (ha : AllLen sz es)
    (hq : sliceQ es.length lo hi (xs.map (St.ev ⟨e, H⟩)) fun a b => a = l ∧ b = h) (hr : (es.take h).drop l = r) (hk : K ⟨upd e d (.sl r), updH H us⟩) : StepR F ⟨some d, .sliceL sz lo hi, x :: xs, none⟩ ⟨e, H⟩ K := by
  refine ⟨?_⟩
  subst hr; simp only [stepG, List.map, stepH]; rw [hx]
  refine .inl ?_
  exact freezeQ_mono hf fun a b ⟨h1, h2⟩ => by
    subst h1 h2
    exact ⟨ha, sliceQ_mono hq fun a b ⟨h1, h2⟩ => by
      subst h1 h2
      exact hk⟩

theorem sliceSub {s g sz n l m : Nat} {lo hi : Bool} {xs : List Opd} (hx : V e H x (.view s g sz n)) (hq : sliceQ n lo hi (xs.map (St.ev ⟨e, H⟩)) fun a b => a = l ∧ b = m) (hlt : l < m) (hk : K ⟨upd e d (.sub s g sz l (m - l)), H⟩) :
    StepR F ⟨some d, .sliceL sz lo hi, x :: xs, none⟩ ⟨e, H⟩ K := by
  refine ⟨?_⟩
  simp only [stepG, List.map, stepH]; rw [hx]
  refine .inr ?_
  simp only [sliceAlt]
  exact ⟨trivial, sliceQ_mono hq fun a b ⟨h1, h2⟩ => by
    subst h1 h2
    exact .inl ⟨hlt, hk⟩⟩
theorem sliceTr {s g sz n m t : Nat} {es es' : List (List AV)} {k : IntKind} {i : Int} (hx : V e H x (.view s g sz n)) (hy : V e H y (.int k i)) (h0 : 0 ≤ i) (hle : i ≤ n) (hm : i.toNat = m) (hH : H s = (g, some (.arr t sz es))) (hn : es.length = n) (he : es.take m = es')
    (hk : K ⟨upd e d (.view s (g + 1) sz m), upd H s (g + 1, some (.arr t sz es'))⟩) : StepR F ⟨some d, .sliceL sz false true, [x, y], none⟩ ⟨e, H⟩ K := by
  refine ⟨?_⟩
  subst hm he
  simp only [stepG, List.map, stepH]; rw [hx, hy]
  refine .inr ?_
  simp only [sliceAlt, hH]
  exact ⟨trivial, Int.le_refl _, h0, hle, .inr ⟨rfl, trivial, trivial, hn, hk⟩⟩
theorem sliceNil {sz : Nat} {lo hi : Bool} {xs : List Opd} (hx : V e H x .nil) (hq : sliceQ 0 lo hi (xs.map (St.ev ⟨e, H⟩)) fun _ _ => True) (hk : K ⟨upd e d .nil, H⟩) :
    StepR F ⟨some d, .sliceL sz lo hi, x :: xs, none⟩ ⟨e, H⟩ K := by
  refine ⟨?_⟩
  simp only [stepG, List.map, stepH]; rw [hx]
  refine .inr ?_
  simp only [sliceAlt]
  exact sliceQ_mono hq fun _ _ _ => hk
theorem iaddrSub {sz j s g n off : Nat} {k : IntKind} {i : Int} (hx : V e H x (.sub s g sz off n)) (hy : V e H y (.int k i)) (h0 : 0 ≤ i) (hj : off + i.toNat = j) (hn : i < n) (hk : K ⟨upd e d (.eptr s g sz j 0), H⟩) :
    StepR F ⟨some d, .iaddr sz, [x, y], none⟩ ⟨e, H⟩ K := by
  refine ⟨?_⟩
  subst hj; simp only [stepG, List.map, stepH]; rw [hx, hy]; exact ⟨h0, rfl, hn, hk⟩
theorem isNilN {neg b : Bool} (hx : V e H x .nil) (hy : V e H y .nil) (hb : (!neg) = b) (hk : K ⟨upd e d (.bool b), H⟩) : StepR F ⟨some d, .isNil neg, [x, y], none⟩ ⟨e, H⟩ K := by
  refine ⟨?_⟩
  subst hb; simp only [stepG, List.map, stepH]; rw [hx, hy]; exact hk
theorem isNilS {neg b : Bool} {es : List (List AV)} (hx : V e H x (.slN es)) (hy : V e H y .nil) (hb : neg = b) (hk : K ⟨upd e d (.bool b), H⟩) : StepR F ⟨some d, .isNil neg, [x, y], none⟩ ⟨e, H⟩ K := by
  refine ⟨?_⟩
  subst hb; simp only [stepG, List.map, stepH]; rw [hx, hy]; exact hk
theorem capN (hx : V e H x .nil) (hk : K ⟨upd e d (.int .i64 0), H⟩) : StepR F ⟨some d, .cap, [x], none⟩ ⟨e, H⟩ K := by
  refine ⟨?_⟩
  simp only [stepG, List.map, stepH]; rw [hx]; exact hk

theorem faddrP {off s g k j : Nat} (hx : V e H x (.ptr s g k)) (hj : k + off = j) (hk : K ⟨upd e d (.ptr s g j), H⟩) : StepR F ⟨some d, .faddr off, [x], none⟩ ⟨e, H⟩ K := by
  refine ⟨?_⟩
  subst hj; simp only [stepG, List.map, stepH]; rw [hx]; exact hk
theorem faddrE {off s g sz i k j : Nat} (hx : V e H x (.eptr s g sz i k)) (hj : k + off = j) (hk : K ⟨upd e d (.eptr s g sz i j), H⟩) : StepR F ⟨some d, .faddr off, [x], none⟩ ⟨e, H⟩ K := by
  refine ⟨?_⟩
  subst hj; simp only [stepG, List.map, stepH]; rw [hx]; exact hk
theorem faddrC {off : Nat} {c c' : List AV} (hx : V e H x (.pcell c)) (hj : c.drop off = c') (hk : K ⟨upd e d (.pcell c'), H⟩) : StepR F ⟨some d, .faddr off, [x], none⟩ ⟨e, H⟩ K := by
  refine ⟨?_⟩
  subst hj; simp only [stepG, List.map, stepH]; rw [hx]; exact hk
theorem field {off : Nat} {q : Option Nat} {c : List AV} {v : AV} (hx : V e H x (.agg c)) (ht : takeAt q c off = some v) (hk : K ⟨upd e d v, H⟩) : StepR F ⟨some d, .field off q, [x], none⟩ ⟨e, H⟩ K := by
  refine ⟨?_⟩
  simp only [stepG, List.map, stepH]; rw [hx]; simp only [ht, someQ]; exact hk
theorem iaddrL {sz j : Nat} {k : IntKind} {i : Int} {es : List (List AV)} {c : List AV} (hx : V e H x (.sl es)) (hy : V e H y (.int k i)) (h0 : 0 ≤ i) (hj : i.toNat = j) (ha : AllLen sz es) (hc : es[j]? = some c) (hk : K ⟨upd e d (.pcell c), H⟩) :
    StepR F ⟨some d, .iaddr sz, [x, y], none⟩ ⟨e, H⟩ K := by
  refine ⟨?_⟩
  subst hj; simp only [stepG, List.map, stepH]; rw [hx, hy]; simp only [hc, someQ]; exact ⟨h0, ha, hk⟩
theorem iaddrV {sz j s g n : Nat} {k : IntKind} {i : Int} (hx : V e H x (.view s g sz n)) (hy : V e H y (.int k i)) (h0 : 0 ≤ i) (hj : i.toNat = j) (hn : i < n) (hk : K ⟨upd e d (.eptr s g sz j 0), H⟩) :
    StepR F ⟨some d, .iaddr sz, [x, y], none⟩ ⟨e, H⟩ K := by
  refine ⟨?_⟩
  subst hj; simp only [stepG, List.map, stepH]; rw [hx, hy]; exact ⟨h0, rfl, hn, hk⟩
theorem index {k : IntKind} {i : Int} {j : Nat} {s : ByteArray} {b : UInt8} {r : Int} (hx : V e H x (.str s)) (hy : V e H y (.int k i)) (h0 : 0 ≤ i) (hj : i.toNat = j) (hb : s.data[j]? = some b) (hr : (b.toNat : Int) = r) (hk : K ⟨upd e d (.int .u8 r), H⟩) :
    StepR F ⟨some d, .index, [x, y], none⟩ ⟨e, H⟩ K := by
  refine ⟨?_⟩
  subst hj hr; simp only [stepG, List.map, stepH]; rw [hx, hy]; simp only [hb, someQ]; exact ⟨h0, hk⟩
theorem extract {i : Nat} {vs : List AV} {v : AV} (hx : V e H x (.tup vs)) (hv : vs[i]? = some v) (hk : K ⟨upd e d v, H⟩) : StepR F ⟨some d, .extract i, [x], none⟩ ⟨e, H⟩ K := by
  refine ⟨?_⟩
  simp only [stepG, List.map, stepH]; rw [hx]; simp only [hv, someQ]; exact hk

theorem call {f : Nat} {xs : List Opd} {ys : List AV} {us : Upds} {r : AV} (hf : freezeALQ H (xs.map (St.ev ⟨e, H⟩)) fun a b => a = ys ∧ b = us) (hr : F f ys r) (ho : isOwn r = false) (hk : K ⟨upd e d r, updH H us⟩) :
    StepR F ⟨some d, .call f, xs, none⟩ ⟨e, H⟩ K := by
  refine ⟨.inl ?_⟩
  exact
  freezeALQ_mono hf fun a b ⟨h1, h2⟩ => by
    subst h1 h2
    exact ⟨r, hr, recvQ_of ho hk⟩
theorem callU {f : Nat} {xs : List Opd} {ys : List AV} {us : Upds} {r : AV} (hf : freezeALQ H (xs.map (St.ev ⟨e, H⟩)) fun a b => a = ys ∧ b = us) (hr : F f ys r) (ho : isOwn r = false) (hk : K ⟨e, updH H us⟩) :
    StepR F ⟨none, .call f, xs, none⟩ ⟨e, H⟩ K := by
  refine ⟨.inl ?_⟩
  exact
  freezeALQ_mono hf fun a b ⟨h1, h2⟩ => by
    subst h1 h2
    exact ⟨r, hr, recvQ_of ho hk⟩
theorem callO {f t sz : Nat} {xs : List Opd} {ys : List AV} {us : Upds} {es : List (List AV)} {g n : Nat} (hf : freezeALQ H (xs.map (St.ev ⟨e, H⟩)) fun a b => a = ys ∧ b = us) (hr : F f ys (.own t sz es)) (hg : (H d).1 + 1 = g) (hn : es.length = n)
    (hk : K ⟨upd e d (.view d g sz n), updH H (us ++ [(d, g, some (.arr t sz es))])⟩) : StepR F ⟨some d, .call f, xs, none⟩ ⟨e, H⟩ K := by
  refine ⟨.inl ?_⟩
  exact
  freezeALQ_mono hf fun a b ⟨h1, h2⟩ => by
    subst h1 h2 hg hn
    exact ⟨_, hr, hk⟩
theorem callN {f : Nat} {xs : List Opd} {ys : List AV} {us : Upds} {r : AV} (hf : freezeNLQ H (xs.map (St.ev ⟨e, H⟩)) fun a b => a = ys ∧ b = us) (hr : F f ys r) (ho : isOwn r = false) (hk : K ⟨upd e d r, updH H us⟩) :
    StepR F ⟨some d, .call f, xs, none⟩ ⟨e, H⟩ K := by
  refine ⟨.inr (.inl ?_)⟩
  exact
  freezeNLQ_mono hf fun a b ⟨h1, h2⟩ => by
    subst h1 h2
    exact ⟨r, hr, recvQ_of ho hk⟩
theorem callNO {f t sz : Nat} {xs : List Opd} {ys : List AV} {us : Upds} {es : List (List AV)} {g n : Nat} (hf : freezeNLQ H (xs.map (St.ev ⟨e, H⟩)) fun a b => a = ys ∧ b = us) (hr : F f ys (.own t sz es)) (hg : (H d).1 + 1 = g) (hn : es.length = n)
    (hk : K ⟨upd e d (.view d g sz n), updH H (us ++ [(d, g, some (.arr t sz es))])⟩) : StepR F ⟨some d, .call f, xs, none⟩ ⟨e, H⟩ K := by
  refine ⟨.inr (.inl ?_)⟩
  exact
  freezeNLQ_mono hf fun a b ⟨h1, h2⟩ => by
    subst h1 h2 hg hn
    exact ⟨_, hr, hk⟩
theorem callIOq {xs : List AV} {f s g sz off n t : Nat} {K : Kont} {ys : List AV} {us : Upds} {es es' : List (List AV)} {r : AV} (hH : H s = (g, some (.arr t sz es))) (hfit : off + n ≤ es.length)
    (hf : freezeALQ H xs fun a b => a = ys ∧ b = us) (hu : (us.all fun u => u.1 != s) = true) (hr : F f (.tup [.own t sz es, .ptr off n 0] :: ys) (.tup [r, .own t sz es'])) (hk : K r (us ++ [(s, g, some (.arr t sz es'))])) : callIO F f (.sub s g sz off n :: xs) H K := by
  simp only [callIO, hH]
  exact ⟨trivial, trivial, hfit, freezeALQ_mono hf fun a b ⟨h1, h2⟩ => by
    subst h1 h2
    exact ⟨hu, r, es', hr, hk⟩⟩
theorem callIOS {f s g sz off n t : Nat} {xs : List Opd} {ys : List AV} {us : Upds} {es es' : List (List AV)} {r : AV} (hx : V e H x (.sub s g sz off n)) (hH : H s = (g, some (.arr t sz es))) (hfit : off + n ≤ es.length)
    (hf : freezeALQ H (xs.map (St.ev ⟨e, H⟩)) fun a b => a = ys ∧ b = us) (hu : (us.all fun u => u.1 != s) = true) (hr : F f (.tup [.own t sz es, .ptr off n 0] :: ys) (.tup [r, .own t sz es']))
    (hk : K ⟨upd e d r, updH H (us ++ [(s, g, some (.arr t sz es'))])⟩) : StepR F ⟨some d, .call f, x :: xs, none⟩ ⟨e, H⟩ K := by
  refine ⟨.inr (.inr ?_)⟩
  simp only [List.map]
  rw [hx]
  exact callIOq hH hfit hf hu hr hk
theorem callIOU {f s g sz off n t : Nat} {xs : List Opd} {ys : List AV} {us : Upds} {es es' : List (List AV)} {r : AV} (hx : V e H x (.sub s g sz off n)) (hH : H s = (g, some (.arr t sz es))) (hfit : off + n ≤ es.length)
    (hf : freezeALQ H (xs.map (St.ev ⟨e, H⟩)) fun a b => a = ys ∧ b = us) (hu : (us.all fun u => u.1 != s) = true) (hr : F f (.tup [.own t sz es, .ptr off n 0] :: ys) (.tup [r, .own t sz es']))
    (hk : K ⟨e, updH H (us ++ [(s, g, some (.arr t sz es'))])⟩) : StepR F ⟨none, .call f, x :: xs, none⟩ ⟨e, H⟩ K := by
  refine ⟨.inr (.inr ?_)⟩
  simp only [List.map]
  rw [hx]
  exact callIOq hH hfit hf hu hr hk
theorem callv {f : Nat} {xs : List Opd} {ys : List AV} {us : Upds} {r : AV} (hx : V e H x (.fn f)) (hf : freezeALQ H (xs.map (St.ev ⟨e, H⟩)) fun a b => a = ys ∧ b = us) (hr : F f ys r) (ho : isOwn r = false) (hk : K ⟨upd e d r, updH H us⟩) :
    StepR F ⟨some d, .callv, x :: xs, none⟩ ⟨e, H⟩ K := by
  refine ⟨?_⟩
  simp only [stepG, List.map, stepH]; rw [hx]
  exact freezeALQ_mono hf fun a b ⟨h1, h2⟩ => by
    subst h1 h2
    exact ⟨r, hr, recvQ_of ho hk⟩

theorem lenS {s : ByteArray} {n : Int} (hx : V e H x (.str s)) (hn : (s.size : Int) = n) (hk : K ⟨upd e d (.int .i64 n), H⟩) : StepR F ⟨some d, .lenS, [x], none⟩ ⟨e, H⟩ K := by
  refine ⟨?_⟩
  subst hn; simp only [stepG, List.map, stepH]; rw [hx]; exact hk
theorem lenL {es : List (List AV)} {n : Int} (hx : V e H x (.sl es)) (hn : (es.length : Int) = n) (hk : K ⟨upd e d (.int .i64 n), H⟩) : StepR F ⟨some d, .lenL, [x], none⟩ ⟨e, H⟩ K := by
  refine ⟨?_⟩
  subst hn; simp only [stepG, List.map, stepH]; rw [hx]; exact hk
theorem lenN (hx : V e H x .nil) (hk : K ⟨upd e d (.int .i64 0), H⟩) : StepR F ⟨some d, .lenL, [x], none⟩ ⟨e, H⟩ K := by
  refine ⟨?_⟩
  simp only [stepG, List.map, stepH]; rw [hx]; exact hk
theorem lenV {s g sz n : Nat} (hx : V e H x (.view s g sz n)) (hk : K ⟨upd e d (.int .i64 n), H⟩) : StepR F ⟨some d, .lenL, [x], none⟩ ⟨e, H⟩ K := by
  refine ⟨?_⟩
  simp only [stepG, List.map, stepH]; rw [hx]; exact hk

theorem appN {t sz bytes g n : Nat} {v : AV} {es : List (List AV)} (hx : V e H x .nil) (hy : V e H y v) (hr : readQ H v fun a => a = es) (ha : AllLen sz es) (h1 : es.length * bytes ≤ 140737488355328) (h2 : es.length ≤ 1099511627776)
    (hg : (H d).1 + 1 = g) (hn : es.length = n) (hk : K ⟨upd e d (.view d g sz n), upd H d (g, some (.arr t sz es))⟩) : StepR F ⟨some d, .app t sz bytes, [x, y], none⟩ ⟨e, H⟩ K := by
  refine ⟨?_⟩
  subst hg hn; simp only [stepG, List.map, stepH, appQ]; rw [hx, hy]
  exact readQ_mono hr fun a h => by
    subst h
    exact ⟨ha, h1, h2, hk⟩
theorem appV {t sz bytes s g m n : Nat} {v : AV} {es es1 es' : List (List AV)} (hx : V e H x (.view s g sz m)) (hy : V e H y v) (hH : H s = (g, some (.arr t sz es1))) (hm : es1.length = m) (hr : readQ H v fun a => a = es) (ha : AllLen sz es)
    (hn : m + es.length = n) (h1 : n * bytes ≤ 140737488355328) (h2 : n ≤ 1099511627776) (he : es1 ++ es = es') (hk : K ⟨upd e d (.view s (g + 1) sz n), upd H s (g + 1, some (.arr t sz es'))⟩) : StepR F ⟨some d, .app t sz bytes, [x, y], none⟩ ⟨e, H⟩ K := by
  refine ⟨?_⟩
  subst hn he; simp only [stepG, List.map, stepH, appQ]; rw [hx, hy]
  exact readQ_mono hr fun a h => by
    subst h
    simp only [hH]
    exact ⟨ha, trivial, trivial, trivial, trivial, hm, h1, h2, hk⟩
theorem copy {t sz s g m : Nat} {v : AV} {es es1 es' : List (List AV)} (hx : V e H x (.view s g sz m)) (hy : V e H y v) (hH : H s = (g, some (.arr t sz es1))) (hm : es1.length = m) (hr : readQ H v fun a => a = es) (ha : AllLen sz es)
    (he : es.take m ++ es1.drop es.length = es') (hk : K ⟨upd e d (.int .i64 (Nat.min es.length m : Nat)), upd H s (g, some (.arr t sz es'))⟩) : StepR F ⟨some d, .copy sz, [x, y], none⟩ ⟨e, H⟩ K := by
  refine ⟨?_⟩
  subst he; simp only [stepG, List.map, stepH, copyQ]; rw [hx, hy]
  exact readQ_mono hr fun a h => by
    subst h
    simp only [hH]
    exact ⟨ha, trivial, trivial, trivial, hm, hk⟩
theorem copyU {t sz s g m : Nat} {v : AV} {es es1 es' : List (List AV)} (hx : V e H x (.view s g sz m)) (hy : V e H y v) (hH : H s = (g, some (.arr t sz es1))) (hm : es1.length = m) (hr : readQ H v fun a => a = es) (ha : AllLen sz es)
    (he : es.take m ++ es1.drop es.length = es') (hk : K ⟨e, upd H s (g, some (.arr t sz es'))⟩) : StepR F ⟨none, .copy sz, [x, y], none⟩ ⟨e, H⟩ K := by
  refine ⟨?_⟩
  subst he; simp only [stepG, List.map, stepH, copyQ]; rw [hx, hy]
  exact readQ_mono hr fun a h => by
    subst h
    simp only [hH]
    exact ⟨ha, trivial, trivial, trivial, hm, hk⟩
theorem mkfn {f : Nat} (hk : K ⟨upd e d (.fn f), H⟩) : StepR F ⟨some d, .mkfn f, [], none⟩ ⟨e, H⟩ K := ⟨hk⟩

end S
end Go.Ev
