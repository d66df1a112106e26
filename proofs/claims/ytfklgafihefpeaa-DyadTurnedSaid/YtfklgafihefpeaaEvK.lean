/- An abstract evaluator, part 20: a loaded function by one equation; the steps, head by head. -/
import Derived.Test.YtfklgafihefpeaaEvJ
set_option linter.unusedVariables false
set_option linter.unusedSimpArgs false
namespace Go.Ev
open Go.RowKit

/-- What a walk needs of a loaded function. -/
def told (P : Program) (fn : Func) : Option (Nat × ACode × List ARes) :=
  if fn.name == "runtime.NumGoroutine" then none
  else fn.body.bind fun c => (convC P fn.ntmps c).bind fun ac => (fn.results.toList.mapM (convRes P)).map fun rs => (fn.ntmps, ac, rs)

/-- How a function ends. A structure, that nothing unfolds it. -/
structure Fin (rs : List ARes) (r : AV) (e : Ex) (st : St) : Prop where
  out : Ends rs r e st

theorem Fn.of {P : Program} {f : FuncId} {fn : Func} {n : Nat} {ac : ACode} {rs : List ARes} (hm : P.follows .mixedOrders = true) (hf : P.funcs[f]? = some fn) (hk : told P fn = some (n, ac, rs))
    {args : List AV} {r : AV} (hl : args.length ≤ n) (h : Run (Fn P) ac (Fin rs r) (initSt args)) (hio : isIO args = false := by rfl) : Fn P f args r := by
  refine Fn.ofN ?_ hio
  unfold told at hk
  split at hk
  · cases hk
  · rename_i hn
    simp only [Option.bind_eq_some_iff, Option.map_eq_some_iff, Prod.mk.injEq] at hk
    obtain ⟨c, hb, ac', hc, rs', hr, rfl, rfl, rfl⟩ := hk
    exact FnN.intro hm hf hb (by simpa using hn) hc hr hl (h.mono fun _ _ h => h.out)

/-! ### states by what is known of them -/
def over (l : List (Nat × AV)) (e : Nat → AV) : Nat → AV :=
  match l with
  | [] => e
  | (d, v) :: l => upd (over l e) d v

def overH (l : List (Nat × Nat × Option Blk)) (h : Heap) : Heap :=
  match l with
  | [] => h
  | (d, v) :: l => upd (overH l h) d v

def Has (e : Nat → AV) : List (Nat × AV) → Prop
  | [] => True
  | (d, v) :: l => e d = v ∧ Has e l

def HasH (h : Heap) : List (Nat × Nat × Option Blk) → Prop
  | [] => True
  | (d, v) :: l => h d = v ∧ HasH h l

theorem upd_self {α : Type} (f : Nat → α) (d : Nat) : upd f d (f d) = f := by
  funext t
  unfold upd
  split
  · rename_i h
    rw [h]
  · rfl

theorem Has.over {e : Nat → AV} : ∀ {l : List (Nat × AV)}, Has e l → over l e = e
  | [], _ => rfl
  | (d, v) :: l, ⟨h1, h2⟩ => by
    simp only [Go.Ev.over]
    rw [Has.over h2, ← h1, upd_self]

theorem HasH.over {e : Heap} : ∀ {l : List (Nat × Nat × Option Blk)}, HasH e l → overH l e = e
  | [], _ => rfl
  | (d, v) :: l, ⟨h1, h2⟩ => by
    simp only [Go.Ev.overH]
    rw [HasH.over h2, ← h1, upd_self]

/-- A state of which this is known. -/
structure Is (l : List (Nat × AV)) (k : List (Nat × Nat × Option Blk)) (st : St) : Prop where
  env : Has st.env l
  heap : HasH st.H k

theorem Is.eq {l : List (Nat × AV)} {k : List (Nat × Nat × Option Blk)} {st : St} (h : Is l k st) : st = ⟨over l st.env, overH k st.H⟩ := by
  rw [h.env.over, h.heap.over]

/-- Forgets a state's all but what is known of it. -/
theorem Is.elim {l : List (Nat × AV)} {k : List (Nat × Nat × Option Blk)} {R : St → Prop} (h : ∀ e H, R ⟨over l e, overH k H⟩) {st : St} (hs : Is l k st) : R st := by
  rw [hs.eq]
  exact h _ _

/-- A cut: what is known suffices. -/
theorem Run.cut {F : Nat → List AV → AV → Prop} {c : ACode} {Q : Ex → St → Prop} {st : St} (l : List (Nat × AV)) (k : List (Nat × Nat × Option Blk)) (hs : Is l k st) (h : ∀ e H, Run F c Q ⟨over l e, overH k H⟩) : Run F c Q st :=
  hs.elim h

/-! ### steps, wrapped so that nothing unfolds them -/
structure StepR (F : Nat → List AV → AV → Prop) (o : AO) (st : St) (K : St → Prop) : Prop where
  out : stepG F o st K
structure OpsR (F : Nat → List AV → AV → Prop) (os : List AO) (Q : St → Prop) (st : St) : Prop where
  out : RunOps F os Q st
structure DrawR (F : Nat → List AV → AV → Prop) (bef : List Nat) (os : List AO) (i : Nat) (log : List (Nat × List (Nat × Bool))) (Q : St → Prop) (st : St) : Prop where
  out : RunD F bef os i log Q st

section
variable {F : Nat → List AV → AV → Prop}
theorem stepG_mono {o : AO} {st : St} {K K' : St → Prop} (h : stepG F o st K) (hk : ∀ st, K st → K' st) : stepG F o st K' := by
  obtain ⟨v, us, h1, h2⟩ := stepG_picks h
  exact (h2.2 st (fun _ _ => rfl) (fun _ _ => rfl)).2 _ (hk _ h1)
theorem OpsR.nil {Q : St → Prop} {st : St} (h : Q st) : OpsR F [] Q st := ⟨h⟩
theorem OpsR.cons {o : AO} {os : List AO} {Q : St → Prop} {st : St} (h : StepR F o st fun st => OpsR F os Q st) : OpsR F (o :: os) Q st := ⟨stepG_mono h.out fun _ h => h.out⟩
theorem DrawR.nil {bef : List Nat} {i : Nat} {log : List (Nat × List (Nat × Bool))} {Q : St → Prop} {st : St} (h : Q st) : DrawR F bef [] i log Q st := ⟨h⟩
theorem DrawR.cons {bef : List Nat} {i : Nat} {log log' : List (Nat × List (Nat × Bool))} {o : AO} {os : List AO} {Q : St → Prop} {st : St} (hl : logOk (bef.getD i 0) (footG o st) log = true) (hl' : addLog i (footG o st) log = log')
    (h : StepR F o st fun st => DrawR F bef os (i + 1) log' Q st) : DrawR F bef (o :: os) i log Q st := by
  subst hl'
  exact ⟨⟨hl, stepG_mono h.out fun _ h => h.out⟩⟩
theorem DrawR.cons0 {bef : List Nat} {i : Nat} {log : List (Nat × List (Nat × Bool))} {o : AO} {os : List AO} {Q : St → Prop} {st : St} (hf : footG o st = [])
    (h : StepR F o st fun st => DrawR F bef os (i + 1) log Q st) : DrawR F bef (o :: os) i log Q st := by
  refine DrawR.cons ?_ rfl ?_
  · rw [hf]
    simp [logOk, feetApart]
  · rw [hf]
    exact h
theorem DrawR.cons1 {bef : List Nat} {i : Nat} {log : List (Nat × List (Nat × Bool))} {o : AO} {os : List AO} {Q : St → Prop} {st : St} {x : Nat × Bool} (hf : footG o st = [x]) (hl : logOk (bef.getD i 0) [x] log = true)
    (h : StepR F o st fun st => DrawR F bef os (i + 1) ((i, [x]) :: log) Q st) : DrawR F bef (o :: os) i log Q st :=
  DrawR.cons (by rw [hf]; exact hl) (by rw [hf]; rfl) h
theorem DrawR.cons2 {bef : List Nat} {i : Nat} {log : List (Nat × List (Nat × Bool))} {o : AO} {os : List AO} {Q : St → Prop} {st : St} {x y : Nat × Bool} (hf : footG o st = [x, y]) (hl : logOk (bef.getD i 0) [x, y] log = true)
    (h : StepR F o st fun st => DrawR F bef os (i + 1) ((i, [x, y]) :: log) Q st) : DrawR F bef (o :: os) i log Q st :=
  DrawR.cons (by rw [hf]; exact hl) (by rw [hf]; rfl) h
theorem DrawR.cons3 {bef : List Nat} {i : Nat} {log : List (Nat × List (Nat × Bool))} {o : AO} {os : List AO} {Q : St → Prop} {st : St} {x y z : Nat × Bool} (hf : footG o st = [x, y, z]) (hl : logOk (bef.getD i 0) [x, y, z] log = true)
    (h : StepR F o st fun st => DrawR F bef os (i + 1) ((i, [x, y, z]) :: log) Q st) : DrawR F bef (o :: os) i log Q st :=
  DrawR.cons (by rw [hf]; exact hl) (by rw [hf]; rfl) h
theorem Run.ops {ops : List AO} {Q : Ex → St → Prop} {st : St} (h : OpsR F ops (Q .normal) st) : Run F (.region ops) Q st := Run.region h.out
theorem Run.drawn {ops : List AO} {bef : List Nat} {Q : Ex → St → Prop} {st : St} (h : DrawR F bef ops 0 [] (Q .normal) st) : Run F (.draw ops bef) Q st := Run.draw h.out
theorem Run.seqO {ops : List AO} {b : ACode} {Q : Ex → St → Prop} {st : St} (h : OpsR F ops (Run F b Q) st) : Run F (.seq (.region ops) b) Q st := Run.seqR h.out
theorem Run.seqW {ops : List AO} {bef : List Nat} {b : ACode} {Q : Ex → St → Prop} {st : St} (h : DrawR F bef ops 0 [] (Run F b Q) st) : Run F (.seq (.draw ops bef) b) Q st := Run.seqD h.out
end

/-! ### the wrap of a number in its range -/
theorem w64 {n : Int} (h1 : -9223372036854775808 ≤ n) (h2 : n < 9223372036854775808) : IntKind.wrap .i64 n = n := by
  simp [IntKind.wrap, IntKind.bits, IntKind.signed]
  omega
theorem w32 {n : Int} (h1 : 0 ≤ n) (h2 : n < 4294967296) : IntKind.wrap .u32 n = n := by
  simp [IntKind.wrap, IntKind.bits, IntKind.signed]
  omega
theorem wu64 {n : Int} (h1 : 0 ≤ n) (h2 : n < 18446744073709551616) : IntKind.wrap .u64 n = n := by
  simp [IntKind.wrap, IntKind.bits, IntKind.signed]
  omega
theorem wi32 {n : Int} (h1 : -2147483648 ≤ n) (h2 : n < 2147483648) : IntKind.wrap .i32 n = n := by
  simp [IntKind.wrap, IntKind.bits, IntKind.signed]
  omega
theorem w8 {n : Int} (h1 : 0 ≤ n) (h2 : n < 256) : IntKind.wrap .u8 n = n := by
  simp [IntKind.wrap, IntKind.bits, IntKind.signed]
  omega
theorem wrap32 (n : Int) : IntKind.wrap .u32 n = n % 4294967296 := by
  simp [IntKind.wrap, IntKind.bits, IntKind.signed]

end Go.Ev
